/- A list's names, counted by a map. Conditions: none. -/
import Derived.Test.YtieeiiibamkbmaaGreatAmXE
import Derived.WalkKit
import Derived.Maps.OwnSet
import Derived.StringKeys
namespace Go.Proofs.YtieeiiibamkbmaaGreat.Am
open Go Go.RowKit Go.Maps
set_option linter.unusedVariables false

theorem law9 : Keyed Tryz.prog 9 := string_keyed Tryz.underlying9
theorem zero274 (w : World) : (zeroValue 274).run Tryz.prog w = .ok (.agg #[]) w := by kernel_rfl
def keysOf (l : List ByteArray) : List Lit := l.map (fun s => Lit.string s.data.toList)
def setD (l : List ByteArray) (k : Nat) : DataW Unit := setOf (.agg []) (keysOf (l.take k))
theorem setD_zero (l : List ByteArray) : setD l 0 = .map [] := rfl
theorem setD_succ (l : List ByteArray) (k : Nat) (s : ByteArray) (h : l[k]? = some s) : setD l (k + 1) = (setD l k).put (.string s.data.toList) (.agg []) := by
  unfold setD keysOf
  rw [List.take_add_one, h]
  simp [setOf_snoc]
theorem setD_size (l : List ByteArray) : Maps.size (setD l l.length) = nd l := by
  unfold setD nd keysOf
  rw [List.take_length]
  exact size_setOf _ _ (fun x hx => by obtain ⟨_, _, rfl⟩ := List.mem_map.1 hx; trivial)
set_option maxHeartbeats 1000000 in
set_option maxRecDepth 100000 in
theorem twice_Item_any (b off len cap : Nat) (xs : List (ByteArray × Int × Int × Int × Int × Int × Int)) (w : World) (hz : xs.length = len) (hcap : len ≤ maxLen) (hb : 0 < len → b < w.heap.size)
    (hs : ∀ x ∈ xs, ByteArray.size x.1 ≤ maxLen)
    (hc : ∀ (i : Nat) x, xs[i]? = some x → w.cell? ⟨b, off + i * 7, none⟩ = some (.string x.1) ∧ w.cell? ⟨b, off + i * 7 + 1, none⟩ = some (.int .i64 x.2.1) ∧ w.cell? ⟨b, off + i * 7 + 2, none⟩ = some (.int .i64 x.2.2.1) ∧ w.cell? ⟨b, off + i * 7 + 3, none⟩ = some (.int .i64 x.2.2.2.1) ∧ w.cell? ⟨b, off + i * 7 + 4, none⟩ = some (.int .i64 x.2.2.2.2.1) ∧ w.cell? ⟨b, off + i * 7 + 5, none⟩ = some (.int .i64 x.2.2.2.2.2.1) ∧ w.cell? ⟨b, off + i * 7 + 6, none⟩ = some (.int .i64 x.2.2.2.2.2.2)) :
    Calls Tryz.prog 264 #[.slice (some ⟨b, off, none⟩) len cap, .func (.func 265) #[] #[]] w fun e w' => e = .returned (.bool (twiceB (xs.map (fun x => x.1)))) ∧ Below w.heap.size w w' := by
  have hmm := @run_makeMap Tryz.prog
  unfold maxLen at hcap
  go_enter Tryz.func264, Tryz.ntmps264
  go_wp2
  go_loopw [11] (fun i wr => ∃ k : Nat, k ≤ len ∧ i = .int .i64 k ∧ wr.ownsMap Tryz.prog 9 unitElem w.heap.size k (setD (xs.map (fun x => x.1)) k) ∧ Below w.heap.size w wr ∧ w.heap.size + 1 ≤ wr.heap.size)
    (fun i _ => len - (intOf i).toNat)
  case atStart => exact ⟨0, Nat.zero_le _, rfl, by rw [setD_zero]; exact World.ownsMap_made _ _ _ _, (Below.refl _ _).alloc (Nat.le_refl _) _, by simp⟩
  case round =>
    obtain ⟨k, hk, rfl, hown, hnx, hws⟩ := hrel
    by_cases hlt : k < len
    · have hget := List.getElem?_eq_getElem (show k < xs.length by omega)
      generalize xs[k]'(by omega) = x at hget
      obtain ⟨h0, h1, h2, h3, h4, h5, h6⟩ := hc k x hget
      have hbl : b < w.heap.size := hb (by omega)
      have c0 : wr.cell? ⟨b, off + k * 7, none⟩ = some (.string x.1) := (hnx.cell (by exact hbl)).trans h0
      have c1 : wr.cell? ⟨b, off + k * 7 + 1, none⟩ = some (.int .i64 x.2.1) := (hnx.cell (by exact hbl)).trans h1
      have c2 : wr.cell? ⟨b, off + k * 7 + 2, none⟩ = some (.int .i64 x.2.2.1) := (hnx.cell (by exact hbl)).trans h2
      have c3 : wr.cell? ⟨b, off + k * 7 + 3, none⟩ = some (.int .i64 x.2.2.2.1) := (hnx.cell (by exact hbl)).trans h3
      have c4 : wr.cell? ⟨b, off + k * 7 + 4, none⟩ = some (.int .i64 x.2.2.2.2.1) := (hnx.cell (by exact hbl)).trans h4
      have c5 : wr.cell? ⟨b, off + k * 7 + 5, none⟩ = some (.int .i64 x.2.2.2.2.2.1) := (hnx.cell (by exact hbl)).trans h5
      have c6 : wr.cell? ⟨b, off + k * 7 + 6, none⟩ = some (.int .i64 x.2.2.2.2.2.2) := (hnx.cell (by exact hbl)).trans h6
      have hx : ByteArray.size x.1 ≤ maxLen := hs x (List.mem_of_getElem? hget)
      have hkey := Go.WideMaps.keyOf_string_mk Tryz.underlying9 hx
      have hsucc := setD_succ (xs.map (fun x => x.1)) k x.1 (by simp [hget])
      go_wp2_with (first
        | (at_mapUpdate; refine wpList_mapUpdate_own _ rfl _ _ _ 312 rfl 9 274 law9 Tryz.underlying312 (unitElem (H := Unit)) w.heap.size k _ rfl ((hown.alloc _).alloc _) (by unfold maxLen; omega) _ _ _ rfl rfl hkey _ [] unitElem_mk ?_; intro w1 hown1 hgrow1)
        | go_in)
      have s1 := hgrow1.size
      simp at s1
      go_roundw
      case rel =>
        refine ⟨k + 1, by omega, by go_num, by rw [hsucc]; exact hown1, ?_, by omega⟩
        exact ((hnx.alloc (by omega) _).alloc (by simp; omega) _).grown hgrow1 (by simp; omega) (fun j hj => by cases hj; exact Nat.le_refl _)
      case measure => simp [intOf]; omega
    · have : k = len := by omega
      subst this
      have hsz := setD_size (xs.map (fun x => x.1))
      rw [List.length_map, hz] at hsz
      have hlen := hown.len Tryz.underlying312 3
      rw [hsz] at hlen
      go_wp2
      go_ret
      exact ⟨by simp [twiceB, hz], hnx⟩
set_option maxRecDepth 100000 in
theorem twice_Item_zero (a : Option Addr) (cap : Nat) (w : World) : Calls Tryz.prog 264 #[.slice a 0 cap, .func (.func 265) #[] #[]] w fun e w' => e = .returned (.bool (twiceB [])) ∧ Below w.heap.size w w' := by
  have hmm := @run_makeMap Tryz.prog
  go_enter Tryz.func264, Tryz.ntmps264
  go_wp2
  refine wp_loop_rounds 1 ?_
  rw [rounds_succ]
  have hlen := (World.ownsMap_made w Tryz.prog 9 (unitElem (H := Unit))).len Tryz.underlying312 3
  rw [show Maps.size (DataW.map [] : DataW Unit) = 0 from rfl] at hlen
  go_wp2
  go_ret
  exact ⟨rfl, (Below.refl _ _).alloc (Nat.le_refl _) _⟩
theorem rep_Item {W : World} {N : Nat → Prop} {x : ByteArray × Int × Int × Int × Int × Int × Int} {es : List Value} (h : rep W N tItem x es) : es = [.string x.1, .int .i64 x.2.1, .int .i64 x.2.2.1, .int .i64 x.2.2.2.1, .int .i64 x.2.2.2.2.1, .int .i64 x.2.2.2.2.2.1, .int .i64 x.2.2.2.2.2.2] := by
  simp only [rep] at h
  obtain ⟨_, _, rfl, rfl, _, _, rfl, rfl, _, _, rfl, rfl, _, _, rfl, rfl, _, _, rfl, rfl, _, _, rfl, rfl, rfl⟩ := h
  rfl
theorem ok_twice_Item : FeOk Tryz.prog fe_twice_Item := by
  refine ⟨fun _ _ => rfl, fun x y K h => ⟨_, (), h.2, fun w N gs vs hE hl => .inl ⟨Tryz.f264, Tryz.func264, by kernel_rfl, by kernel_rfl, ?_⟩⟩⟩
  match vs, hl with
  | [a, c], _ =>
    have h0 : rep1 w N (.v (.slice tItem) x.1) a := hE.regs 0
    have h1 : repR w N (handIo gs) (entry [.val (.slice tItem), .lit (.clos 265 [] [])] [] x ()).hp (.clos 265 [] []) c := hE.regs 1
    obtain ⟨fa, ca, hc, h2, h3, _⟩ := h1
    have hfa : fa = [] := by
      cases fa with
      | nil => rfl
      | cons _ _ => exact h2.elim
    have hca : ca = [] := List.eq_nil_of_length_eq_zero h3
    subst hfa hca hc
    have hleft : ∀ w', Below w.heap.size w w' → Left fe_twice_Item w w' N gs (twiceB (List.map (fun x => x.1) x.1)) () (.bool (twiceB (List.map (fun x => x.1) x.1))) := fun w' hb =>
      ⟨⟨hb.os, hb.tape, hb.output, hb.size, fun k hk _ => hb.block k hk⟩, fun _ => ⟨rfl, rfl⟩, (fun te h => by cases h), fun j b h => by cases h⟩
    obtain ⟨v, hv, h4⟩ := h0.2
    injection hv with hv
    subst hv
    obtain ⟨l, u⟩ := x
    simp only at h4 hleft h
    cases l with
    | nil =>
      have hz : ∃ A cap, a = .slice A 0 cap := by
        rcases h4 with ⟨h4, _⟩ | ⟨b, o, s, cap, h4, _⟩
        · exact ⟨_, _, h4⟩
        · exact ⟨_, _, h4⟩
      obtain ⟨A, cap, rfl⟩ := hz
      exact (twice_Item_zero A cap w).mono (fun e w' ⟨he, hb⟩ => ⟨_, he, hleft w' hb⟩)
    | cons y l =>
      rcases h4 with ⟨_, h4⟩ | ⟨b, o, s, cap, rfl, h5, h6, h7⟩
      · cases h4
      · have hs : s = none := (h7 0 y rfl).1
        subst hs
        refine (twice_Item_any b o (y :: l).length cap (y :: l) w rfl (by omega) (fun _ => (h7 0 y rfl).2.2.1) h.1 (fun i z hz => ?_)).mono (fun e w' ⟨he, hb⟩ => ⟨_, he, hleft w' hb⟩)
        obtain ⟨_, _, _, es, h8, h9⟩ := h7 i z hz
        have he := rep_Item h8
        subst he
        exact ⟨h9 0 _ rfl, h9 1 _ rfl, h9 2 _ rfl, h9 3 _ rfl, h9 4 _ rfl, h9 5 _ rfl, h9 6 _ rfl⟩
set_option maxHeartbeats 1000000 in
set_option maxRecDepth 100000 in
theorem twice_Brick_any (b off len cap : Nat) (xs : List (ByteArray × Int × Int)) (w : World) (hz : xs.length = len) (hcap : len ≤ maxLen) (hb : 0 < len → b < w.heap.size)
    (hs : ∀ x ∈ xs, ByteArray.size x.1 ≤ maxLen)
    (hc : ∀ (i : Nat) x, xs[i]? = some x → w.cell? ⟨b, off + i * 3, none⟩ = some (.string x.1) ∧ w.cell? ⟨b, off + i * 3 + 1, none⟩ = some (.int .i64 x.2.1) ∧ w.cell? ⟨b, off + i * 3 + 2, none⟩ = some (.int .i64 x.2.2)) :
    Calls Tryz.prog 271 #[.slice (some ⟨b, off, none⟩) len cap, .func (.func 272) #[] #[]] w fun e w' => e = .returned (.bool (twiceB (xs.map (fun x => x.1)))) ∧ Below w.heap.size w w' := by
  have hmm := @run_makeMap Tryz.prog
  unfold maxLen at hcap
  go_enter Tryz.func271, Tryz.ntmps271
  go_wp2
  go_loopw [11] (fun i wr => ∃ k : Nat, k ≤ len ∧ i = .int .i64 k ∧ wr.ownsMap Tryz.prog 9 unitElem w.heap.size k (setD (xs.map (fun x => x.1)) k) ∧ Below w.heap.size w wr ∧ w.heap.size + 1 ≤ wr.heap.size)
    (fun i _ => len - (intOf i).toNat)
  case atStart => exact ⟨0, Nat.zero_le _, rfl, by rw [setD_zero]; exact World.ownsMap_made _ _ _ _, (Below.refl _ _).alloc (Nat.le_refl _) _, by simp⟩
  case round =>
    obtain ⟨k, hk, rfl, hown, hnx, hws⟩ := hrel
    by_cases hlt : k < len
    · have hget := List.getElem?_eq_getElem (show k < xs.length by omega)
      generalize xs[k]'(by omega) = x at hget
      obtain ⟨h0, h1, h2⟩ := hc k x hget
      have hbl : b < w.heap.size := hb (by omega)
      have c0 : wr.cell? ⟨b, off + k * 3, none⟩ = some (.string x.1) := (hnx.cell (by exact hbl)).trans h0
      have c1 : wr.cell? ⟨b, off + k * 3 + 1, none⟩ = some (.int .i64 x.2.1) := (hnx.cell (by exact hbl)).trans h1
      have c2 : wr.cell? ⟨b, off + k * 3 + 2, none⟩ = some (.int .i64 x.2.2) := (hnx.cell (by exact hbl)).trans h2
      have hx : ByteArray.size x.1 ≤ maxLen := hs x (List.mem_of_getElem? hget)
      have hkey := Go.WideMaps.keyOf_string_mk Tryz.underlying9 hx
      have hsucc := setD_succ (xs.map (fun x => x.1)) k x.1 (by simp [hget])
      go_wp2_with (first
        | (at_mapUpdate; refine wpList_mapUpdate_own _ rfl _ _ _ 312 rfl 9 274 law9 Tryz.underlying312 (unitElem (H := Unit)) w.heap.size k _ rfl ((hown.alloc _).alloc _) (by unfold maxLen; omega) _ _ _ rfl rfl hkey _ [] unitElem_mk ?_; intro w1 hown1 hgrow1)
        | go_in)
      have s1 := hgrow1.size
      simp at s1
      go_roundw
      case rel =>
        refine ⟨k + 1, by omega, by go_num, by rw [hsucc]; exact hown1, ?_, by omega⟩
        exact ((hnx.alloc (by omega) _).alloc (by simp; omega) _).grown hgrow1 (by simp; omega) (fun j hj => by cases hj; exact Nat.le_refl _)
      case measure => simp [intOf]; omega
    · have : k = len := by omega
      subst this
      have hsz := setD_size (xs.map (fun x => x.1))
      rw [List.length_map, hz] at hsz
      have hlen := hown.len Tryz.underlying312 3
      rw [hsz] at hlen
      go_wp2
      go_ret
      exact ⟨by simp [twiceB, hz], hnx⟩
set_option maxRecDepth 100000 in
theorem twice_Brick_zero (a : Option Addr) (cap : Nat) (w : World) : Calls Tryz.prog 271 #[.slice a 0 cap, .func (.func 272) #[] #[]] w fun e w' => e = .returned (.bool (twiceB [])) ∧ Below w.heap.size w w' := by
  have hmm := @run_makeMap Tryz.prog
  go_enter Tryz.func271, Tryz.ntmps271
  go_wp2
  refine wp_loop_rounds 1 ?_
  rw [rounds_succ]
  have hlen := (World.ownsMap_made w Tryz.prog 9 (unitElem (H := Unit))).len Tryz.underlying312 3
  rw [show Maps.size (DataW.map [] : DataW Unit) = 0 from rfl] at hlen
  go_wp2
  go_ret
  exact ⟨rfl, (Below.refl _ _).alloc (Nat.le_refl _) _⟩
theorem rep_Brick {W : World} {N : Nat → Prop} {x : ByteArray × Int × Int} {es : List Value} (h : rep W N tBrick x es) : es = [.string x.1, .int .i64 x.2.1, .int .i64 x.2.2] := by
  simp only [rep] at h
  obtain ⟨_, _, rfl, rfl, _, _, rfl, rfl, rfl⟩ := h
  rfl
theorem ok_twice_Brick : FeOk Tryz.prog fe_twice_Brick := by
  refine ⟨fun _ _ => rfl, fun x y K h => ⟨_, (), h.2, fun w N gs vs hE hl => .inl ⟨Tryz.f271, Tryz.func271, by kernel_rfl, by kernel_rfl, ?_⟩⟩⟩
  match vs, hl with
  | [a, c], _ =>
    have h0 : rep1 w N (.v (.slice tBrick) x.1) a := hE.regs 0
    have h1 : repR w N (handIo gs) (entry [.val (.slice tBrick), .lit (.clos 272 [] [])] [] x ()).hp (.clos 272 [] []) c := hE.regs 1
    obtain ⟨fa, ca, hc, h2, h3, _⟩ := h1
    have hfa : fa = [] := by
      cases fa with
      | nil => rfl
      | cons _ _ => exact h2.elim
    have hca : ca = [] := List.eq_nil_of_length_eq_zero h3
    subst hfa hca hc
    have hleft : ∀ w', Below w.heap.size w w' → Left fe_twice_Brick w w' N gs (twiceB (List.map (fun x => x.1) x.1)) () (.bool (twiceB (List.map (fun x => x.1) x.1))) := fun w' hb =>
      ⟨⟨hb.os, hb.tape, hb.output, hb.size, fun k hk _ => hb.block k hk⟩, fun _ => ⟨rfl, rfl⟩, (fun te h => by cases h), fun j b h => by cases h⟩
    obtain ⟨v, hv, h4⟩ := h0.2
    injection hv with hv
    subst hv
    obtain ⟨l, u⟩ := x
    simp only at h4 hleft h
    cases l with
    | nil =>
      have hz : ∃ A cap, a = .slice A 0 cap := by
        rcases h4 with ⟨h4, _⟩ | ⟨b, o, s, cap, h4, _⟩
        · exact ⟨_, _, h4⟩
        · exact ⟨_, _, h4⟩
      obtain ⟨A, cap, rfl⟩ := hz
      exact (twice_Brick_zero A cap w).mono (fun e w' ⟨he, hb⟩ => ⟨_, he, hleft w' hb⟩)
    | cons y l =>
      rcases h4 with ⟨_, h4⟩ | ⟨b, o, s, cap, rfl, h5, h6, h7⟩
      · cases h4
      · have hs : s = none := (h7 0 y rfl).1
        subst hs
        refine (twice_Brick_any b o (y :: l).length cap (y :: l) w rfl (by omega) (fun _ => (h7 0 y rfl).2.2.1) h.1 (fun i z hz => ?_)).mono (fun e w' ⟨he, hb⟩ => ⟨_, he, hleft w' hb⟩)
        obtain ⟨_, _, _, es, h8, h9⟩ := h7 i z hz
        have he := rep_Brick h8
        subst he
        exact ⟨h9 0 _ rfl, h9 1 _ rfl, h9 2 _ rfl⟩
end Go.Proofs.YtieeiiibamkbmaaGreat.Am
