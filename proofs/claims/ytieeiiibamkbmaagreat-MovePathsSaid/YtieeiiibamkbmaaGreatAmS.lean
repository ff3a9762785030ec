/- A call of the abstract machine tells what the program's call does: the return. Conditions: what is known of the callees ('FeOk'). -/
import Derived.Test.YtieeiiibamkbmaaGreatAmR
namespace Go.Proofs.YtieeiiibamkbmaaGreat.Am
open Go Go.RowKit
set_option linter.unusedVariables false
set_option linter.unusedSimpArgs false

section
variable {W : World} {N N1 : Nat → Prop}
/-- What is said with N may be said with N1. -/
def Conv (W : World) (N N1 : Nat → Prop) (t : Ty) : Prop := t.noSl = true ∨ ∀ b, b < W.heap.size → ¬ N b → ¬ N1 b
theorem rep_conv {t : Ty} {x : t.den} {cs} (hc : Conv W N N1 t) (h : rep W N t x cs) : rep W N1 t x cs := by
  rcases hc with hc | hc
  · exact rep_noSl hc h
  · exact rep_step (fun b hb hn => ⟨hb, rfl, hc b hb hn⟩) h
theorem unpack_noSl : ∀ {t : Ty} {x : t.den}, t.noSl = true → ∀ p ∈ unpack t x, ∃ t' x', p = .v t' x' ∧ t'.noSl = true
  | .unit, _, _, p, hp => by simp [unpack] at hp
  | .int k, x, _, p, hp => by simp only [unpack, List.mem_singleton] at hp; exact ⟨_, _, hp, rfl⟩
  | .bool, x, _, p, hp => by simp only [unpack, List.mem_singleton] at hp; exact ⟨_, _, hp, rfl⟩
  | .str, x, _, p, hp => by simp only [unpack, List.mem_singleton] at hp; exact ⟨_, _, hp, rfl⟩
  | .slice _, x, hn, p, hp => by simp [Ty.noSl] at hn
  | .pair a b, x, hn, p, hp => by
    simp only [Ty.noSl, Bool.and_eq_true] at hn
    simp only [unpack, List.mem_append] at hp
    rcases hp with hp | hp
    · exact unpack_noSl hn.1 p hp
    · exact unpack_noSl hn.2 p hp
  | .one a, x, hn, p, hp => by
    simp only [Ty.noSl] at hn
    simp only [unpack] at hp
    exact unpack_noSl (t := a) hn p hp
theorem rep1_conv {t : Ty} {x : t.den} {p : Pv} {u : Value} (hc : Conv W N N1 t) (hp : p ∈ unpack t x) (h : rep1 W N p u) : rep1 W N1 p u := by
  rcases hc with hc | hc
  · obtain ⟨t', x', rfl, h2⟩ := unpack_noSl hc p hp
    exact ⟨h.1, rep_noSl h2 h.2⟩
  · exact rep1_step (fun b hb hn => ⟨hb, rfl, hc b hb hn⟩) h
theorem repV1_conv {t : Ty} {x : t.den} {u : Value} (hc : Conv W N N1 t) (h : repV1 W N (V1.of t x) u) : repV1 W N1 (V1.of t x) u := by
  cases ha : t.isAgg
  · simp only [V1.of, ha, cond_false] at h ⊢
    exact ⟨h.1, rep_conv hc h.2⟩
  · simp only [V1.of, ha, cond_true] at h ⊢
    obtain ⟨cs, h1, h2⟩ := h
    refine ⟨cs, h1, repC_of_get (repC_len h2) (fun j p v hp hv => ?_)⟩
    obtain ⟨v', h3, h4⟩ := repC_get h2 hp
    rw [hv] at h3
    injection h3 with h3
    exact rep1_conv hc (List.mem_of_getElem? hp) (h3 ▸ h4)
theorem repVs_conv : ∀ {l : List Ty} {x : rden l} {us : List Value}, (∀ t ∈ l, Conv W N N1 t) → repVs W N (encRs l x) us → repVs W N1 (encRs l x) us
  | [], _, [], _, h => trivial
  | [], _, _ :: _, _, h => h.elim
  | [a], x, [], _, h => h.elim
  | [a], x, u :: us, hc, h => ⟨repV1_conv (hc a (by simp)) h.1, by
    cases us with
    | nil => trivial
    | cons _ _ => exact h.2.elim⟩
  | a :: b :: l, x, [], _, h => h.elim
  | a :: b :: l, x, u :: us, hc, h => ⟨repV1_conv (hc a (by simp)) h.1, repVs_conv (l := b :: l) (x := x.2) (fun t ht => hc t (List.mem_cons_of_mem _ ht)) h.2⟩
theorem repR_conv {io io1 : Nat → Value} {h h1 : Hp} {l : List Ty} {x : rden l} {u : Value} (hc : ∀ t ∈ l, Conv W N N1 t) (hr : repR W N io h (encR l x) u) : repR W N1 io1 h1 (encR l x) u := by
  match l, x, hc, hr with
  | [], x, hc, hr =>
    obtain ⟨us, h1, h2⟩ := hr
    exact ⟨us, h1, repVs_conv (l := []) (x := x) hc h2⟩
  | [a], x, hc, hr => exact repV1_conv (hc a (by simp)) hr
  | a :: b :: l, x, hc, hr =>
    obtain ⟨us, h1, h2⟩ := hr
    exact ⟨us, h1, repVs_conv (l := a :: b :: l) (x := x) hc h2⟩
end
theorem encBs_at : ∀ {bs : List BS} {z : dens (oTys bs)} {j : Nat}, (∀ b, (encBs bs z)[j]? = some (some b) → ∃ t ty x, bs[j]? = some (BS.val true t ty) ∧ ty ∈ oTys bs ∧ b = .box true t ((unpack ty x).map (fun p => .p (.v p)))) ∧
    (∀ t ty, bs[j]? = some (BS.val true t ty) → ∃ b, (encBs bs z)[j]? = some (some b))
  | [], z, j => by simp [encBs]
  | .val true t ty :: bs, z, 0 => by
    refine ⟨fun b hb => ?_, fun t ty _ => ?_⟩
    · simp only [encBs, List.getElem?_cons_zero, Option.some.injEq] at hb
      exact ⟨t, ty, z.1, rfl, by simp [oTys], hb.symm⟩
    · simp [encBs]
  | .val true t ty :: bs, z, j + 1 => by
    have ih := encBs_at (bs := bs) (z := z.2) (j := j)
    refine ⟨fun b hb => ?_, fun t ty h => ?_⟩
    · obtain ⟨t, ty, x, h1, h2, h3⟩ := ih.1 b (by simpa [encBs] using hb)
      exact ⟨t, ty, x, by simpa using h1, by simp [oTys, h2], h3⟩
    · simpa [encBs] using ih.2 t ty (by simpa using h)
  | .val false t ty :: bs, z, 0 => by simp [encBs]
  | .val false t ty :: bs, z, j + 1 => by
    have ih := encBs_at (bs := bs) (z := z) (j := j)
    refine ⟨fun b hb => ?_, fun t ty h => ?_⟩
    · obtain ⟨t, ty, x, h1, h2, h3⟩ := ih.1 b (by simpa [encBs] using hb)
      exact ⟨t, ty, x, by simpa using h1, by simpa [oTys] using h2, h3⟩
    · simpa [encBs] using ih.2 t ty (by simpa using h)
  | .lit t cs :: bs, z, 0 => by simp [encBs]
  | .lit t cs :: bs, z, j + 1 => by
    have ih := encBs_at (bs := bs) (z := z) (j := j)
    refine ⟨fun b hb => ?_, fun t ty h => ?_⟩
    · obtain ⟨t, ty, x, h1, h2, h3⟩ := ih.1 b (by simpa [encBs] using hb)
      exact ⟨t, ty, x, by simpa using h1, by simpa [oTys] using h2, h3⟩
    · simpa [encBs] using ih.2 t ty (by simpa using h)
theorem muts_at {d : Option Blk} {k : Nat} : ∀ {ids : List Nat} {zs : List (Option Blk)}, ids.Nodup → (∃ (j : Nat) (b : Blk), ids[j]? = some k ∧ zs[j]? = some (some b) ∧ look d ((muts ids zs).map (fun q => (q.1, some q.2))) k = some b) ∨
    ((∀ (j : Nat) (b : Blk), ids[j]? = some k → zs[j]? ≠ some (some b)) ∧ look d ((muts ids zs).map (fun q => (q.1, some q.2))) k = d)
  | [], zs, hn => .inr ⟨by simp, by simp [muts, look]⟩
  | i :: ids, [], hn => .inr ⟨by simp, by simp [muts, look]⟩
  | i :: ids, none :: zs, hn => by
    rcases muts_at (ids := ids) (zs := zs) (List.nodup_cons.1 hn).2 with ⟨j, b, h1, h2, h3⟩ | ⟨h1, h2⟩
    · exact .inl ⟨j + 1, b, by simpa using h1, by simpa using h2, by simpa [muts] using h3⟩
    · refine .inr ⟨fun j b hj => ?_, by simpa [muts] using h2⟩
      cases j with
      | zero => simp
      | succ j => simpa using h1 j b (by simpa using hj)
  | i :: ids, some b0 :: zs, hn => by
    by_cases hik : i = k
    · subst hik
      exact .inl ⟨0, b0, rfl, rfl, by simp [muts, look]⟩
    · have hb : Nat.beq i k = false := beq_ne hik
      rcases muts_at (ids := ids) (zs := zs) (List.nodup_cons.1 hn).2 with ⟨j, b, h1, h2, h3⟩ | ⟨h1, h2⟩
      · exact .inl ⟨j + 1, b, by simpa using h1, by simpa using h2, by simpa [muts, look, hb] using h3⟩
      · refine .inr ⟨fun j b hj => ?_, by simpa [muts, look, hb] using h2⟩
        cases j with
        | zero => simp only [List.getElem?_cons_zero, Option.some.injEq] at hj; exact absurd hj hik
        | succ j => simpa using h1 j b (by simpa using hj)
section
variable {P : Program} {Γ : List Fe} {C : Seat} {Q : Exit → Act → World → Prop} {o : Oper} {S : St} {r : Nat → RV} {h : Hp} {io : Nat → Value} {a : Act} {w w' : World} {N : Nat → Prop}
/-- The state when a callee has returned. -/
theorem left_ok (R : Rel C r h io a w) {e : Fe} {ids : List Nat} {r0 : rden e.rs} {z : dens (oTys e.bs)} {u : Value} (hn : ids.Nodup) (hlen : ids.length = e.bs.length)
    (hw : ∀ (j : Nat) (t : TypeId) (ty : Ty), e.bs[j]? = some (BS.val true t ty) → ∃ k cs g, ids[j]? = some k ∧ h k = some (.box true t cs) ∧ io k = ptrTo g)
    (hL : Left e w w' N (gsOf io ids) r0 z u) (hc : ∀ t ∈ oTys e.bs, Conv w' N (NN C.Nx io h) t) :
    Rel C r (h.app (muts ids (encBs e.bs z))) io a w' ∧ ∀ k g, ownedB io (h.app (muts ids (encBs e.bs z))) k g ↔ ownedB io h k g := by
  have hgs : ∀ (j k g : Nat), ids[j]? = some k → io k = ptrTo g → (gsOf io ids)[j]? = some g := fun j k g h1 h2 => by simp [gsOf, h1, h2, ptrTo, blkOf]
  have hat : ∀ k, (∃ (j : Nat) (t : TypeId) (ty : Ty) (x : ty.den) (cs : List RV) (g : Nat), ids[j]? = some k ∧ e.bs[j]? = some (BS.val true t ty) ∧ ty ∈ oTys e.bs ∧ (encBs e.bs z)[j]? = some (some (Blk.box true t ((unpack ty x).map (fun p => .p (.v p))))) ∧ h k = some (Blk.box true t cs) ∧ io k = ptrTo g ∧ (h.app (muts ids (encBs e.bs z))) k = some (Blk.box true t ((unpack ty x).map (fun p => .p (.v p))))) ∨
      ((h.app (muts ids (encBs e.bs z))) k = h k ∧ ∀ (j : Nat) (t : TypeId) (ty : Ty), ids[j]? = some k → e.bs[j]? ≠ some (BS.val true t ty)) := by
    intro k
    rcases muts_at (d := h k) (k := k) (ids := ids) (zs := encBs e.bs z) hn with ⟨j, b, h1, h2, h3⟩ | ⟨h1, h2⟩
    · obtain ⟨t, ty, x, h4, h5, h6⟩ := encBs_at.1 b h2
      obtain ⟨k', cs, g, h7, h8, h9⟩ := hw j t ty h4
      rw [h1] at h7
      injection h7 with h7
      subst h7
      exact .inl ⟨j, t, ty, x, cs, g, h1, h4, h5, h6 ▸ h2, h8, h9, by rw [← h6]; exact h3⟩
    · refine .inr ⟨h2, fun j t ty hj he => ?_⟩
      obtain ⟨b, hb⟩ := (encBs_at (z := z)).2 t ty he
      exact h1 j b hj hb
  generalize hh2 : h.app (muts ids (encBs e.bs z)) = h2 at hat ⊢
  have hown : ∀ k g, ownedB io h2 k g ↔ ownedB io h k g := by
    intro k g
    rcases hat k with ⟨j, t, ty, x, cs, g', h1, h3, h4, h5, h6, h7, h8⟩ | ⟨h1, _⟩
    · exact ⟨fun hx => ⟨.inl ⟨t, cs, h6⟩, hx.2⟩, fun hx => ⟨.inl ⟨t, _, h8⟩, hx.2⟩⟩
    · unfold ownedB; rw [h1]
  have hmut : ∀ g, mutG e.bs (gsOf io ids) g → ∃ (j k : Nat) (t : TypeId) (ty : Ty), e.bs[j]? = some (BS.val true t ty) ∧ ids[j]? = some k ∧ ownedB io h k g := by
    rintro g ⟨j, t, ty, h1, h3⟩
    obtain ⟨k, cs, g', h4, h5, h6⟩ := hw j t ty h1
    have := hgs j k g' h4 h6
    rw [h3] at this
    injection this with this
    exact ⟨j, k, t, ty, h1, h4, .inl ⟨t, cs, h5⟩, by simp [h6, this, ptrTo, blkOf]⟩
  have hNN : ∀ g, NN C.Nx io h2 g ↔ NN C.Nx io h g := fun g => by
    unfold NN
    constructor <;> rintro (hx | ⟨k, hk⟩)
    · exact .inl hx
    · exact .inr ⟨k, (hown k g).1 hk⟩
    · exact .inl hx
    · exact .inr ⟨k, (hown k g).2 hk⟩
  have hM : Moves C.Nx io h w io h2 w' := by
    refine ⟨fun b hb hnb => ⟨Nat.lt_of_lt_of_le hb hL.keep.size, hL.keep.block b hb (fun hx => ?_), fun ⟨k, hk⟩ => hnb ⟨k, (hown k b).1 hk⟩⟩, fun k hk => ⟨?_, rfl⟩, fun k hk => ?_, fun k te e' xs hx hk => ?_⟩
    · obtain ⟨j, k, t, ty, _, _, h3⟩ := hmut b hx
      exact hnb ⟨k, h3⟩
    · rcases hat k with ⟨j, t, ty, x, cs, g', h1, h3, h4, h5, h6, h7, h8⟩ | ⟨h1, _⟩
      · simp [h8]
      · rw [h1]; exact hk
    · rcases hat k with ⟨j, t, ty, x, cs, g', h1, h3, h4, h5, h6, h7, h8⟩ | ⟨h1, _⟩
      · rw [hk] at h6; cases h6
      · rw [h1]; exact hk
    · rcases hat k with ⟨j, t, ty, x, cs, g', h1, h3, h4, h5, h6, h7, h8⟩ | ⟨h1, _⟩
      · rw [hx] at h8; cases h8
      · exact ⟨xs, h1 ▸ hx, rfl⟩
  have := R.upd (h1 := h2) (io1 := io) (w1 := w') none .unk undef hM (R.keep.trans (hL.keep.mono (fun g _ hg => by
      obtain ⟨j, k, t, ty, _, _, h3⟩ := hmut g hg
      rcases R.mine k g h3 with h4 | ⟨h4, _⟩
      · exact .inr h4
      · exact .inl h4))) R.hand (fun k b hb => by
      rcases hat k with ⟨j, t, ty, x, cs, g', h1, h3, h4, h5, h6, h7, h8⟩ | ⟨h1, h3⟩
      · rw [h8] at hb
        injection hb with hb
        subst hb
        obtain ⟨g, vals, q1, q2, q3, q4, q5⟩ := hL.outs j _ h5
        have hg := hgs j k g' h1 h7
        have : g = g' := by
          unfold handIo at q1
          rw [Nat.add_sub_cancel_left, List.getD, hg] at q1
          simp only [Option.getD_some, ptrTo, Value.pointer.injEq, Option.some.injEq, Addr.mk.injEq, and_true] at q1
          exact q1.symm
        subst this
        refine .inl ⟨g, vals, h7, q2, q3, (fun hx => by cases hx), fun i c hci => ?_⟩
        obtain ⟨v, q6, q7, q8⟩ := q5 i c hci
        refine ⟨v, q6, q7, ?_⟩
        rw [List.getElem?_map, Option.map_eq_some_iff] at hci
        obtain ⟨p, q9, rfl⟩ := hci
        have hcv : Conv w' N (NN C.Nx io h2) ty := (hc ty h4).imp id (fun hx b hb hnb hbn => hx b hb hnb ((hNN b).1 hbn))
        exact rep1_conv hcv (List.mem_of_getElem? q9) q8
      · refine .inr ⟨h1 ▸ hb, fun g hg => hL.keep.block g (R.lt hg) (fun hx => ?_)⟩
        obtain ⟨j, k', t, ty, h4, h5, h6⟩ := hmut g hx
        have := R.inj k k' g hg h6
        subst this
        exact h3 j t ty h5 h4)
    (fun k k' g hk hk' => R.inj k k' g ((hown k g).1 hk) ((hown k' g).1 hk')) (fun k g hk => by
      rcases R.mine k g ((hown k g).1 hk) with h3 | ⟨h3, t, cs, h4⟩
      · exact .inl h3
      · refine .inr ⟨h3, ?_⟩
        rcases hat k with ⟨j, t, ty, x, cs, g', h1, _, _, h5, h6, h7, h8⟩ | ⟨h1, _⟩
        · exact ⟨t, _, h8⟩
        · exact ⟨t, cs, h1.trans h4⟩) (fun h => absurd rfl h) (fun t h => by cases h)
  have e' : setR r none .unk = r := by funext t; simp [setR]
  rw [e'] at this
  exact ⟨this, hown⟩
end
end Go.Proofs.YtieeiiibamkbmaaGreat.Am
