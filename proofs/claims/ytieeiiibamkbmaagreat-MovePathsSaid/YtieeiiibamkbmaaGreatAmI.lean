/- The abstract machine's operations on rows tell what the program's do. Conditions: none; these are lemmas. -/
import Derived.Test.YtieeiiibamkbmaaGreatAmH
namespace Go.Proofs.YtieeiiibamkbmaaGreat.Am
open Go Go.RowKit
set_option linter.unusedVariables false
set_option linter.unusedSimpArgs false

section
variable {P : Program} {nt : Nat} {Γ : List Fe} {C : Seat} {Q : Exit → Act → World → Prop} {o : Oper} {S : St} {r : Nat → RV} {h : Hp} {io : Nat → Value} {a : Act} {w : World}
/-- The arguments of a builtin's call. -/
def argRVs (P : Program) (S : St) (c : Call) : List RV := (c.args.toList.zip c.argTypes.toList).map (fun q => ev P S q.2 q.1)
theorem args_ok {c : Call} (ho : o.op = .call c) (hr : ∀ t ∈ opTmps o, r t = S.get t) (R : Rel C r h io a w) {l : List RV} (hl : argRVs P S c = l) (hs : c.args.size ≤ c.argTypes.size) :
    l.length = c.args.size ∧ ∀ (j : Nat) (x : RV), l[j]? = some x → ∃ u, (c.args.map a.eval)[j]? = some u ∧ repR w (NN C.Nx io h) io h x u := by
  subst hl
  refine ⟨by simp [argRVs]; omega, fun j x hx => ?_⟩
  simp only [argRVs, List.getElem?_map, Option.map_eq_some_iff] at hx
  obtain ⟨q, h1, rfl⟩ := hx
  rw [List.getElem?_zip_eq_some] at h1
  obtain ⟨h2, h3⟩ := h1
  have h4 : c.args[j]? = some q.1 := by simpa using h2
  refine ⟨a.eval q.1, by simp [h4], ev_ok R (fun t ht => hr t (mem_opTmps ?_))⟩
  rw [ho]
  simp only [Op.operands, Call.operands]
  rw [← ht]
  simp only [Array.toList_append, List.mem_append]
  exact .inr (List.mem_of_getElem? h2)
theorem map_one {c : Call} {x : RV} {u : Value} (h1 : [x].length = c.args.size) (h2 : (c.args.map a.eval)[0]? = some u) : c.args.map a.eval = #[u] := by
  apply Array.ext'
  have : (c.args.map a.eval).toList.length = 1 := by simp at h1 ⊢; omega
  obtain ⟨y, hy⟩ := List.length_eq_one_iff.1 this
  rw [hy]
  have : (c.args.map a.eval).toList[0]? = some u := by rw [Array.getElem?_toList]; exact h2
  rw [hy] at this
  simpa using this
theorem map_two {c : Call} {x y : RV} {u v : Value} (h1 : [x, y].length = c.args.size) (h2 : (c.args.map a.eval)[0]? = some u) (h3 : (c.args.map a.eval)[1]? = some v) : c.args.map a.eval = #[u, v] := by
  apply Array.ext'
  have : (c.args.map a.eval).toList.length = 2 := by simp at h1 ⊢; omega
  obtain ⟨y1, y2, hy⟩ : ∃ y1 y2, (c.args.map a.eval).toList = [y1, y2] := by
    match hl : (c.args.map a.eval).toList, this with
    | [y1, y2], _ => exact ⟨y1, y2, rfl⟩
  rw [hy]
  have h4 : (c.args.map a.eval).toList[0]? = some u := by rw [Array.getElem?_toList]; exact h2
  have h5 : (c.args.map a.eval).toList[1]? = some v := by rw [Array.getElem?_toList]; exact h3
  rw [hy] at h4 h5
  simp at h4 h5
  simp [h4, h5]
theorem ok_len {c : Call} {x : RV} {t : TypeId} {K : Eff → Prop} (ho : o.op = .call c) (hb : c.callee = .builtin .len) (hd : dstOk nt o = true) (hargs : argRVs P S c = [x]) (htys : c.argTypes.toList = [t]) (hs : c.args.size ≤ c.argTypes.size)
    (hk : lenK P S t x (fun n => K ⟨.p (.v (.v (.int .i64) n)), [], heapOf x⟩)) : ∃ e, K e ∧ OpOk P nt o S e := by
  have hty : c.argTypes = #[t] := by apply Array.ext'; exact htys
  unfold lenK at hk
  split at hk
  · rename_i s ht
    refine ⟨_, hk, OpOk.pure hd (fun {C} r h hr hh io a w R => ?_)⟩
    obtain ⟨h1, h2⟩ := args_ok ho hr R hargs hs
    obtain ⟨u, h3, h4⟩ := h2 0 _ rfl
    have h5 := str_of h4
    have h6 := map_one h1 h3
    refine ⟨.int .i64 s.size, ?_, rfl, rfl⟩
    simp [execOp, ho, resolve, hb, invoke, builtin, h6, hty, h5, Builtin.len_, run_underlying ht, goInt]
  · rename_i te ht
    split at hk
    · rename_i e xs hx
      refine ⟨_, hk, OpOk.pure hd (fun {C} r h hr hh io a w R => ?_)⟩
      obtain ⟨h1, h2⟩ := args_ok ho hr R hargs hs
      obtain ⟨u, h3, h4⟩ := h2 0 _ rfl
      obtain ⟨e', ys, h5, A, q, h6⟩ := asRow_ok R (fun k e => hh k (by rw [e]; simp [heapOf])) hx h4
      have h7 : ys.length = List.length xs := by
        injection h5 with q1 q2
        injection q1 with q1
        subst q1
        have q2 := eq_of_heq q2
        subst q2
        rfl
      have h8 := map_one h1 h3
      refine ⟨.int .i64 ((List.length xs : Nat) : Int), ?_, rfl, rfl⟩
      simp [execOp, ho, resolve, hb, invoke, builtin, h8, hty, h6, Builtin.len_, run_underlying ht, goInt, h7]
    · exact hk.elim
  · exact hk.elim
theorem ok_maxs {c : Call} {l : List RV} {least : Bool} {p : Pv} {K : Eff → Prop} (ho : o.op = .call c) (hb : c.callee = .builtin (if least then .min else .max)) (hd : dstOk nt o = true) (hargs : argRVs P S c = l) (hs : c.args.size ≤ c.argTypes.size)
    (hp : maxs least l = some p) (hk : K ⟨.p (.v p), [], []⟩) : ∃ e, K e ∧ OpOk P nt o S e := by
  unfold maxs at hp
  split at hp
  · rename_i k x k' y
    split at hp
    · rename_i hkk
      subst hkk
      injection hp with hp
      subst hp
      refine ⟨_, hk, OpOk.pure hd (fun {C} r h hr hh io a w R => ?_)⟩
      obtain ⟨h1, h2⟩ := args_ok ho hr R hargs hs
      obtain ⟨u, h3, h4⟩ := h2 0 _ rfl
      obtain ⟨v, h5, h6⟩ := h2 1 _ rfl
      have h7 := map_two h1 h3 h5
      have h8 := int_of h4
      have h9 := int_of h6
      subst h8 h9
      cases least
      · refine ⟨_, ?_, rfl, rfl⟩
        simp [execOp, ho, resolve, hb, invoke, builtin, h7, Builtin.max_, Builtin.max2]
      · refine ⟨_, ?_, rfl, rfl⟩
        simp [execOp, ho, resolve, hb, invoke, builtin, h7, Builtin.min_, Builtin.min2]
    · cases hp
  · cases hp
theorem rep_take {N : Nat → Prop} {e : Ty} {xs : List e.den} {m : Nat} {A : Option Addr} {c : Nat} (hr : rep w N (.slice e) xs [.slice A (List.length xs) c]) (hm : m ≤ List.length xs) : rep w N (.slice e) (List.take m xs) [.slice A m c] := by
  obtain ⟨v, h1, h2⟩ := hr
  injection h1 with h1
  subst h1
  refine ⟨_, rfl, ?_⟩
  rcases h2 with ⟨h2, h3⟩ | ⟨b, q, s, c', h2, h3, h4, h5⟩
  · left
    subst h3
    simp at hm
    subst hm
    simp at h2
    obtain ⟨rfl, rfl⟩ := h2
    exact ⟨rfl, by simp⟩
  · right
    simp only [Value.slice.injEq, true_and] at h2
    obtain ⟨rfl, rfl⟩ := h2
    refine ⟨b, q, s, c, by simp [Nat.min_eq_left hm], by simp; omega, h4, fun i x hx => ?_⟩
    rw [List.getElem?_take] at hx
    split at hx
    · exact h5 i x hx
    · cases hx
theorem asRow_pure {x : RV} {p : Pv} (hx : asRow S x = some p) : pure1 S x = some (.v p) ∨ ∃ e, x = .p (.v (.nil e)) ∧ p = .v (.slice e) [] := by
  cases x with
  | p v =>
    cases v with
    | v q =>
      cases q with
      | v t y =>
        cases t <;> simp [asRow] at hx
        left
        simp [pure1, hx]
      | nil e =>
        simp [asRow] at hx
        exact .inr ⟨e, rfl, hx.symm⟩
    | agg ps => simp [asRow] at hx
  | row k => left; simp [pure1, hx]
  | _ => simp [asRow] at hx
theorem ok_slice {t : TypeId} {x y : Operand} {K : Eff → Prop} (ho : o.op = .slice t x none (some y) none) (hd : dstOk nt o = true) (hk : opK P Γ o S K) : ∃ e, K e ∧ OpOk P nt o S e := by
  simp only [opK, ho] at hk
  split at hk
  · rename_i te e xs n ht hx hn
    split at hk
    · rename_i hs
      obtain ⟨⟨h0, h1⟩, hk⟩ := hk
      refine ⟨_, hk, OpOk.sealed hd (fun k hk => ?_) (fun {C} r h hr hh io a w R => ?_)⟩
      · simp only [List.mem_singleton] at hk
        rw [← hk]; simp [heapOf]
      · have h4 := ev_ok (P := P) (S := S) (ty := t) (x := x) R (fun t ht => hr t (mem_opTmps (by simp [ho, Op.operands, ht])))
        obtain ⟨k, hky⟩ := int_ev hn (fun t ht => hr t (mem_opTmps (by simp [ho, Op.operands, ht]))) R
        obtain ⟨i, hi, his⟩ := sz_of hs
        have hl : ∀ k, RV.row k ∈ [ev P S t x] → h k = S.hp k := fun k hk => by
          simp only [List.mem_singleton] at hk
          exact hh k (by rw [← hk]; simp [heapOf])
        obtain ⟨e', ys, h5, A, c, h6⟩ := asRow_ok R (fun k e => hl k (by simp [e])) hx h4
        cases h5
        have hpure := asRow_pure hx
        have hrep : rep w (NN C.Nx io (h.app (seals S [ev P S t x]))) (.slice e) xs [a.eval x] := by
          rcases hpure with hp | ⟨e2, hp, hy⟩
          · exact (pure1_ok hl R (by simp) hp h4).2
          · rw [hp] at h4
            cases hy
            exact ⟨_, by rw [show a.eval x = .slice none 0 0 from h4], .inl ⟨rfl, rfl⟩⟩
        have hlen : n.toNat ≤ List.length xs := by omega
        rw [h6] at hrep
        have hcap : List.length xs ≤ c := by
          obtain ⟨v, e1, e2⟩ := hrep
          injection e1 with e1
          subst e1
          rcases e2 with ⟨e2, e3⟩ | ⟨b, q, s, c', e2, e3, _⟩
          · rw [e3]; simp
          · simp only [Value.slice.injEq, true_and] at e2
            obtain ⟨_, rfl⟩ := e2
            exact e3
        refine ⟨.slice A n.toNat c, ?_, rfl, rep_take hrep hlen⟩
        have hnc : n ≤ (c : Int) := by omega
        simp [execOp, ho, h6, hky, Instr.sliceAt, Instr.slice, run_underlying ht, Instr.sliceBounds, Instr.sliceBound, asIntOf, h0, hnc, run_sizeOf' hi]
        intro _
        cases A <;> simp [Addr.add]
    · exact hk.elim
  · exact hk.elim
end
end Go.Proofs.YtieeiiibamkbmaaGreat.Am
