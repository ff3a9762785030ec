/- A call of the abstract machine tells what the program's call does. Conditions: what is known of the callees ('FeOk'). -/
import Derived.Test.YtieeiiibamkbmaaGreatAmO
namespace Go.Proofs.YtieeiiibamkbmaaGreat.Am
open Go Go.RowKit
set_option linter.unusedVariables false
set_option linter.unusedSimpArgs false

section
variable {P : Program} {Γ : List Fe} {C : Seat} {Q : Exit → Act → World → Prop} {o : Oper} {S : St} {r : Nat → RV} {h : Hp} {io : Nat → Value} {a : Act} {w : World}
theorem findFe_some {f : FuncId} {args : List RV} {bs : List Blk} : ∀ {Γ : List Fe} {e : Fe}, findFe Γ f args bs = some e → e ∈ Γ ∧ e.f = f
  | [], e, hf => by simp [findFe] at hf
  | g :: Γ, e, hf => by
    simp only [findFe] at hf
    cases hc : g.fits f args bs
    · rw [hc] at hf
      obtain ⟨h1, h2⟩ := findFe_some (Γ := Γ) hf
      exact ⟨List.mem_cons_of_mem _ h1, h2⟩
    · rw [hc] at hf
      replace hf := Option.some.inj hf
      subst hf
      simp only [Fe.fits, Bool.and_eq_true] at hc
      exact ⟨by simp, Nat.eq_of_beq_eq_true hc.1.1⟩
/-- An argument as it is handed over: its kind. -/
theorem argRV_kind {x y : RV} (hx : argRV S x = some y) : (∃ v, y = .p v) ∨ (∃ k q, y = .ptr k q) ∨ (∃ f a c, y = .clos f a c) := by
  unfold argRV at hx
  split at hx
  · injection hx with hx; exact .inr (.inl ⟨_, _, hx.symm⟩)
  · injection hx with hx; exact .inr (.inr ⟨_, _, _, hx.symm⟩)
  · split at hx
    · injection hx with hx; exact .inl ⟨_, hx.symm⟩
    · cases hx
/-- An argument's value, when the rows among the arguments are sealed. -/
theorem argRV_ok {l : List RV} (hl : ∀ k, RV.row k ∈ l → h k = S.hp k) (R : Rel C r h io a w) {x y : RV} (hx : x ∈ l) (hy : argRV S x = some y) {u : Value}
    (hu : repR w (NN C.Nx io h) io h x u) : repR w (NN C.Nx io (h.app (seals S l))) io (h.app (seals S l)) y u := by
  have hM := (SealTo.seals (S := S) (l := l) hl).moves C.Nx io w
  unfold argRV at hy
  split at hy
  · injection hy with hy
    subst hy
    exact repR_step hM hu
  · injection hy with hy
    subst hy
    exact repR_step hM hu
  · split at hy
    · rename_i v hv
      injection hy with hy
      subst hy
      exact pure1_ok hl R hx hv hu
    · cases hy
theorem allSome_get {α : Type} {l : List (Option α)} {m : List α} (hm : allSome l = some m) {j : Nat} {x : α} (hx : m[j]? = some x) : l[j]? = some (some x) := by
  rw [allSome_ok hm]; simp [hx]
theorem allSome_len {α : Type} {l : List (Option α)} {m : List α} (hm : allSome l = some m) : m.length = l.length := by
  rw [allSome_ok hm]; simp
/-- The blocks of what is handed over. -/
def gsOf (io : Nat → Value) (ids : List Nat) : List Nat := ids.map (fun k => (blkOf (io k)).getD 0)
theorem gsOf_get {ids : List Nat} {k g : Nat} (hk : k ∈ ids) (hg : io k = ptrTo g) : (gsOf io ids)[ids.idxOf k]? = some g := by
  have hlt := List.idxOf_lt_length_of_mem hk
  simp only [gsOf, List.getElem?_map]
  rw [List.getElem?_eq_getElem hlt, List.getElem_idxOf hlt]
  simp [hg, ptrTo, blkOf]
theorem asPvs_ok {N : Nat → Prop} {io : Nat → Value} {h : Hp} : ∀ {cs : List RV} {ps : List Pv} {us : List Value}, asPvs cs = some ps → cs.length = us.length → (∀ (j : Nat) (c : RV) (u : Value), cs[j]? = some c → us[j]? = some u → repR w N io h c u) → repC w N ps us
  | [], ps, us, hp, hl, hg => by
    simp only [asPvs, Option.some.injEq] at hp
    subst hp
    cases us with
    | nil => trivial
    | cons _ _ => simp at hl
  | c :: cs, ps, us, hp, hl, hg => by
    cases us with
    | nil => simp at hl
    | cons u us =>
      unfold asPvs at hp
      split at hp
      · simp at *
      · rename_i p m e
        simp only [List.cons.injEq] at e
        obtain ⟨rfl, rfl⟩ := e
        split at hp
        · rename_i qs hq
          injection hp with hp
          subst hp
          exact ⟨hg 0 _ u rfl rfl, asPvs_ok hq (by simpa using hl) (fun j c v hc hv => hg (j + 1) c v (by simpa using hc) (by simpa using hv))⟩
        · cases hp
      · cases hp
end
end Go.Proofs.YtieeiiibamkbmaaGreat.Am
