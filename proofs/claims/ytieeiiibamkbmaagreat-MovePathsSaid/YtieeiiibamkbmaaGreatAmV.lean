/- The abstract machine's operations tell what the program's do. Conditions: what is known of the callees ('FeOk'). -/
import Derived.Test.YtieeiiibamkbmaaGreatAmU
namespace Go.Proofs.YtieeiiibamkbmaaGreat.Am
open Go Go.RowKit
set_option linter.unusedVariables false
set_option linter.unusedSimpArgs false

theorem all_app {α β : Type} {R : α → β → Prop} {l1 l2 : List α} {u1 u2 : List β} (hl : l1.length = u1.length) (h1 : ∀ (j : Nat) (x : α) (u : β), l1[j]? = some x → u1[j]? = some u → R x u)
    (h2 : ∀ (j : Nat) (x : α) (u : β), l2[j]? = some x → u2[j]? = some u → R x u) (j : Nat) (x : α) (u : β) (hx : (l1 ++ l2)[j]? = some x) (hu : (u1 ++ u2)[j]? = some u) : R x u := by
  by_cases hj : j < l1.length
  · rw [List.getElem?_append_left hj] at hx
    rw [List.getElem?_append_left (by omega)] at hu
    exact h1 j x u hx hu
  · rw [List.getElem?_append_right (by omega)] at hx
    rw [List.getElem?_append_right (by omega), ← hl] at hu
    exact h2 _ x u hx hu
theorem repVs_len {W : World} {N : Nat → Prop} : ∀ {l : List V1} {m : List Value}, repVs W N l m → l.length = m.length
  | [], [], _ => rfl
  | _ :: _, _ :: _, h => by simp [repVs_len h.2]
  | [], _ :: _, h => h.elim
  | _ :: _, [], h => h.elim
section
variable {P : Program} {nt : Nat} {Γ : List Fe} {C : Seat} {Q : Exit → Act → World → Prop} {o : Oper} {S : St} {r : Nat → RV} {h : Hp} {io : Nat → Value} {a : Act} {w w' : World} {N : Nat → Prop}
theorem ok_call (hΓ : ∀ e ∈ Γ, FeOk P e) {c : Call} {f : Operand} {g : FuncId} {first : List V1} {cap : List Nat} {K : Eff → Prop} (ho : o.op = .call c) (hb : c.callee = .value f) (hd : dstOk nt o = true) (hs : c.args.size ≤ c.argTypes.size)
    (hf : ev P S 0 f = .clos g first cap) (hk : callF Γ S o.dst g (first.map .p ++ argRVs P S c ++ cap.map (fun k => .ptr k 0)) K) : ∃ e, K e ∧ OpOk P nt o S e := by
  refine callF_ok hΓ hd hk (fun {C} r h hr io a w R => ?_)
  have h1 := ev_ok R (P := P) (S := S) (ty := 0) (x := f) (fun t ht => hr t (mem_opTmps (by simp [ho, Op.operands, Call.operands, hb, ht])))
  rw [hf] at h1
  obtain ⟨fa, ca, h2, h3, h4, h5⟩ := h1
  obtain ⟨h6, h7⟩ := args_ok (P := P) ho hr R rfl hs
  have h8 := repVs_len h3
  refine ⟨fa ++ (c.args.map a.eval).toList ++ ca, by simp [h6, h4, h8], ?_, ?_⟩
  · refine all_app (by simp [h6, h8]) (all_app (by simp [h8]) (fun j x u hx hu => ?_) (fun j x u hx hu => ?_)) (fun j x u hx hu => ?_)
    · rw [List.getElem?_map, Option.map_eq_some_iff] at hx
      obtain ⟨p, h9, rfl⟩ := hx
      obtain ⟨u', h10, h11⟩ := repVs_get h3 h9
      rw [hu] at h10
      injection h10 with h10
      exact h10 ▸ h11
    · obtain ⟨u', h9, h10⟩ := h7 j x hx
      rw [Array.getElem?_toList, h9] at hu
      injection hu with hu
      exact hu ▸ h10
    · rw [List.getElem?_map, Option.map_eq_some_iff] at hx
      obtain ⟨k, h9, rfl⟩ := hx
      obtain ⟨h10, g', h11, h12⟩ := h5 j k h9
      rw [hu] at h12
      injection h12 with h12
      exact ⟨h10, g', h11, by rw [h12]; rfl⟩
  · have hargs : fa.toArray ++ c.args.map a.eval ++ ca.toArray = (fa ++ (c.args.map a.eval).toList ++ ca).toArray := by
      apply Array.ext'
      simp
    simp only [execOp, ho, resolve, hb, Sem.run_bind, h2, Deferred.ofValue, Sem.run_pure, Result.andThen_ok, invoke]
    rw [hargs]
/-- Every operation that the abstract machine does. -/
theorem opK_sound (hΓ : ∀ e ∈ Γ, FeOk P e) {K : Eff → Prop} (hd : dstOk nt o = true) (hk : opK P Γ o S K) : ∃ e, K e ∧ OpOk P nt o S e := by
  cases hop : o.op with
  | move x => exact ok_move (.inl hop) hd (by simpa [opK, hop] using hk)
  | assign x => exact ok_move (.inr hop) hd (by simpa [opK, hop] using hk)
  | pick c a b => exact ok_pick hop hd hk
  | alloc t => exact ok_alloc hop hd hk
  | box t x => exact ok_box hop hd hk
  | load t x => exact ok_load hop hd hk
  | store t x y => exact ok_store hop hd hk
  | fieldAddr t x f => exact ok_fieldAddr hop hd hk
  | indexAddr t x i => exact ok_indexAddr hop hd hk
  | extract x i => exact ok_extract hop hd hk
  | binOp op xt x y yt => exact ok_binOp hop hd hk
  | unOp op xt x => exact ok_unOp hop hd hk
  | convert s d x => exact ok_convert hop hd hk
  | build t parts => exact ok_build hop hd hk
  | buildSlice t len parts => exact ok_buildSlice hop hd hk
  | makeSlice t l c =>
    cases l with
    | tmp l =>
      cases c with
      | tmp c => exact ok_makeSlice hop hd hk
      | _ => simp [opK, hop] at hk
    | _ => simp [opK, hop] at hk
  | slice t x lo hi mx =>
    cases lo with
    | some lo => simp [opK, hop] at hk
    | none =>
      cases hi with
      | none => simp [opK, hop] at hk
      | some hi =>
        cases mx with
        | some mx => simp [opK, hop] at hk
        | none => exact ok_slice hop hd hk
  | index t x i => exact ok_index hop hd hk
  | nilCheck x => exact ok_nilCheck hop hd hk
  | makeFunc f first cap =>
    cases f with
    | func f => exact ok_makeFunc hop hd hk
    | _ => simp [opK, hop] at hk
  | call c =>
    simp only [opK, hop] at hk
    cases hs : Nat.ble c.args.size c.argTypes.size with
    | false => rw [hs] at hk; exact hk.elim
    | true =>
      rw [hs, cond_true] at hk
      have hs' := Nat.le_of_ble_eq_true hs
      generalize hargs : (c.args.toList.zip c.argTypes.toList).map (fun q => ev P S q.2 q.1) = args at hk
      replace hargs : argRVs P S c = args := hargs
      split at hk
      · rename_i hb
        split at hk
        · rename_i x t htys
          exact ok_len hop hb hd hargs htys hs' hk
        · exact hk.elim
      · rename_i hb
        split at hk
        · rename_i p hp
          exact ok_maxs (least := false) hop hb hd hargs hs' hp hk
        · exact hk.elim
      · rename_i hb
        split at hk
        · rename_i p hp
          exact ok_maxs (least := true) hop hb hd hargs hs' hp hk
        · exact hk.elim
      · rename_i hb
        split at hk
        · rename_i s x
          exact ok_append hop hb hd hargs hs' hk
        · exact hk.elim
      · rename_i f hb
        split at hk
        · rename_i g first cap hf
          exact ok_call hΓ hop hb hd hs' hf (hargs ▸ hk)
        · exact hk.elim
      · exact hk.elim
  | _ => simp [opK, hop] at hk
end
end Go.Proofs.YtieeiiibamkbmaaGreat.Am
