/- A region of the abstract machine tells what the program's does, in each order. Conditions: what is known of the callees ('FeOk'). -/
import Derived.Test.YtieeiiibamkbmaaGreatAmW
namespace Go.Proofs.YtieeiiibamkbmaaGreat.Am
open Go Go.RowKit
set_option linter.unusedVariables false
set_option linter.unusedSimpArgs false

def GuardOk (ops : List Oper) (o : Oper) (r : Nat → RV) (want : Bool) : Prop := match o.guard with
  | none => want = true
  | some (j, wnt) => ∃ q d, ops[j]? = some q ∧ q.dst = some d ∧ ((∃ b : Bool, r d = .p (.v (.v .bool b)) ∧ want = (if b then wnt else !wnt)) ∨ (r d = .und ∧ want = false))
def OpOkF (P : Program) (nt : Nat) (o : Oper) (r0 : Nat → RV) (h0 : Hp) (e : Eff) : Prop :=
  ∀ (C : Seat) (Q : Exit → Act → World → Prop), C.nt = nt → ∀ (r : Nat → RV) (h : Hp), (∀ t ∈ opTmps o, r t = r0 t) → (∀ k, (k ∈ e.rd ∨ k ∈ e.hp.map (·.1)) → h k = h0 k) → ∀ io a w, Rel C r h io a w →
    o.wp P a w (fun a' w' => ∃ io', Rel C (setR r o.dst e.v) (h.app e.hp) io' a' w') Q
/-- What one operation does, wanted or not. -/
structure Does (P : Program) (nt : Nat) (ops : List Oper) (o : Oper) (r0 : Nat → RV) (h0 : Hp) (v : Bool × Eff) : Prop where
  dst : dstOk nt o = true
  guard : GuardOk ops o r0 v.1
  yes : v.1 = true → OpOkF P nt o r0 h0 v.2
  no : v.1 = false → v.2 = noEff
inductive Tr (P : Program) (nt : Nat) (ops : List Oper) : List Oper → (Nat → RV) → Hp → List (Bool × Eff) → (Nat → RV) → Hp → Prop
  | nil (r : Nat → RV) (h : Hp) : Tr P nt ops [] r h [] r h
  | cons {o : Oper} {l : List Oper} {r : Nat → RV} {h : Hp} {v : Bool × Eff} {vs : List (Bool × Eff)} {r' : Nat → RV} {h' : Hp} : Does P nt ops o r h v → Tr P nt ops l (setR r o.dst v.2.v) (h.app v.2.hp) vs r' h' → Tr P nt ops (o :: l) r h (v :: vs) r' h'
def ftOf (i : Nat) (v : Bool × Eff) : Ft := ⟨i, v.2.rd, v.2.hp.map (·.1)⟩
def ApartL (ops : List Oper) (bef : List Nat) : Nat → List Ft → List Oper → List (Bool × Eff) → Prop
  | i, hist, o :: l, v :: vs => mayNext ops bef hist (ftOf i v) = true ∧ edgesOk o i = true ∧ ApartL ops bef (i + 1) (ftOf i v :: hist) l vs
  | _, _, _, _ => True
section
variable {P : Program} {nt : Nat} {Γ : List Fe} {C : Seat} {Q : Exit → Act → World → Prop} {ops : List Oper} {bef : List Nat} {draw : Bool} {r r' : Nat → RV} {h h' : Hp} {io : Nat → Value} {a : Act} {w : World}
theorem look_app {β : Type} (d : β) : ∀ (l m : List (Nat × β)) (k : Nat), look d (l ++ m) k = look (look d m k) l k
  | [], m, k => rfl
  | (j, v) :: l, m, k => by simp only [List.cons_append, look, look_app d l m k]
theorem app_hp (S : St) (d : Option Tmp) (e : Eff) : (S.app d e).hp = Hp.app S.hp e.hp := by
  funext k
  exact look_app none _ _ k
theorem app_get (S : St) (d : Option Tmp) (e : Eff) : (S.app d e).get = setR S.get d e.v := by
  funext t
  cases d with
  | none => simp [St.app, St.get, setR]
  | some d =>
    by_cases hd : d = t
    · subst hd; simp [St.app, St.get, setR, look]
    · simp [St.app, St.get, setR, look, beq_ne hd, hd]
theorem set_get {S : St} {d : Nat} {v : RV} (hd : S.get d = v) : (S.set d v).get = S.get := by
  funext t
  by_cases h : d = t
  · subst h; rw [hd]; simp [St.set, St.get, look]
  · simp [St.set, St.get, look, beq_ne h]
theorem guard_ok {o : Oper} {S : St} {K : Bool → St → Prop} (hk : guardK ops o S K) : ∃ want S', K want S' ∧ GuardOk ops o S.get want ∧ S'.get = S.get ∧ S'.hp = S.hp := by
  unfold guardK at hk
  unfold GuardOk
  cases hg : o.guard with
  | none =>
    rw [hg] at hk
    exact ⟨true, S, hk, rfl, rfl, rfl⟩
  | some jw =>
    obtain ⟨j, wnt⟩ := jw
    rw [hg] at hk
    simp only at hk ⊢
    split at hk
    · rename_i q hq
      split at hk
      · rename_i d hd
        split at hk
        · rename_i b hb
          split at hk
          · rename_i hbt
            have hbt : b = true := hbt
            subst hbt
            exact ⟨wnt, _, hk, ⟨q, d, hq, hd, .inl ⟨true, hb, rfl⟩⟩, set_get hb, rfl⟩
          · rename_i hbt
            have hbt : b = false := by simpa using hbt
            subst hbt
            exact ⟨!wnt, _, hk, ⟨q, d, hq, hd, .inl ⟨false, hb, rfl⟩⟩, set_get hb, rfl⟩
        · rename_i hb
          exact ⟨false, S, hk, ⟨q, d, hq, hd, .inr ⟨hb, rfl⟩⟩, rfl, rfl⟩
        · exact hk.elim
      · exact hk.elim
    · exact hk.elim
theorem opsK_tr (hΓ : ∀ e ∈ Γ, FeOk P e) : ∀ (l : List Oper) (i : Nat) (hist : List Ft) (S : St) (K : St → Prop), opsK P Γ nt ops bef draw l i hist S K →
    ∃ vs S', K S' ∧ Tr P nt ops l S.get S.hp vs S'.get S'.hp ∧ (draw = true → ApartL ops bef i hist l vs)
  | [], i, hist, S, K, hk => ⟨[], S, hk, .nil _ _, fun _ => trivial⟩
  | o :: l, i, hist, S, K, hk => by
    simp only [opsK] at hk
    cases hc : dstOk nt o && (!draw || edgesOk o i) with
    | false => rw [hc] at hk; exact hk.elim
    | true =>
      rw [hc, cond_true] at hk
      simp only [Bool.and_eq_true] at hc
      obtain ⟨want, S1, hk, hg, hr, hh⟩ := guard_ok hk
      have key : ∀ (e : Eff), cond (!draw || mayNext ops bef hist ⟨i, e.rd, e.hp.map (·.1)⟩) (opsK P Γ nt ops bef draw l (i + 1) (⟨i, e.rd, e.hp.map (·.1)⟩ :: hist) (S1.app o.dst e) K) False →
          Does P nt ops o S.get S.hp (want, e) → ∃ vs S', K S' ∧ Tr P nt ops (o :: l) S.get S.hp vs S'.get S'.hp ∧ (draw = true → ApartL ops bef i hist (o :: l) vs) := by
        intro e hk hD
        cases hm : !draw || mayNext ops bef hist ⟨i, e.rd, e.hp.map (·.1)⟩ with
        | false => rw [hm] at hk; exact hk.elim
        | true =>
          rw [hm, cond_true] at hk
          obtain ⟨vs, S', h1, h2, h3⟩ := opsK_tr hΓ l (i + 1) _ _ K hk
          rw [app_get, app_hp, hr, hh] at h2
          refine ⟨(want, e) :: vs, S', h1, .cons hD h2, fun hd => ⟨?_, ?_, h3 hd⟩⟩
          · simpa [hd, ftOf] using hm
          · simpa [hd] using hc.2
      cases want with
      | true =>
        rw [cond_true] at hk
        obtain ⟨e, hk, hok⟩ := opK_sound hΓ hc.1 hk
        refine key e hk ⟨hc.1, hg, fun _ => ?_, fun h => by cases h⟩
        unfold OpOk at hok
        rw [hr, hh] at hok
        exact hok
      | false => exact key noEff hk ⟨hc.1, hg, (fun h => by cases h), fun _ => rfl⟩
theorem wanted_ok {o : Oper} {ops : Array Oper} {want : Bool} (hg : GuardOk ops.toList o r want) (R : Rel C r h io a w) : Region.wanted o (yielded ops a.tmps) = want := by
  unfold GuardOk at hg
  unfold Region.wanted
  cases hgd : o.guard with
  | none => rw [hgd] at hg; exact hg.symm
  | some jw =>
    obtain ⟨j, wnt⟩ := jw
    rw [hgd] at hg
    simp only at hg ⊢
    obtain ⟨q, d, h1, h2, h3⟩ := hg
    have hb : (ops[j]?).bind (·.dst) = some d := by
      rw [Array.getElem?_toList] at h1
      simp [h1, h2]
    have hR := R.regs d
    rcases h3 with ⟨b, h3, rfl⟩ | ⟨h3, rfl⟩
    · rw [h3] at hR
      have h4 := bool_of hR
      have h5 : a.tmps[d]? = some (.bool b) := by
        cases hx : a.tmps[d]? with
        | none => simp [hx, undef] at h4
        | some u => simp [hx] at h4; rw [h4]
      have : yielded ops a.tmps j = some b := by
        unfold yielded
        rw [hb]
        simp [h5]
      rw [this]
      cases b <;> cases wnt <;> rfl
    · rw [h3] at hR
      have hR : a.tmps.getD d undef = undef := hR
      have : yielded ops a.tmps j = none := by
        unfold yielded
        rw [hb]
        cases hx : a.tmps[d]? with
        | none => simp [hx]
        | some u =>
          simp [hx] at hR
          simp [hx, hR, undef]
      rw [this]
      cases wnt <;> rfl
/-- What was done, done: one operation. -/
theorem does_op {o : Oper} {ops : Array Oper} {i : Nat} {v : Bool × Eff} {r0 : Nat → RV} {h0 : Hp} {K : Act → World → Prop} (hi : ops[i]? = some o) (hD : Does P nt ops.toList o r0 h0 v) (hn : C.nt = nt)
    (hu : ∀ t ∈ uses ops.toList o, r t = r0 t) (hh : ∀ k, (k ∈ v.2.rd ∨ k ∈ v.2.hp.map (·.1)) → h k = h0 k) (R : Rel C r h io a w)
    (hK : ∀ io a w, Rel C (setR r o.dst v.2.v) (h.app v.2.hp) io a w → K a w) : wpOp P ops Q i K a w := by
  have hg : GuardOk ops.toList o r v.1 := by
    have := hD.guard
    unfold GuardOk at this ⊢
    cases hgd : o.guard with
    | none => rw [hgd] at this; exact this
    | some jw =>
      obtain ⟨j, wnt⟩ := jw
      rw [hgd] at this
      simp only at this ⊢
      obtain ⟨q, d, h1, h2, h3⟩ := this
      refine ⟨q, d, h1, h2, ?_⟩
      rw [hu d (by
        unfold uses guardTmp
        rw [hgd]
        simp only [h1, h2]
        simp)]
      exact h3
  have hw := wanted_ok hg R
  unfold wpOp
  rw [hi]
  simp only [hw]
  cases hv : v.1 with
  | true =>
    rw [if_pos rfl]
    refine .inl (Oper.wp_mono (fun a w hx => ?_) (hD.yes hv C Q hn r h (fun t ht => hu t (List.mem_append_left _ ht)) hh io a w R))
    obtain ⟨io', hR⟩ := hx
    exact hK io' a w hR
  | false =>
    rw [if_neg (by simp)]
    have he := hD.no hv
    have hd := hD.dst
    refine hK io _ _ ?_
    rw [he]
    exact R.pure o.dst .und undef (fun _ => rfl) (dst_lt hd hn)
theorem wpOps_eq {ops : Array Oper} (i : Nat) (rest : List Nat) : wpOps P ops Q (i :: rest) a w = wpOp P ops Q i (wpOps P ops Q rest) a w := wpOps_cons i rest a w
theorem tr_seq {ops : Array Oper} {vs : List (Bool × Eff)} (hn : C.nt = nt) {l : List Oper} (hT : Tr P nt ops.toList l r h vs r' h') : ∀ (i : Nat) (io : Nat → Value) (a : Act) (w : World), (∀ (j : Nat) (o : Oper), l[j]? = some o → ops[i + j]? = some o) → Rel C r h io a w →
    (∀ io a w, Rel C r' h' io a w → Q .normal a w) → wpOps P ops Q (List.range' i l.length) a w := by
  induction hT with
  | nil r h => intro i io a w _ R hQ; exact hQ io a w R
  | cons hD hT ih =>
    intro i io a w hl R hQ
    simp only [List.length_cons, List.range'_succ]
    rw [wpOps_eq]
    refine does_op (hl 0 _ rfl) hD hn (fun _ _ => rfl) (fun _ _ => rfl) R (fun io a w R' => ?_)
    refine ih (i + 1) io a w (fun j o hj => ?_) R' hQ
    have := hl (j + 1) o (by simpa using hj)
    rw [show i + (j + 1) = i + 1 + j by omega] at this
    exact this
end
end Go.Proofs.YtieeiiibamkbmaaGreat.Am
