/- A state read by slots. Conditions: none; these are lemmas. -/
import Derived.Test.YtieeiiibamkbmaaGreatAmWB
namespace Go.Proofs.YtieeiiibamkbmaaGreat.Am
open Go Go.RowKit
set_option linter.unusedVariables false
set_option linter.unusedSimpArgs false

def nilV : Value := .slice none 0 0
/-- What is kept, and under which numbers. -/
def kn (S : St) : List Slot → List (Nat × Nat)
  | [] => []
  | .row t _ _ :: l => (match S.get t with
    | .row k => (k, t) :: kn S l
    | _ => kn S l)
  | .box _ k _ _ :: l => (k, k) :: kn S l
  | .boxr _ k _ _ :: l => (k, k) :: kn S l
  | .boxm k _ a r _ _ _ :: l => (match S.hp k with
    | some (.box _ _ cs) => (match cs[a.cells]? with
      | some (.row j) => (k, k) :: (j, r) :: kn S l
      | _ => (k, k) :: kn S l)
    | _ => (k, k) :: kn S l)
  | _ :: l => kn S l
theorem kn_keeps (S : St) : ∀ l : List Slot, (kn S l).map (·.1) = keeps S l
  | [] => rfl
  | .reg _ _ :: l => kn_keeps S l
  | .ref _ _ :: l => kn_keeps S l
  | .fn _ _ _ :: l => kn_keeps S l
  | .row t _ _ :: l => by
    have ih := kn_keeps S l
    simp only [kn, keeps]
    split <;> simp_all
  | .box _ k _ _ :: l => by simp [kn, keeps, kn_keeps S l]
  | .boxr _ k _ _ :: l => by simp [kn, keeps, kn_keeps S l]
  | .boxm k _ a r _ _ _ :: l => by
    have ih := kn_keeps S l
    simp only [kn, keeps]
    split
    · split <;> simp_all
    · simp_all
theorem nodupB_ok : ∀ {l : List Nat}, nodupB l = true → l.Nodup
  | [], _ => List.nodup_nil
  | k :: l, h => by
    simp only [nodupB, Bool.and_eq_true, Bool.not_eq_true', List.contains_eq_mem, decide_eq_false_iff_not] at h
    exact List.nodup_cons.2 ⟨h.1, nodupB_ok h.2⟩
theorem fst_inj {l : List (Nat × Nat)} (hn : (l.map (·.1)).Nodup) {k n n' : Nat} (h1 : (k, n) ∈ l) (h2 : (k, n') ∈ l) : n = n' := by
  induction l with
  | nil => simp at h1
  | cons q l ih =>
    simp only [List.map_cons, List.nodup_cons] at hn
    rcases List.mem_cons.1 h1 with h1 | h1 <;> rcases List.mem_cons.1 h2 with h2 | h2
    · rw [← h1] at h2; injection h2 with _ h2; exact h2.symm
    · exact absurd (List.mem_map.2 ⟨_, h2, by rw [← h1]⟩) hn.1
    · exact absurd (List.mem_map.2 ⟨_, h1, by rw [← h2]⟩) hn.1
    · exact ih hn.2 h1 h2
/-- The values of the kept blocks, under their new numbers. -/
def ioN (S : St) (io : Nat → Value) : List Slot → Nat → Value
  | [] => io
  | .row t _ _ :: l => fun n => if n = t then (match S.get t with
      | .row k => io k
      | _ => nilV) else ioN S io l n
  | .boxm k _ a r _ _ _ :: l => fun n => if n = r then (match S.hp k with
      | some (.box _ _ cs) => (match cs[a.cells]? with
        | some (.row j) => io j
        | _ => nilV)
      | _ => nilV) else ioN S io l n
  | _ :: l => ioN S io l
def rowNames : List Slot → List Nat
  | [] => []
  | .row t _ _ :: l => t :: rowNames l
  | .boxm _ _ _ r _ _ _ :: l => r :: rowNames l
  | _ :: l => rowNames l
theorem ioN_other {S : St} {io : Nat → Value} {n : Nat} : ∀ {l : List Slot}, n ∉ rowNames l → ioN S io l n = io n
  | [], _ => rfl
  | .reg _ _ :: l, h => ioN_other (l := l) h
  | .ref _ _ :: l, h => ioN_other (l := l) h
  | .fn _ _ _ :: l, h => ioN_other (l := l) h
  | .box _ _ _ _ :: l, h => ioN_other (l := l) h
  | .boxr _ _ _ _ :: l, h => ioN_other (l := l) h
  | .row t _ _ :: l, h => by
    simp only [rowNames, List.mem_cons, not_or] at h
    simp only [ioN, if_neg h.1]
    exact ioN_other (l := l) h.2
  | .boxm k _ a r _ _ _ :: l, h => by
    simp only [rowNames, List.mem_cons, not_or] at h
    simp only [ioN, if_neg h.1]
    exact ioN_other (l := l) h.2
theorem row_box {n : Nat} : ∀ {l : List Slot}, (names l).Nodup → n ∈ boxNames l → n ∉ rowNames l := by
  have hsub : ∀ (l : List Slot) (n : Nat), n ∈ rowNames l → n ∈ names l := by
    intro l n
    induction l with
    | nil => simp [rowNames]
    | cons s l ih => cases s <;> simp only [rowNames, names, List.mem_cons] <;> intro h <;> first | exact ih h | exact .inr (ih h) | exact h.imp id ih | exact .inr (h.imp id ih)
  have hsub2 : ∀ (l : List Slot) (n : Nat), n ∈ boxNames l → n ∈ names l := by
    intro l n
    induction l with
    | nil => simp [boxNames]
    | cons s l ih => cases s <;> simp only [boxNames, names, List.mem_cons] <;> intro h <;> first | exact ih h | exact .inr (ih h) | exact h.imp id ih | exact h.imp id (fun h => .inr (ih h))
  intro l
  induction l with
  | nil => intro _ h; simp [boxNames] at h
  | cons s l ih =>
    intro hn hb
    cases s with
    | reg _ _ => exact ih hn hb
    | ref _ _ => exact ih hn hb
    | fn _ _ _ => exact ih hn hb
    | row t _ _ =>
      simp only [names, List.nodup_cons] at hn
      simp only [rowNames, List.mem_cons, not_or]
      refine ⟨fun e => hn.1 (e ▸ hsub2 l n hb), ih hn.2 hb⟩
    | box w k _ _ =>
      simp only [names, List.nodup_cons] at hn
      simp only [boxNames, List.mem_cons] at hb
      rcases hb with rfl | hb
      · exact fun h => hn.1 (hsub l _ h)
      · exact ih hn.2 hb
    | boxr w k _ _ =>
      simp only [names, List.nodup_cons] at hn
      simp only [boxNames, List.mem_cons] at hb
      rcases hb with rfl | hb
      · exact fun h => hn.1 (hsub l _ h)
      · exact ih hn.2 hb
    | boxm k t a r te e b =>
      simp only [names, List.nodup_cons, List.mem_cons, not_or] at hn
      simp only [boxNames, List.mem_cons] at hb
      simp only [rowNames, List.mem_cons, not_or]
      rcases hb with rfl | hb
      · exact ⟨hn.1.1, fun h => hn.1.2 (hsub l _ h)⟩
      · exact ⟨fun e => hn.2.1 (e ▸ hsub2 l n hb), ih hn.2.2 hb⟩
theorem rowNames_names : ∀ (l : List Slot) (n : Nat), n ∈ rowNames l → n ∈ names l := by
  intro l n
  induction l with
  | nil => simp [rowNames]
  | cons s l ih => cases s <;> simp only [rowNames, names, List.mem_cons] <;> intro h <;> first | exact ih h | exact .inr (ih h) | exact h.imp id ih | exact .inr (h.imp id ih)
theorem ioN_row {S : St} {io : Nat → Value} {t : Nat} {te : TypeId} {e : Ty} : ∀ {l : List Slot}, (names l).Nodup → Slot.row t te e ∈ l → ioN S io l t = (match S.get t with
      | .row k => io k
      | _ => nilV) := by
  have hin : ∀ (l : List Slot), Slot.row t te e ∈ l → t ∈ names l := by
    intro l
    induction l with
    | nil => simp
    | cons s l ih =>
      intro h
      rcases List.mem_cons.1 h with rfl | h
      · simp [names]
      · have := ih h
        cases s <;> simp [names, this]
  intro l
  induction l with
  | nil => intro _ h; simp at h
  | cons s l ih =>
    intro hn h
    rcases List.mem_cons.1 h with rfl | hl
    · simp [ioN]
    · have ht := hin l hl
      clear h
      cases s with
      | reg _ _ => exact ih hn hl
      | ref _ _ => exact ih hn hl
      | fn _ _ _ => exact ih hn hl
      | box _ _ _ _ => exact ih (List.nodup_cons.1 hn).2 hl
      | boxr _ _ _ _ => exact ih (List.nodup_cons.1 hn).2 hl
      | row t' _ _ =>
        simp only [names, List.nodup_cons] at hn
        have : t ≠ t' := fun e => hn.1 (e ▸ ht)
        simp only [ioN, if_neg this]
        exact ih hn.2 hl
      | boxm k _ a r _ _ _ =>
        simp only [names, List.nodup_cons, List.mem_cons, not_or] at hn
        have : t ≠ r := fun e => hn.2.1 (e ▸ ht)
        simp only [ioN, if_neg this]
        exact ih hn.2.2 hl
theorem ioN_boxm {S : St} {io : Nat → Value} {k r : Nat} {t te : TypeId} {a e b : Ty} : ∀ {l : List Slot}, (names l).Nodup → Slot.boxm k t a r te e b ∈ l → ioN S io l r = (match S.hp k with
      | some (.box _ _ cs) => (match cs[a.cells]? with
        | some (.row j) => io j
        | _ => nilV)
      | _ => nilV) := by
  have hin : ∀ (l : List Slot), Slot.boxm k t a r te e b ∈ l → r ∈ names l := by
    intro l
    induction l with
    | nil => simp
    | cons s l ih =>
      intro h
      rcases List.mem_cons.1 h with rfl | h
      · simp [names]
      · have := ih h
        cases s <;> simp [names, this]
  intro l
  induction l with
  | nil => intro _ h; simp at h
  | cons s l ih =>
    intro hn h
    rcases List.mem_cons.1 h with rfl | hl
    · simp [ioN]
    · have ht := hin l hl
      clear h
      cases s with
      | reg _ _ => exact ih hn hl
      | ref _ _ => exact ih hn hl
      | fn _ _ _ => exact ih hn hl
      | box _ _ _ _ => exact ih (List.nodup_cons.1 hn).2 hl
      | boxr _ _ _ _ => exact ih (List.nodup_cons.1 hn).2 hl
      | row t' _ _ =>
        simp only [names, List.nodup_cons] at hn
        have : r ≠ t' := fun e => hn.1 (e ▸ ht)
        simp only [ioN, if_neg this]
        exact ih hn.2 hl
      | boxm k' _ a' r' _ _ _ =>
        simp only [names, List.nodup_cons, List.mem_cons, not_or] at hn
        have : r ≠ r' := fun e => hn.2.1 (e ▸ ht)
        simp only [ioN, if_neg this]
        exact ih hn.2.2 hl
theorem encS_born : ∀ {l : List Slot} {y : sden l} {n : Nat}, n ∈ names l → (encS l y).hp n ≠ none
  | [], y, n, h => by simp [names] at h
  | .reg t e :: l, y, n, h => encS_born (l := l) (y := y.2) h
  | .ref t r :: l, y, n, h => encS_born (l := l) (y := y) h
  | .fn t f e :: l, y, n, h => encS_born (l := l) (y := y.2) h
  | .row t te e :: l, y, n, h => by
    simp only [names, List.mem_cons] at h
    by_cases hn : t = n
    · subst hn; simp [encS, St.put, St.hp, look]
    · have := encS_born (l := l) (y := y.2) (n := n) (h.resolve_left (fun e => hn e.symm))
      simpa [encS, St.put, St.set, St.hp, look, beq_ne hn] using this
  | .box w k t e :: l, y, n, h => by
    simp only [names, List.mem_cons] at h
    by_cases hn : k = n
    · subst hn; simp [encS, St.put, St.hp, look]
    · have := encS_born (l := l) (y := y.2) (n := n) (h.resolve_left (fun e => hn e.symm))
      simpa [encS, St.put, St.hp, look, beq_ne hn] using this
  | .boxr w k t cs :: l, y, n, h => by
    simp only [names, List.mem_cons] at h
    by_cases hn : k = n
    · subst hn; simp [encS, St.put, St.hp, look]
    · have := encS_born (l := l) (y := y) (n := n) (h.resolve_left (fun e => hn e.symm))
      simpa [encS, St.put, St.hp, look, beq_ne hn] using this
  | .boxm k t a r te e b :: l, y, n, h => by
    simp only [names, List.mem_cons] at h
    by_cases hn : r = n
    · subst hn; simp [encS, St.put, St.hp, look]
    · by_cases hk : k = n
      · subst hk; simp [encS, St.put, St.hp, look, beq_ne hn]
      · have := encS_born (l := l) (y := y.2.2.2) (n := n) ((h.resolve_left (fun e => hk e.symm)).resolve_left (fun e => hn e.symm))
        simpa [encS, St.put, St.hp, look, beq_ne hn, beq_ne hk] using this
/-- What the registers of a state read by slots are. -/
inductive RegIs (S : St) (sl : List Slot) (t : Nat) : RV → Prop
  | unk : RegIs S sl t .unk
  | reg (e : Ty) (x : e.den) (v : V1) : Slot.reg t e ∈ sl → pure1 S (S.get t) = some v → v.to e = some x → RegIs S sl t (.p (V1.of e x))
  | ref (r : RV) : Slot.ref t r ∈ sl → sameRef r (S.get t) = true → RegIs S sl t r
  | row (te : TypeId) (e : Ty) : Slot.row t te e ∈ sl → ((∃ k xs, S.get t = .row k ∧ S.hp k = some (.row te e xs)) ∨ S.get t = .p (.v (.nil e))) → RegIs S sl t (.row t)
  | fn (f : FuncId) (e : Ty) (x : e.den) (v : V1) : Slot.fn t f e ∈ sl → S.get t = .clos f [v] [] → v.to e = some x → RegIs S sl t (.clos f [V1.of e x] [])
theorem RegIs.more {S : St} {sl : List Slot} {t : Nat} {s : Slot} {r : RV} (h : RegIs S sl t r) : RegIs S (s :: sl) t r := by
  cases h with
  | unk => exact .unk
  | reg e x v h1 h2 h3 => exact .reg e x v (by simp [h1]) h2 h3
  | ref r h1 h2 => exact .ref r (by simp [h1]) h2
  | row te e h1 h2 => exact .row te e (by simp [h1]) h2
  | fn f e x v h1 h2 h3 => exact .fn f e x v (by simp [h1]) h2 h3
theorem cast_slice {e e' : Ty} {xs : List e'.den} {x : List e.den} (h : castTy (.slice e') (.slice e) xs = some x) : e' = e ∧ HEq xs x := by
  obtain ⟨q, h⟩ := castTy_some h
  injection q with q1
  subst q1
  exact ⟨rfl, heq_of_eq h⟩
theorem encS_get {S : St} : ∀ {sl : List Slot} {y : sden sl}, decS1 S sl = some y → ∀ t, RegIs S sl t ((encS sl y).get t)
  | [], y, _, t => .unk
  | .reg t0 e :: l, y, hd, t => by
    simp only [decS1] at hd
    split at hd
    · rename_i v hv
      split at hd
      · rename_i x z hx hz
        injection hd with hd
        subst hd
        by_cases ht : t0 = t
        · subst ht
          simp only [encS, St.set, St.get, look, Nat.beq_refl, cond_true]
          exact .reg e x v (by simp) hv hx
        · have := (encS_get hz t).more (s := .reg t0 e)
          simpa [encS, St.set, St.get, look, beq_ne ht] using this
      · cases hd
    · cases hd
  | .ref t0 r :: l, y, hd, t => by
    simp only [decS1] at hd
    cases hs : sameRef r (S.get t0) with
    | false => rw [hs] at hd; cases hd
    | true =>
      rw [hs, cond_true] at hd
      by_cases ht : t0 = t
      · subst ht
        simp only [encS, St.set, St.get, look, Nat.beq_refl, cond_true]
        exact .ref r (by simp) hs
      · have := (encS_get hd t).more (s := .ref t0 r)
        simpa [encS, St.set, St.get, look, beq_ne ht] using this
  | .row t0 te e :: l, y, hd, t => by
    simp only [decS1] at hd
    split at hd
    · rename_i k hk
      split at hd
      · rename_i te' e' xs hxs
        split at hd
        · rename_i x z hx hz
          cases hb : Nat.beq te te' with
          | false => rw [hb] at hd; cases hd
          | true =>
            rw [hb, cond_true] at hd
            injection hd with hd
            subst hd
            have hte := Nat.eq_of_beq_eq_true hb
            subst hte
            obtain ⟨rfl, _⟩ := cast_slice hx
            by_cases ht : t0 = t
            · subst ht
              simp only [encS, St.set, St.put, St.get, look, Nat.beq_refl, cond_true]
              exact .row te e' (by simp) (.inl ⟨k, xs, hk, hxs⟩)
            · have := (encS_get hz t).more (s := .row t0 te e')
              simpa [encS, St.set, St.put, St.get, look, beq_ne ht] using this
        · cases hd
      · cases hd
    · rename_i e' hk
      split at hd
      · rename_i z hz
        cases hb : decide (e = e') with
        | false => rw [hb] at hd; cases hd
        | true =>
          rw [hb, cond_true] at hd
          injection hd with hd
          subst hd
          have he := of_decide_eq_true hb
          subst he
          by_cases ht : t0 = t
          · subst ht
            simp only [encS, St.set, St.put, St.get, look, Nat.beq_refl, cond_true]
            exact .row te e (by simp) (.inr hk)
          · have := (encS_get hz t).more (s := .row t0 te e)
            simpa [encS, St.set, St.put, St.get, look, beq_ne ht] using this
      · cases hd
    · cases hd
  | .box w k t0 e :: l, y, hd, t => by
    simp only [decS1] at hd
    split at hd
    · split at hd
      · split at hd
        · rename_i x z hx hz
          cases hb : Nat.beq t0 _ && w == _ with
          | false => rw [hb] at hd; cases hd
          | true =>
            rw [hb, cond_true] at hd
            injection hd with hd
            subst hd
            exact (encS_get hz t).more
        · cases hd
      · cases hd
    · cases hd
  | .boxr w k t0 cs :: l, y, hd, t => by
    simp only [decS1] at hd
    split at hd
    · cases hb : Nat.beq t0 _ && w == _ && sameRefs cs _ with
      | false => rw [hb] at hd; cases hd
      | true =>
        rw [hb, cond_true] at hd
        exact (encS_get hd t).more
    · cases hd
  | .boxm k t0 a r te e b :: l, y, hd, t => by
    simp only [decS1] at hd
    split at hd
    · split at hd
      · split at hd
        · rename_i u v hu hv
          cases hb : Nat.beq t0 _ with
          | false => rw [hb] at hd; cases hd
          | true =>
            rw [hb, cond_true] at hd
            injection hd with hd
            subst hd
            rename_i hz _ _ _ _ _
            exact (encS_get (by assumption) t).more
        · cases hd
      · cases hd
    · cases hd
  | .fn t0 f e :: l, y, hd, t => by
    simp only [decS1] at hd
    split at hd
    · rename_i g v hg
      split at hd
      · rename_i x z hx hz
        cases hb : Nat.beq f g with
        | false => rw [hb] at hd; cases hd
        | true =>
          rw [hb, cond_true] at hd
          injection hd with hd
          subst hd
          have hf := Nat.eq_of_beq_eq_true hb
          subst hf
          by_cases ht : t0 = t
          · subst ht
            simp only [encS, St.set, St.get, look, Nat.beq_refl, cond_true]
            exact .fn f e x v (by simp) hg hx
          · have := (encS_get hz t).more (s := .fn t0 f e)
            simpa [encS, St.set, St.get, look, beq_ne ht] using this
      · cases hd
    · cases hd
end Go.Proofs.YtieeiiibamkbmaaGreat.Am
