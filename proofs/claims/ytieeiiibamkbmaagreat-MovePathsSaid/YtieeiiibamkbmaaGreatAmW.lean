/- A region of the abstract machine, and the order of its operations. Conditions: none; these are lemmas. -/
import Derived.Test.YtieeiiibamkbmaaGreatAmV
namespace Go.Proofs.YtieeiiibamkbmaaGreat.Am
open Go Go.RowKit
set_option linter.unusedVariables false
set_option linter.unusedSimpArgs false

/-! Which operations stand before which. -/
def oneB (look : Nat → Nat) (o : Oper) : Nat := o.after.foldl (fun s e => if Region.binds .any e then s ||| 2 ^ e.on ||| look e.on else s) 0
theorem oneB_bit (look : Nat → Nat) (k : Nat) : ∀ (l : List Edge) (s : Nat), (l.foldl (fun s e => if Region.binds .any e then s ||| 2 ^ e.on ||| look e.on else s) s).testBit k = true →
    s.testBit k = true ∨ ∃ e ∈ l, Region.binds .any e = true ∧ (e.on = k ∨ (look e.on).testBit k = true)
  | [], s, h => .inl h
  | e :: l, s, h => by
    simp only [List.foldl_cons] at h
    rcases oneB_bit look k l _ h with h1 | ⟨e', h1, h2⟩
    · cases hb : Region.binds .any e with
      | false =>
        rw [hb] at h1
        exact .inl (by simpa using h1)
      | true =>
        rw [hb, if_pos rfl, Nat.testBit_or, Nat.testBit_or, Nat.testBit_two_pow] at h1
        simp only [Bool.or_eq_true, decide_eq_true_eq] at h1
        rcases h1 with (h1 | h1) | h1
        · exact .inl h1
        · exact .inr ⟨e, by simp, hb, .inl h1⟩
        · exact .inr ⟨e, by simp, hb, .inr h1⟩
    · exact .inr ⟨e', by simp [h1], h2⟩
def befL (l : List Oper) (acc : Array Nat) : Array Nat := l.foldl (fun acc o => acc.push (oneB (fun i => acc.getD i 0) o)) acc
theorem befL_keep : ∀ (l : List Oper) (acc : Array Nat) (j : Nat), j < acc.size → (befL l acc).getD j 0 = acc.getD j 0
  | [], acc, j, hj => rfl
  | o :: l, acc, j, hj => by
    have := befL_keep l (acc.push (oneB (fun i => acc.getD i 0) o)) j (by simp; omega)
    show (befL l _).getD j 0 = _
    rw [this]
    simp [Array.getElem?_push, Nat.ne_of_lt hj]
theorem befL_bit : ∀ (l : List Oper) (acc : Array Nat) (j k : Nat), ((befL l acc).getD j 0).testBit k = true → (j < acc.size ∧ (acc.getD j 0).testBit k = true) ∨
    ∃ o, acc.size ≤ j ∧ l[j - acc.size]? = some o ∧ ∃ e ∈ o.after, Region.binds .any e = true ∧ (e.on = k ∨ ((befL l acc).getD e.on 0).testBit k = true)
  | [], acc, j, k, h => by
    by_cases hj : j < acc.size
    · exact .inl ⟨hj, h⟩
    · have : (befL [] acc).getD j 0 = 0 := by
        show acc.getD j 0 = 0
        simp [Array.getElem?_eq_none (Nat.le_of_not_lt hj)]
      rw [this] at h
      simp at h
  | o :: l, acc, j, k, h => by
    have hdef : befL (o :: l) acc = befL l (acc.push (oneB (fun i => acc.getD i 0) o)) := rfl
    rw [hdef] at h ⊢
    rcases befL_bit l (acc.push (oneB (fun i => acc.getD i 0) o)) j k h with ⟨h1, h2⟩ | ⟨o', h1, h2, h3⟩
    · simp only [Array.size_push] at h1
      by_cases hj : j < acc.size
      · refine .inl ⟨hj, ?_⟩
        have : (acc.push (oneB (fun i => acc.getD i 0) o)).getD j 0 = acc.getD j 0 := by simp [Array.getElem?_push, Nat.ne_of_lt hj]
        rw [this] at h2
        exact h2
      · have hje : j = acc.size := by omega
        subst hje
        have : (acc.push (oneB (fun i => acc.getD i 0) o)).getD acc.size 0 = oneB (fun i => acc.getD i 0) o := by simp
        rw [this] at h2
        unfold oneB at h2
        rw [← Array.foldl_toList] at h2
        rcases oneB_bit (fun i => acc.getD i 0) k o.after.toList 0 h2 with h3 | ⟨e, h3, h4, h5⟩
        · simp at h3
        · refine .inr ⟨o, Nat.le_refl _, by simp, e, by simpa using h3, h4, h5.imp id (fun h6 => ?_)⟩
          by_cases he : e.on < acc.size
          · rw [befL_keep l _ e.on (by simp; omega)]
            have : (acc.push (oneB (fun i => acc.getD i 0) o)).getD e.on 0 = acc.getD e.on 0 := by simp [Array.getElem?_push, Nat.ne_of_lt he]
            rw [this]
            exact h6
          · have : acc.getD e.on 0 = 0 := by simp [Array.getElem?_eq_none (Nat.le_of_not_lt he)]
            rw [this] at h6
            simp at h6
    · simp only [Array.size_push] at h1 h2
      refine .inr ⟨o', by omega, ?_, h3⟩
      rw [show j - acc.size = (j - (acc.size + 1)) + 1 by omega]
      simpa using h2
theorem before_bit {ops : Array Oper} {j k : Nat} (h : ((Region.before ops).getD j 0).testBit k = true) : ∃ o, ops[j]? = some o ∧ ∃ e ∈ o.after, Region.binds .any e = true ∧ (e.on = k ∨ ((Region.before ops).getD e.on 0).testBit k = true) := by
  have e1 : Region.before ops = befL ops.toList #[] := by
    unfold Region.before befL
    rw [← Array.foldl_toList]
    rfl
  rw [e1] at h ⊢
  rcases befL_bit ops.toList #[] j k h with ⟨h1, _⟩ | ⟨o, _, h1, h2⟩
  · simp at h1
  · exact ⟨o, by simpa using h1, h2⟩

/-! Updates, some of them done. -/
section
variable {κ ν : Type}
def applyU (u : κ → Option ν) (s : κ → ν) : κ → ν := fun k => (u k).getD (s k)
def foldU (D : Nat → Bool) : Nat → List (κ → Option ν) → (κ → ν) → (κ → ν)
  | _, [], s => s
  | i, u :: us, s => foldU D (i + 1) us (if D i then applyU u s else s)
theorem foldU_agree {D D' : Nat → Bool} {k : κ} : ∀ (us : List (κ → Option ν)) (i : Nat) (s s' : κ → ν), s k = s' k → (∀ (j : Nat) (u : κ → Option ν), us[j]? = some u → u k ≠ none → D (i + j) = D' (i + j)) → foldU D i us s k = foldU D' i us s' k
  | [], i, s, s', hs, _ => hs
  | u :: us, i, s, s', hs, h => by
    simp only [foldU]
    refine foldU_agree us (i + 1) _ _ ?_ (fun j u' hj hu => ?_)
    · by_cases hu : u k = none
      · have h1 : ∀ (b : Bool) (s : κ → ν), (if b then applyU u s else s) k = s k := fun b s => by cases b <;> simp [applyU, hu]
        rw [h1, h1, hs]
      · have := h 0 u rfl hu
        rw [Nat.add_zero] at this
        rw [this]
        cases D' i
        · exact hs
        · simp [applyU, hs]
    · have := h (j + 1) u' (by simpa using hj) hu
      rw [show i + (j + 1) = i + 1 + j by omega] at this
      exact this
/-- The last of those done that concern k. -/
theorem foldU_last {D : Nat → Bool} {k : κ} : ∀ (us : List (κ → Option ν)) (i : Nat) (s : κ → ν) (j : Nat) (u : κ → Option ν) (x : ν), us[j]? = some u → u k = some x → D (i + j) = true →
    (∀ (m : Nat) (u' : κ → Option ν), us[m]? = some u' → j < m → D (i + m) = true → u' k = none) → foldU D i us s k = x
  | [], i, s, j, u, x, hj, _, _, _ => by simp at hj
  | u0 :: us, i, s, 0, u, x, hj, hu, hD, hlast => by
    simp only [List.getElem?_cons_zero, Option.some.injEq] at hj
    subst hj
    simp only [foldU]
    rw [Nat.add_zero] at hD
    rw [hD, if_pos rfl]
    have : foldU D (i + 1) us (applyU u0 s) k = foldU (fun _ => false) (i + 1) us (applyU u0 s) k := foldU_agree us (i + 1) _ _ rfl (fun m u' hm hu' => by
      cases hDm : D (i + 1 + m) with
      | false => rfl
      | true => exact absurd (hlast (m + 1) u' (by simpa using hm) (by omega) (by rw [show i + (m + 1) = i + 1 + m by omega]; exact hDm)) hu')
    rw [this]
    have none : ∀ (us : List (κ → Option ν)) (i : Nat) (s : κ → ν), foldU (fun _ => false) i us s = s := by
      intro us
      induction us with
      | nil => intro i s; rfl
      | cons u us ih => intro i s; simp [foldU, ih]
    rw [none]
    simp [applyU, hu]
  | u0 :: us, i, s, j + 1, u, x, hj, hu, hD, hlast => by
    simp only [foldU]
    refine foldU_last us (i + 1) _ j u x (by simpa using hj) hu (by rw [show i + 1 + j = i + (j + 1) by omega]; exact hD) (fun m u' hm hlt hDm => ?_)
    exact hlast (m + 1) u' (by simpa using hm) (by omega) (by rw [show i + (m + 1) = i + 1 + m by omega]; exact hDm)
/-- One more is done. -/
theorem foldU_insert {D D' : Nat → Bool} {us : List (κ → Option ν)} {s : κ → ν} {j : Nat} {u : κ → Option ν} (hj : us[j]? = some u) (hD' : D' j = true) (hoth : ∀ m, m ≠ j → D' m = D m)
    (hlast : ∀ (m : Nat) (u' : κ → Option ν), us[m]? = some u' → j < m → D m = true → ∀ k, u k ≠ none → u' k = none) : foldU D' 0 us s = applyU u (foldU D 0 us s) := by
  funext k
  cases hu : u k with
  | none =>
    simp only [applyU, hu, Option.getD_none]
    refine foldU_agree us 0 s s rfl (fun m u' hm hu' => ?_)
    rw [Nat.zero_add]
    refine hoth m (fun e => ?_)
    subst e
    rw [hj] at hm
    injection hm with hm
    subst hm
    exact hu' hu
  | some x =>
    simp only [applyU, hu, Option.getD_some]
    refine foldU_last us 0 s j u x hj hu (by rw [Nat.zero_add]; exact hD') (fun m u' hm hlt hDm => ?_)
    rw [Nat.zero_add, hoth m (by omega)] at hDm
    exact hlast m u' hm hlt hDm k (by simp [hu])
theorem foldU_none (us : List (κ → Option ν)) (i : Nat) (s : κ → ν) {D : Nat → Bool} (h : ∀ j, j < us.length → D (i + j) = false) : foldU D i us s = s := by
  induction us generalizing i s with
  | nil => rfl
  | cons u us ih =>
    have h0 := h 0 (by simp)
    rw [Nat.add_zero] at h0
    simp only [foldU, h0]
    exact ih (i + 1) s (fun j hj => by
      have := h (j + 1) (by simpa using hj)
      rw [show i + (j + 1) = i + 1 + j by omega] at this
      exact this)
end
/-! The updates of a region's operations. -/
def updR (d : Option Tmp) (v : RV) : Nat → Option RV := fun t => if d = some t then some v else none
def updH (hs : List (Nat × Blk)) : Nat → Option (Option Blk) := fun k => if k ∈ hs.map (·.1) then some (look none (hs.map (fun q => (q.1, some q.2))) k) else none
theorem setR_upd (r : Nat → RV) (d : Option Tmp) (v : RV) : setR r d v = applyU (updR d v) r := by
  funext t
  by_cases h : d = some t <;> simp [setR, applyU, updR, h]
theorem app_upd (h : Hp) (hs : List (Nat × Blk)) : h.app hs = applyU (updH hs) h := by
  funext k
  show look (h k) (hs.map (fun q => (q.1, some q.2))) k = _
  induction hs with
  | nil => rfl
  | cons q hs ih =>
    by_cases hq : q.1 = k
    · simp [applyU, updH, look, hq]
    · have hb : Nat.beq q.1 k = false := beq_ne hq
      simp only [List.map_cons, look, hb, cond_false]
      rw [ih]
      have hne : k ≠ q.1 := fun e => hq e.symm
      by_cases hm : k ∈ hs.map (·.1) <;> simp [applyU, updH, look, hb, hm, hne]
end Go.Proofs.YtieeiiibamkbmaaGreat.Am
