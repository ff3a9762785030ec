/- Plain laws of validity. Conditions: strings and lists of a length that the program allows. -/
import Derived.Test.YtieeiiibamkbmaaGreatAmP2
namespace Go.Proofs.YtieeiiibamkbmaaGreat.Am
open Go
set_option linter.unusedVariables false
set_option linter.unusedSimpArgs false

/-- The function answers whether P. -/
def Ans (f : (Bool → Prop) → Prop) (P : Prop) : Prop := ∃ b : Bool, (b = true ↔ P) ∧ ∀ K, K b → f K
theorem ans_iff {f : (Bool → Prop) → Prop} {P Q : Prop} (h : Ans f P) (e : P ↔ Q) : Ans f Q := by
  obtain ⟨b, h1, h2⟩ := h
  exact ⟨b, h1.trans e, h2⟩
theorem ans_pure {b : Bool} {P : Prop} (h : b = true ↔ P) : Ans (fun K => K b) P := ⟨b, h, fun K h => h⟩
theorem ans_dec {P : Prop} [Decidable P] : Ans (fun K => K (decide P)) P := ans_pure decide_eq_true_iff
theorem ans_false : Ans (fun K => K false) False := ans_pure (by simp)
theorem ans_true : Ans (fun K => K true) True := ans_pure (by simp)
theorem ans_use {f : (Bool → Prop) → Prop} {P : Prop} (h : Ans f P) {K : Bool → Prop} (hy : P → K true) (hn : ¬ P → K false) : f K := by
  obtain ⟨b, h1, h2⟩ := h
  refine h2 K ?_
  cases b with
  | true => exact hy (h1.1 rfl)
  | false => exact hn (fun hp => by have := h1.2 hp; cases this)
theorem ans_and {f g : (Bool → Prop) → Prop} {P Q : Prop} (hf : Ans f P) (hg : Ans g Q) : Ans (fun K => f (fun r => if r = true then g K else K false)) (P ∧ Q) := by
  obtain ⟨b, h1, h2⟩ := hf
  obtain ⟨c, h3, h4⟩ := hg
  refine ⟨b && c, by rw [Bool.and_eq_true, h1, h3], fun K hK => h2 _ ?_⟩
  cases b with
  | true => rw [if_pos rfl]; exact h4 K hK
  | false => rw [if_neg (by simp)]; exact hK
theorem ans_nand {f g : (Bool → Prop) → Prop} {P Q : Prop} (hf : Ans f P) (hg : Ans g Q) : Ans (fun K => f (fun r => if (!r) = true then K false else g K)) (P ∧ Q) := by
  obtain ⟨b, h1, h2⟩ := hf
  obtain ⟨c, h3, h4⟩ := hg
  refine ⟨b && c, by rw [Bool.and_eq_true, h1, h3], fun K hK => h2 _ ?_⟩
  cases b with
  | true => rw [if_neg (show ¬ (!true) = true by simp)]; exact h4 K hK
  | false => rw [if_pos (show (!false) = true from rfl)]; exact hK
theorem ans_if {c : Bool} {g : (Bool → Prop) → Prop} {P Q : Prop} (hc : c = true ↔ P) (hg : Ans g Q) : Ans (fun K => if c = true then g K else K false) (P ∧ Q) := by
  obtain ⟨b, h1, h2⟩ := hg
  refine ⟨c && b, by rw [Bool.and_eq_true, h1, hc], fun K hK => ?_⟩
  cases c with
  | true => rw [if_pos rfl]; exact h2 K hK
  | false => rw [if_neg (by simp)]; exact hK
theorem ans_ifn {c : Bool} {g : (Bool → Prop) → Prop} {P Q : Prop} (hc : c = false ↔ P) (hg : Ans g Q) : Ans (fun K => if c = true then K false else g K) (P ∧ Q) := by
  obtain ⟨b, h1, h2⟩ := hg
  refine ⟨!c && b, by rw [Bool.and_eq_true, h1, ← hc]; simp, fun K hK => ?_⟩
  cases c with
  | true => rw [if_pos rfl]; exact hK
  | false => rw [if_neg (by simp)]; exact h2 K hK
theorem ans_or {c : Bool} {g : (Bool → Prop) → Prop} {P Q : Prop} (hc : c = true ↔ P) (hg : Ans g Q) : Ans (fun K => if c = true then K true else g K) (P ∨ Q) := by
  obtain ⟨b, h1, h2⟩ := hg
  refine ⟨c || b, by rw [Bool.or_eq_true, h1, hc], fun K hK => ?_⟩
  cases c with
  | true => rw [if_pos rfl]; exact hK
  | false => rw [if_neg (by simp)]; exact h2 K hK
theorem ans_not {f : (Bool → Prop) → Prop} {P : Prop} (hf : Ans f P) : Ans (fun K => f (fun r => K (!r))) (¬ P) := by
  obtain ⟨b, h1, h2⟩ := hf
  exact ⟨!b, by rw [← h1]; cases b <;> simp, fun K hK => h2 _ hK⟩
/-- Some test comes first, then what is known. -/
theorem ans_pre {g : (Bool → Prop) → Prop} {B Q : Prop} (hb : B) (hg : Ans g Q) : Ans (fun K => B ∧ g K) Q := by
  obtain ⟨b, h1, h2⟩ := hg
  exact ⟨b, h1, fun K hK => ⟨hb, h2 K hK⟩⟩

/-! Loops over the numbers below n. -/
theorem all_loop {L : Nat → Int → Prop} {n : Int} {Q : Int → Prop} {k0 no : Prop}
    (hend : ∀ i, n ≤ i → (∀ j, 0 ≤ j → j < i → Q j) → k0 → L 1 i)
    (hstep : ∀ i m, 0 ≤ i → i < n → (∀ j, 0 ≤ j → j < i → Q j) → (Q i → L m (i + 1)) → (¬ Q i → no) → L (m + 1) i)
    (hk : (∀ j, 0 ≤ j → j < n → Q j) → k0) (hno : ¬ (∀ j, 0 ≤ j → j < n → Q j) → no) : ∃ m, L m 0 := by
  have key : ∀ (d : Nat) (i : Int), 0 ≤ i → (n - i).toNat ≤ d → (∀ j, 0 ≤ j → j < i → Q j) → ∃ m, L m i := by
    intro d
    induction d with
    | zero =>
      intro i hi hd hq
      exact ⟨1, hend i (by omega) hq (hk (fun j h1 h2 => hq j h1 (by omega)))⟩
    | succ d ih =>
      intro i hi hd hq
      by_cases hc : i < n
      · by_cases hQ : Q i
        · obtain ⟨m, hm⟩ := ih (i + 1) (by omega) (by omega) (fun j h1 h2 => by
            rcases Int.lt_or_eq_of_le (show j ≤ i by omega) with h | h
            · exact hq j h1 h
            · subst h; exact hQ)
          exact ⟨m + 1, hstep i m hi hc hq (fun _ => hm) (fun h => absurd hQ h)⟩
        · exact ⟨1, hstep i 0 hi hc hq (fun h => absurd h hQ) (fun _ => hno (fun h => hQ (h i hi hc)))⟩
      · exact ⟨1, hend i (by omega) hq (hk (fun j h1 h2 => hq j h1 (by omega)))⟩
  exact key n.toNat 0 (by omega) (by omega) (fun j h1 h2 => by omega)
/-- The first number below n of which Q holds, or -1. -/
theorem find_loop {L : Nat → Int → Prop} {n : Int} {Q : Int → Prop} {k : Int → Prop}
    (hend : ∀ i, n ≤ i → k (-1) → L 1 i)
    (hstep : ∀ i m, 0 ≤ i → i < n → (Q i → k i) → (¬ Q i → L m (i + 1)) → L (m + 1) i)
    (hno : (∀ j, 0 ≤ j → j < n → ¬ Q j) → k (-1)) (hyes : ∀ i, 0 ≤ i → i < n → Q i → (∀ j, 0 ≤ j → j < i → ¬ Q j) → k i) : ∃ m, L m 0 := by
  have key : ∀ (d : Nat) (i : Int), 0 ≤ i → (n - i).toNat ≤ d → (∀ j, 0 ≤ j → j < i → ¬ Q j) → ∃ m, L m i := by
    intro d
    induction d with
    | zero =>
      intro i hi hd hq
      exact ⟨1, hend i (by omega) (hno (fun j h1 h2 => hq j h1 (by omega)))⟩
    | succ d ih =>
      intro i hi hd hq
      by_cases hc : i < n
      · by_cases hQ : Q i
        · exact ⟨1, hstep i 0 hi hc (fun _ => hyes i hi hc hQ hq) (fun h => absurd hQ h)⟩
        · obtain ⟨m, hm⟩ := ih (i + 1) (by omega) (by omega) (fun j h1 h2 => by
            rcases Int.lt_or_eq_of_le (show j ≤ i by omega) with h | h
            · exact hq j h1 h
            · subst h; exact hQ)
          exact ⟨m + 1, hstep i m hi hc (fun h => absurd h hQ) (fun _ => hm)⟩
      · exact ⟨1, hend i (by omega) (hno (fun j h1 h2 => hq j h1 (by omega)))⟩
  exact key n.toNat 0 (by omega) (by omega) (fun j h1 h2 => by omega)

/-! Names. -/
theorem between_a (n lo hi : Int) : Ans (batten_between n lo hi) (lo ≤ n ∧ n ≤ hi) := by
  unfold batten_between
  exact ans_if (by simp) (ans_dec)
theorem between_r (n lo hi : Int) : Ans (ref21_between n lo hi) (lo ≤ n ∧ n ≤ hi) := between_a n lo hi
theorem between_g (n lo hi : Int) : Ans (ref19_between n lo hi) (lo ≤ n ∧ n ≤ hi) := between_a n lo hi
theorem within_p (n lo hi : Int) : Ans (profile_within n lo hi) (lo ≤ n ∧ n ≤ hi) := between_a n lo hi
theorem within_g (n : Int) : Ans (grid_within n) (0 ≤ n ∧ n ≤ 1048576) := between_a n 0 1048576
theorem within_r (n hi : Int) : Ans (ref34_within n hi) (1 ≤ n ∧ n ≤ hi) := between_a n 1 hi
theorem letter_a (c : Int) : ∃ b : Bool, ∀ K, K b → decimal_letter c K := by
  unfold decimal_letter
  split
  · split
    · exact ⟨_, fun K h => h⟩
    · split
      · exact ⟨_, fun K h => h⟩
      · exact ⟨_, fun K h => h⟩
  · split
    · exact ⟨_, fun K h => h⟩
    · exact ⟨_, fun K h => h⟩
theorem digit_a (c : Int) : ∃ b : Bool, ∀ K, K b → decimal_digit c K := by
  unfold decimal_digit
  split
  · exact ⟨_, fun K h => h⟩
  · exact ⟨_, fun K h => h⟩
theorem word_eqN (k : Int → Prop) (s : ByteArray) : ∀ (n : Nat) (i : Int), ref01_word_l2N k n s i = decimal_word_l2N k n s i := by
  intro n
  induction n with
  | zero => intro i; rfl
  | succ n ih =>
    intro i
    unfold ref01_word_l2N decimal_word_l2N
    simp only [ih]
    rfl
theorem word_eq (s : ByteArray) (K : Int → Prop) : ref01_word s 0 K = decimal_word s K := by
  show (∃ n, ref01_word_l2N _ n s 0) = ∃ n, decimal_word_l2N _ n s 0
  simp only [word_eqN]
theorem word_a (s : ByteArray) (hs : s.size ≤ maxLen) : ∃ r : Int, ∀ K, K r → decimal_word s K := by
  have key : ∀ (d : Nat) (i : Int), 0 ≤ i → (slen s - i).toNat ≤ d → ∃ r : Int, ∀ k0 : Int → Prop, k0 r → ∃ n, decimal_word_l2N k0 n s i := by
    intro d
    induction d with
    | zero =>
      intro i hi hd
      refine ⟨i, fun k0 h => ⟨1, ?_⟩⟩
      unfold decimal_word_l2N
      rw [if_neg (by simp only [decide_eq_true_eq]; omega)]
      exact h
    | succ d ih =>
      intro i hi hd
      by_cases hc : i < slen s
      · obtain ⟨r, hr⟩ := ih (i + 1) (by omega) (by omega)
        have hw : wI64 (i + 1) = i + 1 := wI_id (by omega) (by have : i < (s.size : Int) := hc; simp only [maxLen] at hs; omega)
        obtain ⟨b1, h1⟩ := letter_a (strByte s i)
        obtain ⟨b2, h2⟩ := digit_a (strByte s i)
        by_cases hb1 : b1 = true
        · refine ⟨r, fun k0 h => ?_⟩
          obtain ⟨n, hn⟩ := hr k0 h
          refine ⟨n + 1, ?_⟩
          unfold decimal_word_l2N
          rw [if_pos (by simpa using hc)]
          refine ⟨⟨hi, hc⟩, h1 _ ?_⟩
          rw [if_pos hb1, hw]
          exact hn
        · by_cases hb2 : b2 = true
          · refine ⟨r, fun k0 h => ?_⟩
            obtain ⟨n, hn⟩ := hr k0 h
            refine ⟨n + 1, ?_⟩
            unfold decimal_word_l2N
            rw [if_pos (by simpa using hc)]
            refine ⟨⟨hi, hc⟩, h1 _ ?_⟩
            rw [if_neg hb1]
            refine ⟨⟨hi, hc⟩, h2 _ ?_⟩
            rw [if_pos hb2, hw]
            exact hn
          · by_cases hb3 : (strByte s i == 95) = true
            · refine ⟨r, fun k0 h => ?_⟩
              obtain ⟨n, hn⟩ := hr k0 h
              refine ⟨n + 1, ?_⟩
              unfold decimal_word_l2N
              rw [if_pos (by simpa using hc)]
              refine ⟨⟨hi, hc⟩, h1 _ ?_⟩
              rw [if_neg hb1]
              refine ⟨⟨hi, hc⟩, h2 _ ?_⟩
              rw [if_neg hb2]
              refine ⟨⟨hi, hc⟩, ?_⟩
              rw [if_pos hb3, hw]
              exact hn
            · refine ⟨i, fun k0 h => ⟨1, ?_⟩⟩
              unfold decimal_word_l2N
              rw [if_pos (by simpa using hc)]
              refine ⟨⟨hi, hc⟩, h1 _ ?_⟩
              rw [if_neg hb1]
              refine ⟨⟨hi, hc⟩, h2 _ ?_⟩
              rw [if_neg hb2]
              refine ⟨⟨hi, hc⟩, ?_⟩
              rw [if_neg hb3]
              exact h
      · refine ⟨i, fun k0 h => ⟨1, ?_⟩⟩
        unfold decimal_word_l2N
        rw [if_neg (by simp only [decide_eq_true_eq]; omega)]
        exact h
  obtain ⟨r, hr⟩ := key (slen s).toNat 0 (by omega) (by omega)
  exact ⟨r, fun K h => hr _ h⟩
theorem sEq_iff {x y : ByteArray} : sEq x y = true ↔ x = y := by
  rw [beq_iff_eq, ByteArray.toList_eq, ByteArray.toList_eq]
  constructor
  · intro h; exact ByteArray.ext (Array.toList_inj.1 h)
  · intro h; rw [h]
theorem name_a (s : ByteArray) (hs : s.size ≤ maxLen) : ∃ b : Bool, (∀ K, K b → decimal_IsName s K) ∧ (∀ K, K b → ref01_IsName s K) := by
  have hsl : slen s = (s.size : Int) := rfl
  unfold decimal_IsName ref01_IsName
  by_cases h0 : s.size = 0
  · have e : sEq s sNil = true := by
      rw [sEq_iff]
      obtain ⟨⟨l⟩⟩ := s
      have : l = [] := List.eq_nil_of_length_eq_zero h0
      rw [this]
    refine ⟨false, fun K h => ?_, fun K h => ?_⟩
    · rw [if_neg (by rw [e]; simp)]; exact h
    · rw [if_pos (by simp [h0])]; exact h
  · have e : sEq s sNil = false := by
      cases hb : sEq s sNil with
      | false => rfl
      | true =>
        rw [sEq_iff] at hb
        subst hb
        exact absurd rfl h0
    by_cases h1 : s.size ≤ 20
    · obtain ⟨b1, hb1⟩ := letter_a (strByte s 0)
      obtain ⟨r, hr⟩ := word_a s hs
      have hb2 : ∀ K, K b1 → ref01_Letter (strByte s 0) K := fun K h => hb1 K h
      cases b1 with
      | false =>
        refine ⟨false, fun K h => ?_, fun K h => ?_⟩
        · rw [if_pos (by rw [e]; rfl), if_pos (by simp only [decide_eq_true_eq]; omega)]
          refine ⟨⟨by omega, by omega⟩, hb1 _ ?_⟩
          rw [if_neg (by simp)]; exact h
        · rw [if_neg (by simp [h0]), if_neg (by simp only [decide_eq_true_eq]; omega)]
          refine ⟨⟨by omega, by omega⟩, hb2 _ ?_⟩
          rw [if_pos (by simp)]; exact h
      | true =>
        refine ⟨r == slen s, fun K h => ?_, fun K h => ?_⟩
        · rw [if_pos (by rw [e]; rfl), if_pos (by simp only [decide_eq_true_eq]; omega)]
          refine ⟨⟨by omega, by omega⟩, hb1 _ ?_⟩
          rw [if_pos rfl]; exact hr _ h
        · rw [if_neg (by simp [h0]), if_neg (by simp only [decide_eq_true_eq]; omega)]
          refine ⟨⟨by omega, by omega⟩, hb2 _ ?_⟩
          rw [if_neg (by simp), word_eq]; exact hr _ h
    · refine ⟨false, fun K h => ?_, fun K h => ?_⟩
      · rw [if_pos (by rw [e]; rfl), if_neg (by simp only [decide_eq_true_eq]; omega)]; exact h
      · rw [if_neg (by simp [h0]), if_pos (by simp only [decide_eq_true_eq]; omega)]; exact h
/-- Is the string a name? -/
noncomputable def isN (s : ByteArray) : Bool := if h : s.size ≤ maxLen then Classical.choose (name_a s h) else false
theorem name_p {s : ByteArray} (hs : s.size ≤ maxLen) : Ans (decimal_IsName s) (isN s = true) := by
  refine ⟨isN s, Iff.rfl, ?_⟩
  unfold isN
  rw [dif_pos hs]
  exact (Classical.choose_spec (name_a s hs)).1
theorem name_r {s : ByteArray} (hs : s.size ≤ maxLen) : Ans (ref01_IsName s) (isN s = true) := by
  refine ⟨isN s, Iff.rfl, ?_⟩
  unfold isN
  rw [dif_pos hs]
  exact (Classical.choose_spec (name_a s hs)).2
theorem name_g {s : ByteArray} (hs : s.size ≤ maxLen) : Ans (grid_isName s) (isN s = true) := name_p hs
end Go.Proofs.YtieeiiibamkbmaaGreat.Am
namespace Go.Proofs.YtieeiiibamkbmaaGreat.Am
open Go
set_option linter.unusedVariables false
set_option linter.unusedSimpArgs false

theorem ans_of {f : (Bool → Prop) → Prop} {P : Prop} (h : ∀ K : Bool → Prop, (P → K true) → (¬ P → K false) → f K) : Ans f P := by
  by_cases hp : P
  · exact ⟨true, by simp [hp], fun K hK => h K (fun _ => hK) (fun hn => absurd hp hn)⟩
  · exact ⟨false, by simp [hp], fun K hK => h K (fun h => absurd h hp) (fun _ => hK)⟩
/-- F goes on with y if P, with n if not. -/
def YN (y n F P : Prop) : Prop := (P → y) → (¬ P → n) → F
section
variable {y n F G P Q : Prop} {f : (Bool → Prop) → Prop} {c : Bool}
theorem ans_yn (h : ∀ K : Bool → Prop, YN (K true) (K false) (f K) P) : Ans f P := ans_of h
theorem yn_use (h : YN y n F P) (e : P ↔ Q) (hy : Q → y) (hn : ¬ Q → n) : F := h (fun hp => hy (e.1 hp)) (fun hp => hn (fun hq => hp (e.2 hq)))
theorem yn_iff (h : YN y n F P) (e : P ↔ Q) : YN y n F Q := fun hy hn => yn_use h e hy hn
theorem yn_nand (hf : Ans f P) (hg : YN y n G Q) : YN y n (f (fun r => if (!r) = true then n else G)) (P ∧ Q) := fun hy hn =>
  ans_use hf (fun hp => by rw [if_neg (show ¬ (!true) = true by simp)]; exact hg (fun hq => hy ⟨hp, hq⟩) (fun hq => hn (fun h => hq h.2))) (fun hp => by rw [if_pos (show (!false) = true from rfl)]; exact hn (fun h => hp h.1))
theorem yn_and (hf : Ans f P) (hg : YN y n G Q) : YN y n (f (fun r => if r = true then G else n)) (P ∧ Q) := fun hy hn =>
  ans_use hf (fun hp => by rw [if_pos rfl]; exact hg (fun hq => hy ⟨hp, hq⟩) (fun hq => hn (fun h => hq h.2))) (fun hp => by rw [if_neg (by simp)]; exact hn (fun h => hp h.1))
theorem yn_if (hc : c = true ↔ P) (hg : YN y n G Q) : YN y n (if c = true then G else n) (P ∧ Q) := fun hy hn => by
  cases c with
  | true => rw [if_pos rfl]; exact hg (fun hq => hy ⟨hc.1 rfl, hq⟩) (fun hq => hn (fun h => hq h.2))
  | false => rw [if_neg (by simp)]; exact hn (fun h => by have := hc.2 h.1; cases this)
theorem yn_ifn (hc : c = false ↔ P) (hg : YN y n G Q) : YN y n (if c = true then n else G) (P ∧ Q) := fun hy hn => by
  cases c with
  | false => rw [if_neg (by simp)]; exact hg (fun hq => hy ⟨hc.1 rfl, hq⟩) (fun hq => hn (fun h => hq h.2))
  | true => rw [if_pos rfl]; exact hn (fun h => by have := hc.2 h.1; cases this)
theorem yn_pre {B : Prop} (hb : B) (hg : YN y n G Q) : YN y n (B ∧ G) Q := fun hy hn => ⟨hb, hg hy hn⟩
theorem yn_not (hf : Ans f P) : YN y n (f (fun r => if r = true then n else y)) (¬ P) := fun hy hn =>
  ans_use hf (fun hp => by rw [if_pos rfl]; exact hn (fun h => h hp)) (fun hp => by rw [if_neg (by simp)]; exact hy hp)
theorem yn_yes (hf : Ans f P) : YN y n (f (fun r => if (!r) = true then n else y)) P := fun hy hn =>
  ans_use hf (fun hp => by rw [if_neg (show ¬ (!true) = true by simp)]; exact hy hp) (fun hp => by rw [if_pos (show (!false) = true from rfl)]; exact hn hp)
theorem yn_nif (hc : c = false ↔ P) : YN y n (if c = true then n else y) P := fun hy hn => by
  cases c with
  | false => rw [if_neg (by simp)]; exact hy (hc.1 rfl)
  | true => rw [if_pos rfl]; exact hn (fun h => by have := hc.2 h; cases this)
theorem yn_end {K : Bool → Prop} (hf : Ans f P) : YN (K true) (K false) (f (fun r => K r)) P := fun hy hn => ans_use hf hy hn
end
theorem dn {P : Prop} [Decidable P] : decide P = false ↔ ¬ P := decide_eq_false_iff_not
theorem dt {P : Prop} [Decidable P] : decide P = true ↔ P := decide_eq_true_iff
theorem getD_take {α : Type} (l : List α) (k j : Nat) (d : α) (h : j < k) : (l.take k).getD j d = l.getD j d := by
  simp [List.getD_eq_getElem?_getD, List.getElem?_take, h]
theorem wI_succ {i n : Int} (h0 : 0 ≤ i) (h : i < n) (hn : n ≤ 9223372036854775807) : wI64 (i + 1) = i + 1 := wI_id (by omega) (by omega)
theorem len_le {α : Type} {l : List α} (h : l.length ≤ maxLen) : len l ≤ 9223372036854775807 := by show (l.length : Int) ≤ _; simp only [maxLen] at h; omega
theorem mem_getD {α : Type} {l : List α} {j : Int} {d : α} (h0 : 0 ≤ j) (h1 : j < len l) : l.getD j.toNat d ∈ l := by
  have h2 : j < (l.length : Int) := h1
  have : j.toNat < l.length := by omega
  rw [List.getD_eq_getElem?_getD, List.getElem?_eq_getElem this]
  exact List.getElem_mem this

/-! Roofs. -/
theorem cont_roof (l : List Roof) (b : Roof) (hl : l.length ≤ maxLen) : Ans (slices_ContainsFunc_grid_Valid_1 l b) (∃ j, 0 ≤ j ∧ j < len l ∧ (atRoof l j).1 = b.1) := by
  refine ans_of (fun K hy hn => ?_)
  unfold slices_ContainsFunc_grid_Valid_1 slices_IndexFunc_grid_Valid_1 slices_IndexFunc_grid_Valid_1_l2
  refine find_loop (L := fun m i => slices_IndexFunc_grid_Valid_1_l2N _ _ m l (len l) i b) (Q := fun j => (atRoof l j).1 = b.1) (k := fun r => K (decide (r ≥ 0))) ?_ ?_ ?_ ?_ (n := len l)
  · intro i hi hk
    unfold slices_IndexFunc_grid_Valid_1_l2N
    rw [if_neg (by simp only [decide_eq_true_eq]; omega)]
    exact hk
  · intro i m h0 h1 hq hnq
    unfold slices_IndexFunc_grid_Valid_1_l2N grid_Valid_1
    dsimp only
    rw [if_pos (by simpa using h1)]
    refine ⟨⟨h0, h1⟩, ?_⟩
    rw [wI_succ h0 h1 (len_le hl)]
    by_cases hc : (atRoof l i).1 = b.1
    · rw [if_pos (by rw [sEq_iff]; exact hc)]; exact hq hc
    · rw [if_neg (by rw [sEq_iff]; exact hc)]; exact hnq hc
  · intro h
    exact hn (fun ⟨j, h1, h2, h3⟩ => h j h1 h2 h3)
  · intro i h0 h1 h2 h3
    show K (decide (i ≥ 0))
    rw [show decide (i ≥ 0) = true by simpa using h0]
    exact hy ⟨i, h0, h1, h2⟩
/-- What a roof must be. -/
def RoofOk (l : List Roof) (j : Int) : Prop := isN (atRoof l j).1 = true ∧ (0 ≤ (atRoof l j).2.1 ∧ (atRoof l j).2.1 ≤ (atRoof l j).2.2.1 ∧ (atRoof l j).2.2.1 ≤ 1048576) ∧ (0 ≤ (atRoof l j).2.2.2 ∧ (atRoof l j).2.2.2 ≤ 67108864) ∧ ∀ k, 0 ≤ k → k < j → (atRoof l k).1 ≠ (atRoof l j).1
theorem grid_p (l : List Roof) (hl : l.length ≤ maxLen) (hs : ∀ x ∈ l, x.1.size ≤ maxLen) : Ans (grid_Valid l) (len l ≤ 20 ∧ ∀ j, 0 ≤ j → j < len l → RoofOk l j) := by
  refine ans_of (fun K hy hn => ?_)
  unfold grid_Valid
  by_cases h20 : len l > 20
  · rw [if_pos (by simpa using h20)]; exact hn (fun h => by omega)
  · rw [if_neg (by simpa using h20)]
    unfold grid_Valid_l2
    refine all_loop (L := fun m i => grid_Valid_l2N (K true) (fun rt_2 => K rt_2) m l l (len l) i) (n := len l) (Q := RoofOk l) (k0 := K true) (no := K false) ?_ ?_ (fun h => hy ⟨by omega, h⟩) (fun h => hn (fun hh => h hh.2))
    · intro i hi _ hk
      unfold grid_Valid_l2N
      rw [if_neg (by simp only [decide_eq_true_eq]; omega)]
      exact hk
    · intro i m h0 h1 _ hq hnq
      unfold grid_Valid_l2N
      rw [if_pos (by simpa using h1)]
      refine ⟨⟨h0, h1⟩, ?_⟩
      have hmem : atRoof l i ∈ l := mem_getD h0 h1
      have e1 := wI_succ h0 h1 (len_le hl)
      refine yn_use (yn_nand (name_g (hs _ hmem)) (yn_nand (within_g (atRoof l i).2.1) (yn_nand (within_g (atRoof l i).2.2.1) (yn_ifn dn (yn_ifn dn (yn_ifn dn (yn_pre ⟨h0, by omega⟩ (yn_not (cont_roof (List.take (Int.toNat i) l) (atRoof l i) (by rw [List.length_take]; omega))))))))))
        (Q := RoofOk l i) ?_ (by rw [e1]; exact hq) hnq
      unfold RoofOk
      have ec : (¬ ∃ j, 0 ≤ j ∧ j < len (List.take (Int.toNat i) l) ∧ (atRoof (List.take (Int.toNat i) l) j).1 = (atRoof l i).1) ↔ ∀ k, 0 ≤ k → k < i → (atRoof l k).1 ≠ (atRoof l i).1 := by
        have h1' : i < (l.length : Int) := h1
        have el : len (List.take (Int.toNat i) l) = i := by simp only [len, List.length_take]; omega
        rw [el]
        constructor
        · intro h k hk0 hk1 he
          refine h ⟨k, hk0, hk1, ?_⟩
          unfold atRoof at *
          rw [getD_take _ _ _ _ (by omega)]
          exact he
        · rintro h ⟨k, hk0, hk1, he⟩
          refine h k hk0 hk1 ?_
          unfold atRoof at *
          rw [getD_take _ _ _ _ (by omega)] at he
          exact he
      rw [ec]
      generalize (∀ k, 0 ≤ k → k < i → (atRoof l k).1 ≠ (atRoof l i).1) = P
      constructor
      · rintro ⟨h1, h2, h3, h4, h5, h6, h7⟩; exact ⟨h1, by omega, by omega, h7⟩
      · rintro ⟨h1, h2, h3, h7⟩; exact ⟨h1, by omega, by omega, by omega, by omega, by omega, h7⟩
theorem grid_r (l : List Roof) (hl : l.length ≤ maxLen) (hs : ∀ x ∈ l, x.1.size ≤ maxLen) : Ans (ref19_Valid l) (len l ≤ 20 ∧ ∀ j, 0 ≤ j → j < len l → RoofOk l j) := by
  refine ans_of (fun K hy hn => ?_)
  unfold ref19_Valid
  by_cases h20 : len l > 20
  · rw [if_pos (by simpa using h20)]; exact hn (fun h => by omega)
  · rw [if_neg (by simpa using h20)]
    unfold ref19_Valid_l2
    refine all_loop (L := fun m i => ref19_Valid_l2N (K true) (fun rt_2 => K rt_2) m l i) (n := len l) (Q := RoofOk l) (k0 := K true) (no := K false) ?_ ?_ (fun h => hy ⟨by omega, h⟩) (fun h => hn (fun hh => h hh.2))
    · intro i hi _ hk
      unfold ref19_Valid_l2N
      rw [if_neg (by simp only [decide_eq_true_eq]; omega)]
      exact hk
    · intro i m h0 h1 _ hq hnq
      unfold ref19_Valid_l2N
      rw [if_pos (by simpa using h1)]
      refine ⟨⟨h0, h1⟩, ?_⟩
      have hmem : atRoof l i ∈ l := mem_getD h0 h1
      have e1 := wI_succ h0 h1 (len_le hl)
      have inner : ∀ (k0 : List Roof → Int → Prop) (kr : Bool → Prop), YN (k0 l i) (kr false) (ref19_Valid_l4 l i 0 (atRoof l i) k0 kr) (∀ k, 0 ≤ k → k < i → (atRoof l k).1 ≠ (atRoof l i).1) := by
        intro k0 kr hy' hn'
        unfold ref19_Valid_l4
        refine all_loop (L := fun m j => ref19_Valid_l4N k0 kr m l i j (atRoof l i)) (n := i) (Q := fun k => (atRoof l k).1 ≠ (atRoof l i).1) (k0 := k0 l i) (no := kr false) ?_ ?_ hy' hn'
        · intro j hj _ hk
          unfold ref19_Valid_l4N
          rw [if_neg (by simp only [decide_eq_true_eq]; omega)]
          exact hk
        · intro j m g0 g1 _ hq hnq
          unfold ref19_Valid_l4N
          rw [if_pos (by simpa using g1)]
          refine ⟨⟨g0, by omega⟩, ?_⟩
          rw [wI_succ g0 g1 (by have := len_le hl; omega)]
          by_cases hc : (atRoof l j).1 = (atRoof l i).1
          · rw [if_pos (by rw [sEq_iff]; exact hc)]; exact hnq (fun h => h hc)
          · rw [if_neg (by rw [sEq_iff]; exact hc)]; exact hq hc
      refine yn_use (yn_nand (name_r (hs _ hmem)) (yn_nand (between_g (atRoof l i).2.1 0 (atRoof l i).2.2.1) (yn_nand (between_g (atRoof l i).2.2.1 0 1048576) (yn_nand (between_g (atRoof l i).2.2.2 0 67108864) (inner _ _)))))
        (Q := RoofOk l i) ?_ (by rw [e1]; exact hq) hnq
      unfold RoofOk
      generalize (∀ k, 0 ≤ k → k < i → (atRoof l k).1 ≠ (atRoof l i).1) = P
      constructor
      · rintro ⟨h1, h2, h3, h4, h7⟩; exact ⟨h1, by omega, by omega, h7⟩
      · rintro ⟨h1, h2, h3, h7⟩; exact ⟨h1, by omega, by omega, by omega, h7⟩
end Go.Proofs.YtieeiiibamkbmaaGreat.Am
namespace Go.Proofs.YtieeiiibamkbmaaGreat.Am
open Go
set_option linter.unusedVariables false
set_option linter.unusedSimpArgs false

/-! Names, each once. -/
abbrev litS (s : ByteArray) : Lit := Lit.string s.data.toList
theorem same_lit (x y : ByteArray) : (litS x).sameKey (litS y) = true ↔ x = y := by
  constructor
  · intro h
    have : x.data.toList = y.data.toList := by simpa [Lit.sameKey] using h
    exact ByteArray.ext (Array.toList_inj.1 this)
  · rintro rfl
    simp [Lit.sameKey]
theorem nd_fold : ∀ (l M : List ByteArray), ((l.map litS).foldl Maps.addKey (M.map litS)).length ≤ M.length + l.length ∧
    (((l.map litS).foldl Maps.addKey (M.map litS)).length = M.length + l.length ↔ (l.Nodup ∧ ∀ x ∈ l, x ∉ M)) := by
  intro l
  induction l with
  | nil => intro M; simp
  | cons s l ih =>
    intro M
    have hany : ((M.map litS).any (fun y => y.sameKey (litS s))) = true ↔ s ∈ M := by
      rw [List.any_map, List.any_eq_true]
      constructor
      · rintro ⟨x, hx, h⟩
        rw [(same_lit x s).1 h] at hx; exact hx
      · intro h; exact ⟨s, h, (same_lit s s).2 rfl⟩
    rw [List.map_cons, List.foldl_cons]
    by_cases hs : s ∈ M
    · have e : Maps.addKey (M.map litS) (litS s) = M.map litS := by
        unfold Maps.addKey
        rw [if_pos (hany.2 hs)]
      rw [e]
      obtain ⟨h1, h2⟩ := ih M
      refine ⟨by simp only [List.length_cons]; omega, ?_⟩
      constructor
      · intro h; simp only [List.length_cons] at h; omega
      · rintro ⟨-, h⟩; exact absurd hs (h s (List.mem_cons_self ..))
    · have e : Maps.addKey (M.map litS) (litS s) = (M ++ [s]).map litS := by
        unfold Maps.addKey
        rw [if_neg (fun h => hs (hany.1 h))]
        simp
      rw [e]
      obtain ⟨h1, h2⟩ := ih (M ++ [s])
      rw [List.length_append, List.length_singleton] at h1 h2
      refine ⟨by simp only [List.length_cons]; omega, ?_⟩
      rw [List.length_cons, show M.length + (l.length + 1) = M.length + 1 + l.length by omega, h2, List.nodup_cons]
      constructor
      · rintro ⟨g1, g2⟩
        refine ⟨⟨fun h => g2 s h (by simp), g1⟩, fun x hx => ?_⟩
        rcases List.mem_cons.1 hx with rfl | hx
        · exact hs
        · exact fun h => g2 x hx (by simp [h])
      · rintro ⟨⟨g1, g2⟩, g3⟩
        refine ⟨g2, fun x hx h => ?_⟩
        rcases List.mem_append.1 h with h | h
        · exact g3 x (List.mem_cons_of_mem _ hx) h
        · rw [List.mem_singleton] at h; subst h; exact g1 hx
theorem twice_nodup (l : List ByteArray) : twiceB l = false ↔ l.Nodup := by
  obtain ⟨h1, h2⟩ := nd_fold l []
  unfold twiceB nd
  rw [decide_eq_false_iff_not]
  simp only [List.map_nil, List.length_nil, Nat.zero_add, List.not_mem_nil, not_false_eq_true, implies_true, and_true] at h1 h2
  rw [← h2]
  show ¬ ((((l.map litS).foldl Maps.addKey []).length : Int) < (l.length : Int)) ↔ _
  omega
theorem nodup_at {α : Type} (l : List α) (f : α → ByteArray) (d : α) : (l.map f).Nodup ↔ ∀ j, 0 ≤ j → j < len l → ∀ k, 0 ≤ k → k < j → f (l.getD k.toNat d) ≠ f (l.getD j.toNat d) := by
  unfold List.Nodup
  rw [List.pairwise_iff_getElem]
  constructor
  · intro h j j0 j1 k k0 k1
    have hj : j < (l.length : Int) := j1
    have a1 : j.toNat < l.length := by omega
    have a2 : k.toNat < l.length := by omega
    have := h k.toNat j.toNat (by simpa using a2) (by simpa using a1) (by omega)
    rw [List.getD_eq_getElem?_getD, List.getD_eq_getElem?_getD, List.getElem?_eq_getElem a1, List.getElem?_eq_getElem a2]
    simpa using this
  · intro h i j hi hj hij
    have a1 : j < l.length := by simpa using hj
    have a2 : i < l.length := by simpa using hi
    have := h (j : Int) (by omega) (by show (j : Int) < (l.length : Int); omega) (i : Int) (by omega) (by omega)
    rw [List.getD_eq_getElem?_getD, List.getD_eq_getElem?_getD, Int.toNat_natCast, Int.toNat_natCast, List.getElem?_eq_getElem a1, List.getElem?_eq_getElem a2] at this
    simpa using this

section
variable {y n F G P Q : Prop} {f : (Bool → Prop) → Prop} {c : Bool}
theorem yn_nandD (hf : Ans f P) (hg : P → YN y n G Q) : YN y n (f (fun r => if (!r) = true then n else G)) (P ∧ Q) := fun hy hn =>
  ans_use hf (fun hp => by rw [if_neg (show ¬ (!true) = true by simp)]; exact hg hp (fun hq => hy ⟨hp, hq⟩) (fun hq => hn (fun h => hq h.2))) (fun hp => by rw [if_pos (show (!false) = true from rfl)]; exact hn (fun h => hp h.1))
end

/-! Lines. -/
theorem mono_at {a : Int → Int} {N : Int} (h : ∀ j, 0 ≤ j → j < N - 1 → a j < a (j + 1)) : ∀ (d : Nat) (i : Int), 0 ≤ i → i + d < N → a i ≤ a (i + d) := by
  intro d
  induction d with
  | zero => intro i h0 h1; simp
  | succ d ih =>
    intro i h0 h1
    have h2 := ih i h0 (by omega)
    have h3 := h (i + d) (by omega) (by omega)
    rw [show i + ((d + 1 : Nat) : Int) = i + d + 1 by omega]
    omega
/-- What the lines must be. -/
def LinesOk (l : List Int) (length : Int) : Prop := (2 ≤ len l ∧ len l ≤ 10) ∧ ∀ j, 0 ≤ j → j < len l → (0 ≤ atI l j ∧ atI l j ≤ length) ∧ (0 < j → atI l (j - 1) < atI l j)
theorem lines_p (l : List Int) (length : Int) (hl : l.length ≤ maxLen) : Ans (batten_lines l length) (LinesOk l length) := by
  refine ans_yn (fun K => ?_)
  unfold batten_lines
  have hle := len_le hl
  have tail : 2 ≤ len l ∧ len l ≤ 10 → YN (K true) (K false) (batten_lines_l3 l 1 (K true) (fun rt_4 => K rt_4)) (∀ j, 0 ≤ j → j < len l - 1 → atI l j < atI l (j + 1)) := by
    intro hb hy hn
    unfold batten_lines_l3
    have := all_loop (L := fun m j => batten_lines_l3N (K true) (fun rt_4 => K rt_4) m l (j + 1)) (n := len l - 1) (Q := fun j => atI l j < atI l (j + 1)) (k0 := K true) (no := K false) ?_ ?_ hy hn
    · simpa using this
    · intro i hi _ hk
      unfold batten_lines_l3N
      rw [if_neg (by simp only [decide_eq_true_eq]; omega)]
      exact hk
    · intro i m h0 h1 _ hq hnq
      unfold batten_lines_l3N
      rw [if_pos (by simp only [decide_eq_true_eq]; omega), wI_id (x := i + 1 - 1) (by omega) (by omega), wI_id (x := i + 1 + 1) (by omega) (by omega)]
      refine ⟨⟨by omega, by omega⟩, ⟨by omega, by omega⟩, ?_⟩
      rw [show i + 1 - 1 = i by omega]
      by_cases hc : atI l i < atI l (i + 1)
      · rw [if_neg (by simp only [decide_eq_true_eq]; omega)]; exact hq hc
      · rw [if_pos (by simp only [decide_eq_true_eq]; omega)]; exact hnq hc
  refine yn_iff (yn_nandD (between_a _ _ _) (fun hb => yn_pre ⟨by omega, by omega⟩ (yn_ifn dn (yn_pre (by rw [wI_id (by omega) (by omega)]; omega) (yn_ifn dn (tail hb)))))) ?_
  unfold LinesOk
  constructor
  · rintro ⟨h1, h2, h3, h4⟩
    rw [wI_id (by omega) (by omega)] at h3
    refine ⟨h1, fun j j0 j1 => ⟨⟨?_, ?_⟩, fun hj => ?_⟩⟩
    · have := mono_at (a := atI l) h4 j.toNat 0 (by omega) (by omega)
      rw [show (0 : Int) + (j.toNat : Int) = j by omega] at this
      omega
    · have := mono_at (a := atI l) h4 (len l - 1 - j).toNat j j0 (by omega)
      rw [show j + ((len l - 1 - j).toNat : Int) = len l - 1 by omega] at this
      omega
    · have := h4 (j - 1) (by omega) (by omega)
      rwa [show j - 1 + 1 = j by omega] at this
  · rintro ⟨h1, h2⟩
    rw [wI_id (by omega) (by omega)]
    refine ⟨h1, ?_, ?_, fun j j0 j1 => ?_⟩
    · have := (h2 0 (by omega) (by omega)).1.1; omega
    · have := (h2 (len l - 1) (by omega) (by omega)).1.2; omega
    · have := (h2 (j + 1) (by omega) (by omega)).2 (by omega)
      rwa [show j + 1 - 1 = j by omega] at this

/-! Items. -/
def ItemAlone (x : Item) (length : Int) : Prop := isN x.1 = true ∧ (0 ≤ x.2.1 ∧ x.2.1 ≤ wI64 (length - x.2.2.1)) ∧ (1 ≤ x.2.2.1 ∧ x.2.2.1 ≤ 1048576) ∧ (0 ≤ x.2.2.2.1 ∧ x.2.2.2.1 ≤ 1048576) ∧ (0 ≤ x.2.2.2.2.1 ∧ x.2.2.2.2.1 ≤ 1048576) ∧ (0 ≤ x.2.2.2.2.2.1 ∧ x.2.2.2.2.2.1 ≤ 1048576) ∧ (0 ≤ x.2.2.2.2.2.2 ∧ x.2.2.2.2.2.2 ≤ 1048576)
def ItemApart (x y : Item) : Prop := wI64 (x.2.1 + x.2.2.1) ≤ y.2.1 ∨ wI64 (y.2.1 + y.2.2.1) ≤ x.2.1
theorem apart_p (x y : Item) : Ans (batten_apart x y) (ItemApart x y) := ans_or dt ans_dec
theorem apart_r (x y : Item) : Ans (ref21_Apart x y) (ItemApart x y) := ans_or dt ans_dec
theorem apart_sym {x y : Item} : ItemApart x y ↔ ItemApart y x := ⟨fun h => h.symm, fun h => h.symm⟩
theorem alone_p (x : Item) (hs : x.1.size ≤ maxLen) : Ans (batten_alone x) (isN x.1 = true ∧ (0 ≤ x.2.2.2.1 ∧ x.2.2.2.1 ≤ 1048576) ∧ (0 ≤ x.2.2.2.2.1 ∧ x.2.2.2.2.1 ≤ 1048576) ∧ (0 ≤ x.2.2.2.2.2.1 ∧ x.2.2.2.2.2.1 ≤ 1048576) ∧ (0 ≤ x.2.2.2.2.2.2 ∧ x.2.2.2.2.2.2 ≤ 1048576)) :=
  ans_and (name_p hs) (ans_and (between_a _ _ _) (ans_and (between_a _ _ _) (ans_and (between_a _ _ _) (between_a _ _ _))))
theorem inside_p (x : Item) (length : Int) : Ans (batten_inside x length) (x.2.1 ≥ 0 ∧ (1 ≤ x.2.2.1 ∧ x.2.2.1 ≤ 1048576) ∧ x.2.1 ≤ wI64 (length - x.2.2.1)) :=
  ans_if dt (ans_and (between_a _ _ _) ans_dec)
theorem alone_r (x : Item) (length : Int) (hs : x.1.size ≤ maxLen) : Ans (ref21_alone x length) (ItemAlone x length) := by
  refine ans_iff (ans_and (name_r hs) (ans_and (between_r _ _ _) (ans_and (between_r _ _ _) (ans_and (between_r _ _ _) (ans_and (between_r _ _ _) (ans_and (between_r _ _ _) (between_r _ _ _))))))) ?_
  unfold ItemAlone
  constructor
  · rintro ⟨h1, h2, h3, h4⟩; exact ⟨h1, h3, h2, h4⟩
  · rintro ⟨h1, h2, h3, h4⟩; exact ⟨h1, h3, h2, h4⟩
theorem cont_item (l : List Item) (b : Item) (hl : l.length ≤ maxLen) : Ans (slices_ContainsFunc_batten_items_2 l b) (∃ j, 0 ≤ j ∧ j < len l ∧ ¬ ItemApart b (atItem l j)) := by
  refine ans_of (fun K hy hn => ?_)
  unfold slices_ContainsFunc_batten_items_2 slices_IndexFunc_batten_items_2 slices_IndexFunc_batten_items_2_l2
  refine find_loop (L := fun m i => slices_IndexFunc_batten_items_2_l2N _ _ m l (len l) i b) (Q := fun j => ¬ ItemApart b (atItem l j)) (k := fun r => K (decide (r ≥ 0))) ?_ ?_ ?_ ?_ (n := len l)
  · intro i hi hk
    unfold slices_IndexFunc_batten_items_2_l2N
    rw [if_neg (by simp only [decide_eq_true_eq]; omega)]
    exact hk
  · intro i m h0 h1 hq hnq
    unfold slices_IndexFunc_batten_items_2_l2N
    rw [if_pos (by simpa using h1)]
    refine ⟨⟨h0, h1⟩, ?_⟩
    rw [wI_succ h0 h1 (len_le hl)]
    exact ans_use (f := batten_items_2 (atItem l i) b) (ans_not (apart_p b (atItem l i))) (fun h => by rw [if_pos rfl]; exact hq h) (fun h => by rw [if_neg (by simp)]; exact hnq h)
  · intro h
    exact hn (fun ⟨j, h1, h2, h3⟩ => h j h1 h2 h3)
  · intro i h0 h1 h2 h3
    show K (decide (i ≥ 0))
    rw [show decide (i ≥ 0) = true by simpa using h0]
    exact hy ⟨i, h0, h1, h2⟩
/-- What the items must be. -/
def ItemsOk (l : List Item) (length : Int) : Prop := len l ≤ 40 ∧ ∀ j, 0 ≤ j → j < len l → ItemAlone (atItem l j) length ∧ ∀ k, 0 ≤ k → k < j → (atItem l k).1 ≠ (atItem l j).1 ∧ ItemApart (atItem l k) (atItem l j)
theorem items_p (l : List Item) (length : Int) (hl : l.length ≤ maxLen) (hs : ∀ x ∈ l, x.1.size ≤ maxLen) : Ans (batten_items l length) (ItemsOk l length) := by
  refine ans_yn (fun K => ?_)
  unfold batten_items
  have hle := len_le hl
  have loop : YN (K true) (K false) (batten_items_l3 l length l (len l) 0 (K true) (fun rt_4 => K rt_4)) (∀ j, 0 ≤ j → j < len l → ItemAlone (atItem l j) length ∧ ∀ k, 0 ≤ k → k < j → ItemApart (atItem l k) (atItem l j)) := by
    intro hy hn
    unfold batten_items_l3
    refine all_loop (L := fun m i => batten_items_l3N (K true) (fun rt_4 => K rt_4) m l length l (len l) i) (n := len l) (k0 := K true) (no := K false) ?_ ?_ hy hn
    · intro i hi _ hk
      unfold batten_items_l3N
      rw [if_neg (by simp only [decide_eq_true_eq]; omega)]
      exact hk
    · intro i m h0 h1 _ hq hnq
      unfold batten_items_l3N
      rw [if_pos (by simpa using h1)]
      refine ⟨⟨h0, h1⟩, ?_⟩
      have hmem : atItem l i ∈ l := mem_getD h0 h1
      refine yn_use (yn_nand (alone_p _ (hs _ hmem)) (yn_nand (inside_p _ _) (yn_pre ⟨h0, by omega⟩ (yn_not (cont_item (List.take (Int.toNat i) l) (atItem l i) (by rw [List.length_take]; omega)))))) ?_ (by rw [wI_succ h0 h1 hle]; exact hq) hnq
      have ec : (¬ ∃ j, 0 ≤ j ∧ j < len (List.take (Int.toNat i) l) ∧ ¬ ItemApart (atItem l i) (atItem (List.take (Int.toNat i) l) j)) ↔ ∀ k, 0 ≤ k → k < i → ItemApart (atItem l k) (atItem l i) := by
        have h1' : i < (l.length : Int) := h1
        have el : len (List.take (Int.toNat i) l) = i := by simp only [len, List.length_take]; omega
        rw [el]
        constructor
        · intro h k hk0 hk1
          refine Classical.byContradiction (fun he => h ⟨k, hk0, hk1, fun hc => he (apart_sym.1 ?_)⟩)
          unfold atItem at *
          rw [getD_take _ _ _ _ (by omega)] at hc
          exact hc
        · rintro h ⟨k, hk0, hk1, he⟩
          refine he ?_
          have := h k hk0 hk1
          unfold atItem at *
          rw [getD_take _ _ _ _ (by omega)]
          exact apart_sym.1 this
      rw [ec]
      generalize (∀ k, 0 ≤ k → k < i → ItemApart (atItem l k) (atItem l i)) = P
      unfold ItemAlone
      constructor
      · rintro ⟨⟨a1, a2⟩, ⟨b1, b2, b3⟩, h3⟩; exact ⟨⟨a1, ⟨b1, b3⟩, b2, a2⟩, h3⟩
      · rintro ⟨⟨a1, ⟨b1, b3⟩, b2, a2⟩, h3⟩; exact ⟨⟨a1, a2⟩, ⟨b1, b2, b3⟩, h3⟩
  have tail : YN (K true) (K false) (twice_Item l (fun r4 => (batten_items_j2 l length r4 (fun rt_4 => (K rt_4))))) ((l.map (fun x => x.1)).Nodup ∧ ∀ j, 0 ≤ j → j < len l → ItemAlone (atItem l j) length ∧ ∀ k, 0 ≤ k → k < j → ItemApart (atItem l k) (atItem l j)) := by
    unfold twice_Item
    refine yn_pre hs ?_
    exact yn_ifn (twice_nodup _) loop
  refine yn_iff (yn_ifn dn tail) ?_
  unfold ItemsOk
  rw [nodup_at l (fun x => x.1) (Ty.zero tItem)]
  constructor
  · rintro ⟨h1, h2, h3⟩
    exact ⟨by omega, fun j j0 j1 => ⟨(h3 j j0 j1).1, fun k k0 k1 => ⟨h2 j j0 j1 k k0 k1, (h3 j j0 j1).2 k k0 k1⟩⟩⟩
  · rintro ⟨h1, h2⟩
    exact ⟨by omega, fun j j0 j1 k k0 k1 => ((h2 j j0 j1).2 k k0 k1).1, fun j j0 j1 => ⟨(h2 j j0 j1).1, fun k k0 k1 => ((h2 j j0 j1).2 k k0 k1).2⟩⟩
theorem items_r (s : Set_) (hl : s.2.2.2.2.2.2.2.2.2.2.2.1.length ≤ maxLen) (hs : ∀ x ∈ s.2.2.2.2.2.2.2.2.2.2.2.1, x.1.size ≤ maxLen) : Ans (ref21_items s) (ItemsOk s.2.2.2.2.2.2.2.2.2.2.2.1 s.2.2.2.2.1) := by
  refine ans_yn (fun K => ?_)
  unfold ref21_items
  have hle := len_le hl
  have loop : YN (K true) (K false) (ref21_items_l2 0 s (K true) (fun rt_2 => K rt_2)) (∀ j, 0 ≤ j → j < len s.2.2.2.2.2.2.2.2.2.2.2.1 → ItemAlone (atItem s.2.2.2.2.2.2.2.2.2.2.2.1 j) s.2.2.2.2.1 ∧ ∀ k, 0 ≤ k → k < j → (atItem s.2.2.2.2.2.2.2.2.2.2.2.1 k).1 ≠ (atItem s.2.2.2.2.2.2.2.2.2.2.2.1 j).1 ∧ ItemApart (atItem s.2.2.2.2.2.2.2.2.2.2.2.1 k) (atItem s.2.2.2.2.2.2.2.2.2.2.2.1 j)) := by
    intro hy hn
    unfold ref21_items_l2
    refine all_loop (L := fun m i => ref21_items_l2N (K true) (fun rt_2 => K rt_2) m i s) (n := len s.2.2.2.2.2.2.2.2.2.2.2.1) (k0 := K true) (no := K false) ?_ ?_ hy hn
    · intro i hi _ hk
      unfold ref21_items_l2N
      rw [if_neg (by simp only [decide_eq_true_eq]; omega)]
      exact hk
    · intro i m h0 h1 _ hq hnq
      unfold ref21_items_l2N
      rw [if_pos (by simpa using h1)]
      refine ⟨⟨h0, h1⟩, ?_⟩
      have hmem : atItem s.2.2.2.2.2.2.2.2.2.2.2.1 i ∈ s.2.2.2.2.2.2.2.2.2.2.2.1 := mem_getD h0 h1
      have inner : ∀ (k0 : Int → Set_ → Prop) (kr : Bool → Prop), YN (k0 i s) (kr false) (ref21_items_l3 i 0 s k0 kr) (∀ k, 0 ≤ k → k < i → (atItem s.2.2.2.2.2.2.2.2.2.2.2.1 k).1 ≠ (atItem s.2.2.2.2.2.2.2.2.2.2.2.1 i).1 ∧ ItemApart (atItem s.2.2.2.2.2.2.2.2.2.2.2.1 k) (atItem s.2.2.2.2.2.2.2.2.2.2.2.1 i)) := by
        intro k0 kr hy' hn'
        unfold ref21_items_l3
        refine all_loop (L := fun m j => ref21_items_l3N k0 kr m i j s) (n := i) (k0 := k0 i s) (no := kr false) ?_ ?_ hy' hn'
        · intro j hj _ hk
          unfold ref21_items_l3N
          rw [if_neg (by simp only [decide_eq_true_eq]; omega)]
          exact hk
        · intro j m g0 g1 _ hq hnq
          unfold ref21_items_l3N
          rw [if_pos (by simpa using g1)]
          refine ⟨⟨g0, by omega⟩, ⟨h0, h1⟩, ?_⟩
          rw [wI_succ g0 g1 (by omega)]
          by_cases hc : (atItem s.2.2.2.2.2.2.2.2.2.2.2.1 j).1 = (atItem s.2.2.2.2.2.2.2.2.2.2.2.1 i).1
          · rw [if_pos (by rw [sEq_iff]; exact hc)]; exact hnq (fun h => h.1 hc)
          · rw [if_neg (by rw [sEq_iff]; exact hc)]
            refine ⟨⟨g0, by omega⟩, ⟨h0, h1⟩, ?_⟩
            exact yn_use (yn_yes (apart_r _ _)) (Q := ItemApart (atItem s.2.2.2.2.2.2.2.2.2.2.2.1 j) (atItem s.2.2.2.2.2.2.2.2.2.2.2.1 i)) Iff.rfl (fun h => hq ⟨hc, h⟩) (fun h => hnq (fun hh => h hh.2))
      exact yn_use (yn_nand (alone_r _ _ (hs _ hmem)) (inner _ _)) Iff.rfl (by rw [wI_succ h0 h1 hle]; exact hq) hnq
  refine yn_iff (yn_ifn dn loop) ?_
  unfold ItemsOk
  constructor
  · rintro ⟨h1, h2⟩; exact ⟨by omega, h2⟩
  · rintro ⟨h1, h2⟩; exact ⟨by omega, h2⟩
end Go.Proofs.YtieeiiibamkbmaaGreat.Am
namespace Go.Proofs.YtieeiiibamkbmaaGreat.Am
open Go
set_option linter.unusedVariables false
set_option linter.unusedSimpArgs false

section
variable {y n F G P Q S : Prop} {f : (Bool → Prop) → Prop} {c : Bool}
theorem yn_seq (hF : YN G n F P) (hG : YN y n G Q) : YN y n F (P ∧ Q) := fun hy hn =>
  hF (fun hp => hG (fun hq => hy ⟨hp, hq⟩) (fun hq => hn (fun h => hq h.2))) (fun hp => hn (fun h => hp h.1))
theorem yn_fin [Decidable S] {K : Bool → Prop} (hF : YN (K (decide S)) (K false) F P) : YN (K true) (K false) F (P ∧ S) := fun hy hn => by
  refine hF (fun hp => ?_) (fun hp => hn (fun h => hp h.1))
  by_cases hs : S
  · rw [decide_eq_true hs]; exact hy ⟨hp, hs⟩
  · rw [decide_eq_false hs]; exact hn (fun h => hs h.2)
end
theorem all_loopE {L : Nat → Int → Prop} {n : Int} {Q : Int → Prop} {k0 no : Prop} (hn : 0 ≤ n)
    (hend : (∀ j, 0 ≤ j → j < n → Q j) → k0 → L 1 n)
    (hstep : ∀ i m, 0 ≤ i → i < n → (∀ j, 0 ≤ j → j < i → Q j) → (Q i → L m (i + 1)) → (¬ Q i → no) → L (m + 1) i)
    (hk : (∀ j, 0 ≤ j → j < n → Q j) → k0) (hno : ¬ (∀ j, 0 ≤ j → j < n → Q j) → no) : ∃ m, L m 0 := by
  have key : ∀ (d : Nat) (i : Int), 0 ≤ i → i + d = n → (∀ j, 0 ≤ j → j < i → Q j) → ∃ m, L m i := by
    intro d
    induction d with
    | zero =>
      intro i hi hd hq
      have : i = n := by omega
      subst this
      exact ⟨1, hend hq (hk hq)⟩
    | succ d ih =>
      intro i hi hd hq
      by_cases hQ : Q i
      · obtain ⟨m, hm⟩ := ih (i + 1) (by omega) (by omega) (fun j h1 h2 => by
          rcases Int.lt_or_eq_of_le (show j ≤ i by omega) with h | h
          · exact hq j h1 h
          · subst h; exact hQ)
        exact ⟨m + 1, hstep i m hi (by omega) hq (fun _ => hm) (fun h => absurd hQ h)⟩
      · exact ⟨1, hstep i 0 hi (by omega) hq (fun h => absurd h hQ) (fun _ => hno (fun h => hQ (h i hi (by omega))))⟩
  exact key n.toNat 0 (by omega) (by omega) (fun j h1 h2 => by omega)

/-! Bricks. -/
def bsum (l : List Brick) : Nat → Int
  | 0 => 0
  | n + 1 => bsum l n + (atBrick l (n : Int)).2.2
def BrickOk (x : Brick) : Prop := isN x.1 = true ∧ (1 ≤ x.2.1 ∧ x.2.1 ≤ 1048576) ∧ (0 ≤ x.2.2 ∧ x.2.2 ≤ 60)
theorem bsum_le {l : List Brick} : ∀ n : Nat, (∀ j, 0 ≤ j → j < (n : Int) → BrickOk (atBrick l j)) → 0 ≤ bsum l n ∧ bsum l n ≤ 60 * n := by
  intro n
  induction n with
  | zero => intro h; exact ⟨Int.le_refl _, Int.le_refl _⟩
  | succ n ih =>
    intro h
    have h1 := ih (fun j h0 h1 => h j h0 (by omega))
    have h2 := (h n (by omega) (by omega)).2.2
    unfold bsum
    omega
theorem bsum_succ (l : List Brick) {i : Int} (h : 0 ≤ i) : bsum l (i + 1).toNat = bsum l i.toNat + (atBrick l i).2.2 := by
  rw [show (i + 1).toNat = i.toNat + 1 by omega]
  show bsum l i.toNat + (atBrick l ((i.toNat : Nat) : Int)).2.2 = _
  rw [show ((i.toNat : Nat) : Int) = i by omega]
def BricksOk (l : List Brick) : Prop := len l ≤ 8 ∧ (∀ j, 0 ≤ j → j < len l → BrickOk (atBrick l j) ∧ ∀ k, 0 ≤ k → k < j → (atBrick l k).1 ≠ (atBrick l j).1) ∧ bsum l l.length ≤ 60
theorem bsum_next {l : List Brick} {i : Int} (h0 : 0 ≤ i) (h8 : i < 8) (hq : ∀ j, 0 ≤ j → j < i → BrickOk (atBrick l j)) (h : BrickOk (atBrick l i)) : wI64 (bsum l i.toNat + (atBrick l i).2.2) = bsum l (i + 1).toNat := by
  have h1 := bsum_le (l := l) i.toNat (fun j j0 j1 => hq j j0 (by omega))
  have h2 := h.2.2
  rw [bsum_succ l h0, wI_id (by omega) (by omega)]
theorem bricks_p (l : List Brick) (hl : l.length ≤ maxLen) (hs : ∀ x ∈ l, x.1.size ≤ maxLen) : Ans (batten_bricks l) (BricksOk l) := by
  refine ans_yn (fun K => ?_)
  unfold batten_bricks
  have hle := len_le hl
  have loop : len l ≤ 8 → YN (K (decide (bsum l l.length ≤ 60))) (K false) (batten_bricks_l3 0 l (len l) 0 (fun sum_3 => K (decide (sum_3 ≤ 60))) (fun rt_2 => K rt_2)) (∀ j, 0 ≤ j → j < len l → BrickOk (atBrick l j)) := by
    intro h8 hy hn
    unfold batten_bricks_l3
    refine all_loopE (L := fun m i => batten_bricks_l3N (fun sum_3 => K (decide (sum_3 ≤ 60))) (fun rt_2 => K rt_2) m (bsum l i.toNat) l (len l) i) (n := len l) (k0 := K (decide (bsum l l.length ≤ 60))) (no := K false) (by show (0 : Int) ≤ (l.length : Int); omega) ?_ ?_ hy hn
    · intro _ hk
      unfold batten_bricks_l3N
      rw [if_neg (by simp only [decide_eq_true_eq]; omega)]
      exact hk
    · intro i m h0 h1 hall hq hnq
      unfold batten_bricks_l3N
      rw [if_pos (by simpa using h1)]
      refine ⟨⟨h0, h1⟩, ?_⟩
      have hmem : atBrick l i ∈ l := mem_getD h0 h1
      exact yn_use (yn_nand (name_p (hs _ hmem)) (yn_nand (between_a _ _ _) (yn_yes (between_a _ _ _)))) (Q := BrickOk (atBrick l i)) Iff.rfl (fun h => by rw [wI_succ h0 h1 hle, bsum_next h0 (by omega) hall h]; exact hq h) hnq
  have tail : len l ≤ 8 → YN (K true) (K false) (twice_Brick l (fun r4 => (batten_bricks_j2 l r4 (fun rt_2 => (K rt_2))))) ((l.map (fun x => x.1)).Nodup ∧ (∀ j, 0 ≤ j → j < len l → BrickOk (atBrick l j)) ∧ bsum l l.length ≤ 60) := by
    intro h8
    unfold twice_Brick
    refine yn_pre hs ?_
    exact yn_ifn (twice_nodup _) (yn_fin (loop h8))
  intro hy hn
  by_cases h8 : len l > 8
  · rw [if_pos (by simpa using h8)]
    exact hn (fun h => by have := h.1; omega)
  · rw [if_neg (by simpa using h8)]
    refine yn_use (tail (by omega)) (Q := BricksOk l) ?_ hy hn
    unfold BricksOk
    rw [nodup_at l (fun x => x.1) (Ty.zero tBrick)]
    constructor
    · rintro ⟨h2, h3, h4⟩
      exact ⟨by omega, fun j j0 j1 => ⟨h3 j j0 j1, fun k k0 k1 => h2 j j0 j1 k k0 k1⟩, h4⟩
    · rintro ⟨h1, h2, h4⟩
      exact ⟨fun j j0 j1 k k0 k1 => (h2 j j0 j1).2 k k0 k1, fun j j0 j1 => (h2 j j0 j1).1, h4⟩
theorem bricks_r (l : List Brick) (hl : l.length ≤ maxLen) (hs : ∀ x ∈ l, x.1.size ≤ maxLen) : Ans (ref21_Bricks l) (BricksOk l) := by
  refine ans_yn (fun K => ?_)
  unfold ref21_Bricks
  have hle := len_le hl
  have loop : len l ≤ 8 → YN (K (decide (bsum l l.length ≤ 60))) (K false) (ref21_Bricks_l2 l 0 0 (fun sum_3 => K (decide (sum_3 ≤ 60))) (fun rt_2 => K rt_2)) (∀ j, 0 ≤ j → j < len l → BrickOk (atBrick l j) ∧ ∀ k, 0 ≤ k → k < j → (atBrick l k).1 ≠ (atBrick l j).1) := by
    intro h8 hy hn
    unfold ref21_Bricks_l2
    refine all_loopE (L := fun m i => ref21_Bricks_l2N (fun sum_3 => K (decide (sum_3 ≤ 60))) (fun rt_2 => K rt_2) m l (bsum l i.toNat) i) (n := len l) (k0 := K (decide (bsum l l.length ≤ 60))) (no := K false) (by show (0 : Int) ≤ (l.length : Int); omega) ?_ ?_ hy hn
    · intro _ hk
      unfold ref21_Bricks_l2N
      rw [if_neg (by simp only [decide_eq_true_eq]; omega)]
      exact hk
    · intro i m h0 h1 hall hq hnq
      unfold ref21_Bricks_l2N
      rw [if_pos (by simpa using h1)]
      refine ⟨⟨h0, h1⟩, ?_⟩
      have hmem : atBrick l i ∈ l := mem_getD h0 h1
      have inner : ∀ (s : Int) (k0 : List Brick → Int → Int → Prop) (kr : Bool → Prop), YN (k0 l s i) (kr false) (ref21_Bricks_l4 l s i 0 k0 kr) (∀ k, 0 ≤ k → k < i → (atBrick l k).1 ≠ (atBrick l i).1) := by
        intro s k0 kr hy' hn'
        unfold ref21_Bricks_l4
        refine all_loop (L := fun m j => ref21_Bricks_l4N k0 kr m l s i j) (n := i) (Q := fun k => (atBrick l k).1 ≠ (atBrick l i).1) (k0 := k0 l s i) (no := kr false) ?_ ?_ hy' hn'
        · intro j hj _ hk
          unfold ref21_Bricks_l4N
          rw [if_neg (by simp only [decide_eq_true_eq]; omega)]
          exact hk
        · intro j m g0 g1 _ hq hnq
          unfold ref21_Bricks_l4N
          rw [if_pos (by simpa using g1)]
          refine ⟨⟨g0, by omega⟩, ⟨h0, h1⟩, ?_⟩
          rw [wI_succ g0 g1 (by omega)]
          by_cases hc : (atBrick l j).1 = (atBrick l i).1
          · rw [if_pos (by rw [sEq_iff]; exact hc)]; exact hnq (fun h => h hc)
          · rw [if_neg (by rw [sEq_iff]; exact hc)]; exact hq hc
      refine yn_use (yn_nand (name_r (hs _ hmem)) (yn_pre ⟨h0, h1⟩ (yn_nand (between_r _ _ _) (yn_pre ⟨h0, h1⟩ (yn_nand (between_r _ _ _) (yn_pre ⟨h0, h1⟩ (inner _ _ _))))))) (Q := BrickOk (atBrick l i) ∧ ∀ k, 0 ≤ k → k < i → (atBrick l k).1 ≠ (atBrick l i).1) ?_
        (fun h => by rw [wI_succ h0 h1 hle, bsum_next h0 (by omega) (fun j j0 j1 => (hall j j0 j1).1) h.1]; exact hq h) hnq
      constructor
      · rintro ⟨a1, a2, a3, a4⟩; exact ⟨⟨a1, a2, a3⟩, a4⟩
      · rintro ⟨⟨a1, a2, a3⟩, a4⟩; exact ⟨a1, a2, a3, a4⟩
  intro hy hn
  by_cases h8 : len l > 8
  · rw [if_pos (by simpa using h8)]
    exact hn (fun h => by have := h.1; omega)
  · rw [if_neg (by simpa using h8)]
    refine yn_use (yn_fin (loop (by omega))) (Q := BricksOk l) ?_ hy hn
    unfold BricksOk
    exact ⟨fun h => ⟨by omega, h⟩, fun h => h.2⟩

/-! Sets. -/
structure WfS (s : Set_) : Prop where
  name : s.1.size ≤ maxLen
  lines : s.2.2.2.2.2.1.length ≤ maxLen
  items : s.2.2.2.2.2.2.2.2.2.2.2.1.length ≤ maxLen
  inames : ∀ x ∈ s.2.2.2.2.2.2.2.2.2.2.2.1, x.1.size ≤ maxLen
  bricks : s.2.2.2.2.2.2.2.2.2.2.2.2.length ≤ maxLen
  bnames : ∀ x ∈ s.2.2.2.2.2.2.2.2.2.2.2.2, x.1.size ≤ maxLen
def SetOk (s : Set_) : Prop := isN s.1 = true ∧ (0 ≤ s.2.1 ∧ s.2.1 ≤ 1048576) ∧ (0 ≤ s.2.2.1 ∧ s.2.2.1 ≤ s.2.2.2.1 ∧ s.2.2.2.1 ≤ 1048576) ∧ (1000 ≤ s.2.2.2.2.1 ∧ s.2.2.2.2.1 ≤ 1048576) ∧ Int.tmod s.2.2.2.2.1 1000 = 0 ∧
  LinesOk s.2.2.2.2.2.1 s.2.2.2.2.1 ∧ (0 ≤ s.2.2.2.2.2.2.1 ∧ s.2.2.2.2.2.2.1 ≤ 1048576) ∧ (0 ≤ s.2.2.2.2.2.2.2.1 ∧ s.2.2.2.2.2.2.2.1 ≤ 1048576) ∧ (1 ≤ s.2.2.2.2.2.2.2.2.1 ∧ s.2.2.2.2.2.2.2.2.1 ≤ 2) ∧
  (1 ≤ s.2.2.2.2.2.2.2.2.2.1 ∧ s.2.2.2.2.2.2.2.2.2.1 ≤ 67108864) ∧ (0 ≤ s.2.2.2.2.2.2.2.2.2.2.1 ∧ s.2.2.2.2.2.2.2.2.2.2.1 ≤ 67108864) ∧ ItemsOk s.2.2.2.2.2.2.2.2.2.2.2.1 s.2.2.2.2.1 ∧ BricksOk s.2.2.2.2.2.2.2.2.2.2.2.2
theorem set_p (s : Set_) (w : WfS s) : Ans (batten_Valid s) (SetOk s) := by
  refine ans_iff (ans_and (name_p w.name) (ans_and (between_a _ _ _) (ans_if dt (ans_if dt (ans_if dt (ans_and (between_a _ _ _) (ans_if (P := Int.tmod s.2.2.2.2.1 1000 = 0) (by simp) (ans_and (lines_p _ _ w.lines) (ans_and (between_a _ _ _) (ans_and (between_a _ _ _) (ans_and (between_a _ _ _) (ans_and (between_a _ _ _)
    (ans_and (between_a _ _ _) (ans_and (items_p _ _ w.items w.inames) (bricks_p _ w.bricks w.bnames))))))))))))))) ?_
  unfold SetOk
  constructor
  · rintro ⟨h1, h2, h3, h4, h5, h6, h7, h8⟩; exact ⟨h1, h2, ⟨h3, h4, h5⟩, h6, h7, h8⟩
  · rintro ⟨h1, h2, ⟨h3, h4, h5⟩, h6, h7, h8⟩; exact ⟨h1, h2, h3, h4, h5, h6, h7, h8⟩
theorem set_r (s : Set_) (w : WfS s) : Ans (ref21_Valid s) (SetOk s) := by
  refine ans_yn (fun K => ?_)
  unfold ref21_Valid
  have hle := len_le w.lines
  have loop : ∀ (k0 : Set_ → Prop) (kr : Bool → Prop), YN (k0 s) (kr false) (ref21_Valid_l4 0 s k0 kr) (∀ j, 0 ≤ j → j < len s.2.2.2.2.2.1 → (0 ≤ atI s.2.2.2.2.2.1 j ∧ atI s.2.2.2.2.2.1 j ≤ s.2.2.2.2.1) ∧ (0 < j → atI s.2.2.2.2.2.1 (j - 1) < atI s.2.2.2.2.2.1 j)) := by
    intro k0 kr hy hn
    unfold ref21_Valid_l4
    refine all_loop (L := fun m j => ref21_Valid_l4N k0 kr m j s) (n := len s.2.2.2.2.2.1) (k0 := k0 s) (no := kr false) ?_ ?_ hy hn
    · intro j hj _ hk
      unfold ref21_Valid_l4N
      rw [if_neg (by simp only [decide_eq_true_eq]; omega)]
      exact hk
    · intro i m h0 h1 _ hq hnq
      unfold ref21_Valid_l4N
      rw [if_pos (by simpa using h1)]
      refine ⟨⟨h0, h1⟩, ?_⟩
      rw [wI_succ h0 h1 hle, wI_id (x := i - 1) (by omega) (by omega)]
      have last : YN (ref21_Valid_l4N k0 kr m (i + 1) s) (kr false) (if (decide (i > 0)) = true then ((0 ≤ i ∧ i < len s.2.2.2.2.2.1) ∧ ((0 ≤ i - 1 ∧ i - 1 < len s.2.2.2.2.2.1) ∧ (if (decide ((atI s.2.2.2.2.2.1 i) ≤ (atI s.2.2.2.2.2.1 (i - 1)))) = true then (kr false) else (ref21_Valid_l4N k0 kr m (i + 1) s)))) else (ref21_Valid_l4N k0 kr m (i + 1) s)) (0 < i → atI s.2.2.2.2.2.1 (i - 1) < atI s.2.2.2.2.2.1 i) := by
        intro hy' hn'
        by_cases hi : i > 0
        · rw [if_pos (by simpa using hi)]
          refine ⟨⟨h0, h1⟩, ⟨by omega, by omega⟩, ?_⟩
          by_cases hc : atI s.2.2.2.2.2.1 (i - 1) < atI s.2.2.2.2.2.1 i
          · rw [if_neg (by simp only [decide_eq_true_eq]; omega)]; exact hy' (fun _ => hc)
          · rw [if_pos (by simp only [decide_eq_true_eq]; omega)]; exact hn' (fun h => hc (h (by omega)))
        · rw [if_neg (by simpa using hi)]
          exact hy' (fun h => by omega)
      exact yn_use (yn_nand (between_r _ _ _) last) Iff.rfl hq hnq
  refine yn_iff (yn_nand (name_r w.name) (yn_nand (between_r _ _ _) (yn_nand (between_r _ _ _) (yn_nand (between_r _ _ _) (yn_nand (between_r _ _ _) (yn_ifn (c := (Int.tmod s.2.2.2.2.1 1000) != 0) (P := Int.tmod s.2.2.2.2.1 1000 = 0) (by simp) (yn_nand (between_r _ _ _) (yn_nand (between_r _ _ _) (yn_nand (between_r _ _ _) (yn_nand (between_r _ _ _) (yn_nand (between_r _ _ _) (yn_nand (between_r _ _ _)
    (yn_seq (loop (fun s_1 => (ref21_items s_1 (fun r4 => (if r4 = true then (ref21_Bricks s_1.2.2.2.2.2.2.2.2.2.2.2.2 (fun r5 => (K r5))) else (K false))))) (fun rt => K rt)) (yn_and (items_r s w.items w.inames) (yn_end (K := K) (bricks_r _ w.bricks w.bnames)))))))))))))))) ?_
  unfold SetOk LinesOk
  constructor
  · rintro ⟨h1, h2, h3, h4, h5, h6, h7, h8, h9, h10, h11, h12, h13, h14, h15⟩; exact ⟨h1, h2, ⟨h3.1, h3.2, h4.2⟩, h5, h6, ⟨h7, h13⟩, h8, h9, h10, h11, h12, h14, h15⟩
  · rintro ⟨h1, h2, ⟨h3, h3', h4⟩, h5, h6, ⟨h7, h13⟩, h8, h9, h10, h11, h12, h14, h15⟩; exact ⟨h1, h2, ⟨h3, h3'⟩, ⟨by omega, h4⟩, h5, h6, h7, h8, h9, h10, h11, h12, h13, h14, h15⟩
end Go.Proofs.YtieeiiibamkbmaaGreat.Am
namespace Go.Proofs.YtieeiiibamkbmaaGreat.Am
open Go
set_option linter.unusedVariables false
set_option linter.unusedSimpArgs false

/-! The first set of a name. -/
def First (n : Int) (Q : Int → Prop) (r : Int) : Prop := (r = -1 ∧ ∀ j, 0 ≤ j → j < n → ¬ Q j) ∨ (0 ≤ r ∧ r < n ∧ Q r ∧ ∀ j, 0 ≤ j → j < r → ¬ Q j)
theorem first_ex (n : Int) (Q : Int → Prop) : ∃ r, First n Q r := by
  obtain ⟨m, h⟩ := find_loop (L := fun m i => ∃ r, First n Q r) (n := n) (Q := Q) (k := First n Q) (fun i _ h => ⟨_, h⟩) (fun i m h0 h1 h2 h3 => by
    by_cases hq : Q i
    · exact ⟨i, h2 hq⟩
    · exact h3 hq) (fun h => .inl ⟨rfl, h⟩) (fun i h0 h1 h2 h3 => .inr ⟨h0, h1, h2, h3⟩)
  exact h
theorem first_no {n : Int} {Q : Int → Prop} {r : Int} (h : First n Q r) {K : Int → Prop} (hk : K r) (hn : ∀ j, 0 ≤ j → j < n → ¬ Q j) : K (-1) := by
  rcases h with ⟨rfl, _⟩ | ⟨h0, h1, h2, _⟩
  · exact hk
  · exact absurd h2 (hn r h0 h1)
theorem first_yes {n : Int} {Q : Int → Prop} {r : Int} (h : First n Q r) {K : Int → Prop} (hk : K r) (i : Int) (h0 : 0 ≤ i) (h1 : i < n) (h2 : Q i) (h3 : ∀ j, 0 ≤ j → j < i → ¬ Q j) : K i := by
  rcases h with ⟨rfl, h⟩ | ⟨g0, g1, g2, g3⟩
  · exact absurd h2 (h i h0 h1)
  · rcases Int.lt_trichotomy r i with h | h | h
    · exact absurd g2 (h3 r g0 h)
    · subst h; exact hk
    · exact absurd h2 (g3 i h0 h)
noncomputable def findS (l : List Set_) (name : ByteArray) : Int := Classical.choose (first_ex (len l) (fun j => (atSet_ l j).1 = name))
theorem findS_spec (l : List Set_) (name : ByteArray) : First (len l) (fun j => (atSet_ l j).1 = name) (findS l name) := Classical.choose_spec (first_ex (len l) (fun j => (atSet_ l j).1 = name))
theorem find_p (h : House) (name : ByteArray) (hl : h.2.2.1.length ≤ maxLen) {K : Int → Prop} (hk : K (findS h.2.2.1 name)) : house_find h name K := by
  unfold house_find slices_IndexFunc_house_find_1 slices_IndexFunc_house_find_1_l2
  refine find_loop (L := fun m i => slices_IndexFunc_house_find_1_l2N _ _ m h.2.2.1 (len h.2.2.1) i name) (Q := fun j => (atSet_ h.2.2.1 j).1 = name) (k := K) ?_ ?_ (first_no (findS_spec _ _) hk) (first_yes (findS_spec _ _) hk) (n := len h.2.2.1)
  · intro i hi hk
    unfold slices_IndexFunc_house_find_1_l2N
    rw [if_neg (by simp only [decide_eq_true_eq]; omega)]
    exact hk
  · intro i m h0 h1 hq hnq
    unfold slices_IndexFunc_house_find_1_l2N house_find_1
    dsimp only
    rw [if_pos (by simpa using h1)]
    refine ⟨⟨h0, h1⟩, ?_⟩
    rw [wI_succ h0 h1 (len_le hl)]
    by_cases hc : (atSet_ h.2.2.1 i).1 = name
    · rw [if_pos (by rw [sEq_iff]; exact hc)]; exact hq hc
    · rw [if_neg (by rw [sEq_iff]; exact hc)]; exact hnq hc
theorem find_m (l : List Set_) (m : Move) (hl : l.length ≤ maxLen) {K : Int → Prop} (hk : K (findS l m.1)) : slices_IndexFunc_move_set_1 l m K := by
  unfold slices_IndexFunc_move_set_1 slices_IndexFunc_move_set_1_l2
  refine find_loop (L := fun n i => slices_IndexFunc_move_set_1_l2N _ _ n l (len l) i m) (Q := fun j => (atSet_ l j).1 = m.1) (k := K) ?_ ?_ (first_no (findS_spec _ _) hk) (first_yes (findS_spec _ _) hk) (n := len l)
  · intro i hi hk
    unfold slices_IndexFunc_move_set_1_l2N
    rw [if_neg (by simp only [decide_eq_true_eq]; omega)]
    exact hk
  · intro i n h0 h1 hq hnq
    unfold slices_IndexFunc_move_set_1_l2N move_set_1
    dsimp only
    rw [if_pos (by simpa using h1)]
    refine ⟨⟨h0, h1⟩, ?_⟩
    rw [wI_succ h0 h1 (len_le hl)]
    by_cases hc : (atSet_ l i).1 = m.1
    · rw [if_pos (by rw [sEq_iff]; exact hc)]; exact hq hc
    · rw [if_neg (by rw [sEq_iff]; exact hc)]; exact hnq hc
theorem find_r (h : House) (name : ByteArray) (hl : h.2.2.1.length ≤ maxLen) {K : Int → Prop} (hk : K (findS h.2.2.1 name)) : ref30_FindSet h name K := by
  unfold ref30_FindSet ref30_FindSet_l2
  refine find_loop (L := fun m i => ref30_FindSet_l2N _ _ m name i h) (Q := fun j => (atSet_ h.2.2.1 j).1 = name) (k := K) ?_ ?_ (first_no (findS_spec _ _) hk) (first_yes (findS_spec _ _) hk) (n := len h.2.2.1)
  · intro i hi hk
    unfold ref30_FindSet_l2N
    rw [if_neg (by simp only [decide_eq_true_eq]; omega)]
    exact hk
  · intro i m h0 h1 hq hnq
    unfold ref30_FindSet_l2N
    rw [if_pos (by simpa using h1)]
    refine ⟨⟨h0, h1⟩, ?_⟩
    rw [wI_succ h0 h1 (len_le hl)]
    by_cases hc : (atSet_ h.2.2.1 i).1 = name
    · rw [if_pos (by rw [sEq_iff]; exact hc)]; exact hq hc
    · rw [if_neg (by rw [sEq_iff]; exact hc)]; exact hnq hc

/-! Houses. -/
structure WfH (h : House) : Prop where
  name : h.1.size ≤ maxLen
  sets : h.2.2.1.length ≤ maxLen
  each : ∀ s ∈ h.2.2.1, WfS s
  roofs : h.2.2.2.length ≤ maxLen
  rnames : ∀ x ∈ h.2.2.2, x.1.size ≤ maxLen
def HouseOk (h : House) : Prop := isN h.1 = true ∧ (1 ≤ h.2.1 ∧ h.2.1 ≤ 1048576) ∧ len h.2.2.1 ≤ 60 ∧ (len h.2.2.2 ≤ 20 ∧ ∀ j, 0 ≤ j → j < len h.2.2.2 → RoofOk h.2.2.2 j) ∧
  ∀ i, 0 ≤ i → i < len h.2.2.1 → SetOk (atSet_ h.2.2.1 i) ∧ (atSet_ h.2.2.1 i).2.2.2.1 ≤ h.2.1 ∧ findS h.2.2.1 (atSet_ h.2.2.1 i).1 = i
section
variable {y n : Prop}
theorem yn_fnd {f : (Int → Prop) → Prop} {r t : Int} (hf : ∀ K : Int → Prop, K r → f K) : YN y n (f (fun r3 => if (r3 != t) = true then n else y)) (r = t) := fun hy hn => by
  refine hf _ ?_
  by_cases h : r = t
  · rw [if_neg (by simp [h])]; exact hy h
  · rw [if_pos (by simp [h])]; exact hn h
end
theorem house_p (h : House) (w : WfH h) : Ans (house_Valid h) (HouseOk h) := by
  refine ans_yn (fun K => ?_)
  unfold house_Valid
  have hle := len_le w.sets
  have loop : YN (K true) (K false) (house_Valid_l3 h.2.2.1 (len h.2.2.1) 0 h (K true) (fun rt_2 => K rt_2)) (∀ i, 0 ≤ i → i < len h.2.2.1 → SetOk (atSet_ h.2.2.1 i) ∧ (atSet_ h.2.2.1 i).2.2.2.1 ≤ h.2.1 ∧ findS h.2.2.1 (atSet_ h.2.2.1 i).1 = i) := by
    intro hy hn
    unfold house_Valid_l3
    refine all_loop (L := fun m i => house_Valid_l3N (K true) (fun rt_2 => K rt_2) m h.2.2.1 (len h.2.2.1) i h) (n := len h.2.2.1) (k0 := K true) (no := K false) ?_ ?_ hy hn
    · intro i hi _ hk
      unfold house_Valid_l3N
      rw [if_neg (by simp only [decide_eq_true_eq]; omega)]
      exact hk
    · intro i m h0 h1 _ hq hnq
      unfold house_Valid_l3N
      rw [if_pos (by simpa using h1)]
      refine ⟨⟨h0, h1⟩, ?_⟩
      have hmem : atSet_ h.2.2.1 i ∈ h.2.2.1 := mem_getD h0 h1
      refine yn_use (yn_nand (set_p _ (w.each _ hmem)) (yn_ifn dn (yn_fnd (fun K hk => find_p h _ w.sets hk)))) ?_ (by rw [wI_succ h0 h1 hle]; exact hq) hnq
      constructor
      · rintro ⟨a1, a2, a3⟩; exact ⟨a1, by omega, a3⟩
      · rintro ⟨a1, a2, a3⟩; exact ⟨a1, by omega, a3⟩
  refine yn_iff (yn_nand (name_p w.name) (yn_ifn dn (yn_ifn dn (yn_ifn dn (yn_nand (grid_p _ w.roofs w.rnames) loop))))) ?_
  unfold HouseOk
  constructor
  · rintro ⟨a1, a2, a3, a4, a5, a6⟩; exact ⟨a1, by omega, by omega, a5, a6⟩
  · rintro ⟨a1, a2, a4, a5, a6⟩; exact ⟨a1, by omega, by omega, by omega, a5, a6⟩
theorem house_r (h : House) (w : WfH h) : Ans (ref30_Valid h) (HouseOk h) := by
  refine ans_yn (fun K => ?_)
  unfold ref30_Valid
  have hle := len_le w.sets
  have loop : YN (K true) (K false) (ref30_Valid_l3 0 h (K true) (fun rt_2 => K rt_2)) (∀ i, 0 ≤ i → i < len h.2.2.1 → SetOk (atSet_ h.2.2.1 i) ∧ (atSet_ h.2.2.1 i).2.2.2.1 ≤ h.2.1 ∧ findS h.2.2.1 (atSet_ h.2.2.1 i).1 = i) := by
    intro hy hn
    unfold ref30_Valid_l3
    refine all_loop (L := fun m i => ref30_Valid_l3N (K true) (fun rt_2 => K rt_2) m i h) (n := len h.2.2.1) (k0 := K true) (no := K false) ?_ ?_ hy hn
    · intro i hi _ hk
      unfold ref30_Valid_l3N
      rw [if_neg (by simp only [decide_eq_true_eq]; omega)]
      exact hk
    · intro i m h0 h1 _ hq hnq
      unfold ref30_Valid_l3N
      rw [if_pos (by simpa using h1)]
      refine ⟨⟨h0, h1⟩, ?_⟩
      have hmem : atSet_ h.2.2.1 i ∈ h.2.2.1 := mem_getD h0 h1
      refine yn_use (yn_nand (set_r _ (w.each _ hmem)) (yn_pre ⟨h0, h1⟩ (yn_ifn dn (yn_pre ⟨h0, h1⟩ (yn_fnd (fun K hk => find_r h _ w.sets hk)))))) ?_ (by rw [wI_succ h0 h1 hle]; exact hq) hnq
      constructor
      · rintro ⟨a1, a2, a3⟩; exact ⟨a1, by omega, a3⟩
      · rintro ⟨a1, a2, a3⟩; exact ⟨a1, by omega, a3⟩
  refine yn_iff (yn_nand (name_r w.name) (yn_ifn dn (yn_ifn dn (yn_ifn dn (yn_nand (grid_r _ w.roofs w.rnames) loop))))) ?_
  unfold HouseOk
  constructor
  · rintro ⟨a1, a2, a3, a4, a5, a6⟩; exact ⟨a1, by omega, by omega, a5, a6⟩
  · rintro ⟨a1, a2, a4, a5, a6⟩; exact ⟨a1, by omega, by omega, by omega, a5, a6⟩

/-! Moves. -/
def MoveOk (m : Move) : Prop := isN m.1 = true ∧ (-1048576 ≤ m.2.1 ∧ m.2.1 ≤ 1048576) ∧ (1 ≤ m.2.2.1 ∧ m.2.2.1 ≤ 8192) ∧ (1 ≤ m.2.2.2.1 ∧ m.2.2.2.1 ≤ 16384) ∧ (1 ≤ m.2.2.2.2 ∧ m.2.2.2.2 ≤ 16384)
theorem move_p (m : Move) (hs : m.1.size ≤ maxLen) : Ans (profile_Valid m) (MoveOk m) := ans_and (name_p hs) (ans_and (within_p _ _ _) (ans_and (within_p _ _ _) (ans_and (within_p _ _ _) (within_p _ _ _))))
theorem move_r (m : Move) (hs : m.1.size ≤ maxLen) : Ans (ref34_Valid m) (MoveOk m) := by
  refine ans_yn (fun K => ?_)
  unfold ref34_Valid
  refine yn_iff (yn_nand (name_r hs) (yn_ifn dn (yn_ifn dn (yn_and (within_r _ _) (yn_and (within_r _ _) (yn_end (K := K) (within_r _ _))))))) ?_
  unfold MoveOk
  constructor
  · rintro ⟨a1, a2, a3, a4⟩; exact ⟨a1, by omega, a4⟩
  · rintro ⟨a1, a2, a4⟩; exact ⟨a1, by omega, by omega, a4⟩

/-! What a move is given. -/
abbrev zS : Set_ := (sNil, 0, 0, 0, 0, [], 0, 0, 0, 0, 0, [], [])
open Classical in
/-- The error of a house and a move: none, or the argument's, or the name's. -/
noncomputable def setE (h : House) (m : Move) : Int := if HouseOk h ∧ MoveOk m then (if findS h.2.2.1 m.1 < 0 then 9 else 0) else 1
theorem setE_bad {h : House} {m : Move} (hb : ¬ (HouseOk h ∧ MoveOk m)) : setE h m = 1 := by unfold setE; rw [if_neg hb]
theorem setE_no {h : House} {m : Move} (hb : HouseOk h ∧ MoveOk m) (hf : findS h.2.2.1 m.1 < 0) : setE h m = 9 := by unfold setE; rw [if_pos hb, if_pos hf]
theorem setE_yes {h : House} {m : Move} (hb : HouseOk h ∧ MoveOk m) (hf : ¬ findS h.2.2.1 m.1 < 0) : setE h m = 0 := by unfold setE; rw [if_pos hb, if_neg hf]
theorem findS_in (l : List Set_) (nm : ByteArray) (h : ¬ findS l nm < 0) : 0 ≤ findS l nm ∧ findS l nm < len l := by
  rcases findS_spec l nm with ⟨h1, _⟩ | ⟨h1, h2, _⟩
  · omega
  · exact ⟨h1, h2⟩
theorem set_ok (h : House) (m : Move) (w : WfH h) (hm : m.1.size ≤ maxLen) {K : Set_ × Int → Prop} (h0 : setE h m = 0 → HouseOk h → MoveOk m → 0 ≤ findS h.2.2.1 m.1 → findS h.2.2.1 m.1 < len h.2.2.1 → K (atSet_ h.2.2.1 (findS h.2.2.1 m.1), 0))
    (h1 : setE h m ≠ 0 → K (zS, setE h m)) : move_set h m K := by
  unfold move_set
  refine ans_use (house_p h w) (fun hh => ?_) (fun hh => ?_)
  · rw [if_neg (by simp)]
    refine ans_use (move_p m hm) (fun hv => ?_) (fun hv => ?_)
    · unfold move_set_j2
      rw [if_neg (by simp)]
      refine find_m _ m w.sets ?_
      by_cases hf : findS h.2.2.1 m.1 < 0
      · rw [if_pos (by simpa using hf)]
        have := setE_no ⟨hh, hv⟩ hf
        rw [this] at h1
        exact h1 (by omega)
      · rw [if_neg (by simpa using hf)]
        obtain ⟨f1, f2⟩ := findS_in _ _ hf
        exact ⟨⟨f1, f2⟩, h0 (setE_yes ⟨hh, hv⟩ hf) hh hv f1 f2⟩
    · unfold move_set_j2
      rw [if_pos (by simp)]
      have := setE_bad (h := h) (m := m) (fun hb => hv hb.2)
      rw [this] at h1
      exact h1 (by omega)
  · rw [if_pos (by simp)]
    unfold move_set_j2
    rw [if_pos rfl]
    have := setE_bad (h := h) (m := m) (fun hb => hh hb.1)
    rw [this] at h1
    exact h1 (by omega)
theorem named_ok (h : House) (m : Move) (w : WfH h) (hm : m.1.size ≤ maxLen) {K : Frac → Prop} (h0 : setE h m = 0 → HouseOk h → MoveOk m → 0 ≤ findS h.2.2.1 m.1 → findS h.2.2.1 m.1 < len h.2.2.1 → K (findS h.2.2.1 m.1, 0))
    (h1 : setE h m ≠ 0 → K (0, setE h m)) : ref35_Named h m K := by
  unfold ref35_Named
  refine ans_use (house_r h w) (fun hh => ?_) (fun hh => ?_)
  · rw [if_neg (by simp)]
    refine ans_use (move_r m hm) (fun hv => ?_) (fun hv => ?_)
    · unfold ref35_Named_j2
      rw [if_neg (by simp)]
      refine find_r h m.1 w.sets ?_
      by_cases hf : findS h.2.2.1 m.1 < 0
      · rw [if_pos (by simpa using hf)]
        have := setE_no ⟨hh, hv⟩ hf
        rw [this] at h1
        exact h1 (by omega)
      · rw [if_neg (by simpa using hf)]
        obtain ⟨f1, f2⟩ := findS_in _ _ hf
        exact h0 (setE_yes ⟨hh, hv⟩ hf) hh hv f1 f2
    · unfold ref35_Named_j2
      rw [if_pos (by simp)]
      have := setE_bad (h := h) (m := m) (fun hb => hv hb.2)
      rw [this] at h1
      exact h1 (by omega)
  · rw [if_pos (by simp)]
    unfold ref35_Named_j2
    rw [if_pos rfl]
    have := setE_bad (h := h) (m := m) (fun hb => hh hb.1)
    rw [this] at h1
    exact h1 (by omega)
theorem reach_p (s : Set_) (z : Int) : Ans (move_reaches s z) (s.2.2.1 ≤ z ∧ z ≤ s.2.2.2.1) := ans_if dt ans_dec
theorem reach_r (s : Set_) (z : Int) : Ans (ref35_Reach s z) (s.2.2.1 ≤ z ∧ z ≤ s.2.2.2.1) := ans_if dt ans_dec
/-- Both heights are in the set's reach. -/
def Both (h : House) (from_ : Int) (m : Move) : Prop := ((atSet_ h.2.2.1 (findS h.2.2.1 m.1)).2.2.1 ≤ from_ ∧ from_ ≤ (atSet_ h.2.2.1 (findS h.2.2.1 m.1)).2.2.2.1) ∧ ((atSet_ h.2.2.1 (findS h.2.2.1 m.1)).2.2.1 ≤ m.2.1 ∧ m.2.1 ≤ (atSet_ h.2.2.1 (findS h.2.2.1 m.1)).2.2.2.1)
open Classical in
noncomputable def givE (h : House) (from_ : Int) (m : Move) : Int := if setE h m ≠ 0 then setE h m else if Both h from_ m then 0 else 2
/-- What a given move has. -/
structure Giv (h : House) (from_ : Int) (m : Move) : Prop where
  house : HouseOk h
  move : MoveOk m
  f0 : 0 ≤ from_
  f1 : from_ ≤ 1048576
  t0 : 0 ≤ m.2.1
  t1 : m.2.1 ≤ 1048576
theorem giv_of {h : House} {from_ : Int} {m : Move} (hh : HouseOk h) (hm : MoveOk m) (f0 : 0 ≤ findS h.2.2.1 m.1) (f1 : findS h.2.2.1 m.1 < len h.2.2.1) (hb : Both h from_ m) : Giv h from_ m := by
  obtain ⟨hs, hle, -⟩ := hh.2.2.2.2 _ f0 f1
  obtain ⟨a, b⟩ := hs.2.2.1
  obtain ⟨b1, b2⟩ := hb
  exact ⟨hh, hm, by omega, by omega, by omega, by omega⟩
abbrev dist (a b : Int) : Int := iMax (wI64 (b - a)) (wI64 (a - b))
theorem given_p (h : House) (from_ : Int) (m : Move) (w : WfH h) (hm : m.1.size ≤ maxLen) {K : Frac → Prop} (h0 : givE h from_ m = 0 → Giv h from_ m → K (dist from_ m.2.1, 0)) (h1 : givE h from_ m ≠ 0 → K (0, givE h from_ m)) : move_given h from_ m K := by
  unfold move_given
  refine set_ok h m w hm (fun he hh hv f0 f1 => ?_) (fun he => ?_)
  · rw [if_neg (by simp)]
    have tail : YN (K (dist from_ m.2.1, 0)) (K (0, 2)) _ _ := yn_nand (reach_p (atSet_ h.2.2.1 (findS h.2.2.1 m.1)) from_) (yn_yes (reach_p (atSet_ h.2.2.1 (findS h.2.2.1 m.1)) m.2.1))
    refine tail (fun (hb : Both h from_ m) => ?_) (fun (hb : ¬ Both h from_ m) => ?_)
    · exact h0 (by unfold givE; rw [if_neg (by simpa using he), if_pos hb]) (giv_of hh hv f0 f1 hb)
    · have : givE h from_ m = 2 := by unfold givE; rw [if_neg (by simpa using he), if_neg hb]
      rw [this] at h1
      exact h1 (by omega)
  · rw [if_pos (by simpa using he)]
    have : givE h from_ m = setE h m := by unfold givE; rw [if_pos he]
    rw [this] at h1
    exact h1 he
theorem given_r (h : House) (from_ : Int) (m : Move) (w : WfH h) (hm : m.1.size ≤ maxLen) {K : Int → Prop} (hk : K (givE h from_ m)) : ref35_Given h from_ m K := by
  unfold ref35_Given
  refine named_ok h m w hm (fun he hh hv f0 f1 => ?_) (fun he => ?_)
  · rw [if_neg (by simp)]
    refine ⟨⟨f0, f1⟩, ?_⟩
    have tail : YN (K 0) (K 2) _ _ := yn_nand (reach_r (atSet_ h.2.2.1 (findS h.2.2.1 m.1)) from_) (yn_pre (B := 0 ≤ findS h.2.2.1 m.1 ∧ findS h.2.2.1 m.1 < len h.2.2.1) ⟨f0, f1⟩ (yn_yes (reach_r (atSet_ h.2.2.1 (findS h.2.2.1 m.1)) m.2.1)))
    refine tail (fun (hb : Both h from_ m) => ?_) (fun (hb : ¬ Both h from_ m) => ?_)
    · have : givE h from_ m = 0 := by unfold givE; rw [if_neg (by simpa using he), if_pos hb]
      rw [this] at hk; exact hk
    · have : givE h from_ m = 2 := by unfold givE; rw [if_neg (by simpa using he), if_neg hb]
      rw [this] at hk; exact hk
  · rw [if_pos (by simpa using he)]
    have : givE h from_ m = setE h m := by unfold givE; rw [if_pos he]
    rw [this] at hk; exact hk
theorem givE_bad {h : House} {from_ : Int} {m : Move} (hb : ¬ (HouseOk h ∧ MoveOk m)) : givE h from_ m = 1 := by
  unfold givE; rw [setE_bad hb, if_pos (by omega)]
theorem givE_ne1 {h : House} {from_ : Int} {m : Move} (hb : HouseOk h ∧ MoveOk m) : givE h from_ m ≠ 1 := by
  unfold givE
  by_cases hf : findS h.2.2.1 m.1 < 0
  · rw [setE_no hb hf, if_pos (by omega)]; omega
  · rw [setE_yes hb hf, if_neg (by omega)]; split <;> omega
theorem reachE_p (h : House) (m : Move) (w : WfH h) (hm : m.1.size ≤ maxLen) {K : Bool × Int → Prop} (h0 : setE h m = 0 → HouseOk h → MoveOk m → 0 ≤ findS h.2.2.1 m.1 → findS h.2.2.1 m.1 < len h.2.2.1 →
      move_reaches (atSet_ h.2.2.1 (findS h.2.2.1 m.1)) m.2.1 (fun r2 => K (r2, 0))) (h1 : setE h m ≠ 0 → K (false, setE h m)) : move_Reach h m K := by
  unfold move_Reach
  refine set_ok h m w hm (fun he hh hv f0 f1 => ?_) (fun he => ?_)
  · rw [if_pos (by simp)]; exact h0 he hh hv f0 f1
  · rw [if_neg (by simpa using he)]; exact h1 he

/-! The law's own smallness: it answers. -/
theorem small_set (s : Set_) (w : WfS s) (n : Int) : ∃ P : Prop, Ans (ref21_Small s n) P := by
  have loop4 : ∃ P : Prop, ∀ (k0 : Prop) (kr : Bool → Prop), YN k0 (kr false) (ref21_Small_l4 0 s k0 kr) P := by
    refine ⟨∀ j, 0 ≤ j → j < len s.2.2.2.2.2.2.2.2.2.2.2.2 → ¬ slen (atBrick s.2.2.2.2.2.2.2.2.2.2.2.2 j).1 > 60, fun k0 kr hy hn => ?_⟩
    unfold ref21_Small_l4
    refine all_loop (L := fun m i => ref21_Small_l4N k0 kr m i s) (n := len s.2.2.2.2.2.2.2.2.2.2.2.2) (k0 := k0) (no := kr false) ?_ ?_ hy hn
    · intro i hi _ hk
      unfold ref21_Small_l4N
      rw [if_neg (by simp only [decide_eq_true_eq]; omega)]
      exact hk
    · intro i m h0 h1 _ hq hnq
      unfold ref21_Small_l4N
      rw [if_pos (by simpa using h1)]
      refine ⟨⟨h0, h1⟩, ?_⟩
      exact yn_use (yn_nif dn) Iff.rfl (by rw [wI_succ h0 h1 (len_le w.bricks)]; exact hq) hnq
  obtain ⟨P4, loop4⟩ := loop4
  have loop3 : ∃ P : Prop, ∀ (k0 : Set_ → Prop) (kr : Bool → Prop), YN (k0 s) (kr false) (ref21_Small_l3 0 s k0 kr) P := by
    refine ⟨∀ j, 0 ≤ j → j < len s.2.2.2.2.2.2.2.2.2.2.2.1 → ¬ slen (atItem s.2.2.2.2.2.2.2.2.2.2.2.1 j).1 > 60, fun k0 kr hy hn => ?_⟩
    unfold ref21_Small_l3
    refine all_loop (L := fun m i => ref21_Small_l3N k0 kr m i s) (n := len s.2.2.2.2.2.2.2.2.2.2.2.1) (k0 := k0 s) (no := kr false) ?_ ?_ hy hn
    · intro i hi _ hk
      unfold ref21_Small_l3N
      rw [if_neg (by simp only [decide_eq_true_eq]; omega)]
      exact hk
    · intro i m h0 h1 _ hq hnq
      unfold ref21_Small_l3N
      rw [if_pos (by simpa using h1)]
      refine ⟨⟨h0, h1⟩, ?_⟩
      exact yn_use (yn_nif dn) Iff.rfl (by rw [wI_succ h0 h1 (len_le w.items)]; exact hq) hnq
  obtain ⟨P3, loop3⟩ := loop3
  have two : ∀ K : Bool → Prop, YN (K true) (K false) (ref21_Small_l3 0 s (fun s_2 => (ref21_Small_l4 0 s_2 (K true) (fun rt_4 => K rt_4))) (fun rt_4 => K rt_4)) (P3 ∧ P4) := fun K => yn_seq (loop3 (fun s_2 => (ref21_Small_l4 0 s_2 (K true) (fun rt_4 => K rt_4))) (fun rt_4 => K rt_4)) (loop4 _ _)
  by_cases c1 : slen s.1 > 60
  · exact ⟨_, ans_of (P := False) (fun K hy hn => by unfold ref21_Small ref21_Small_j2; rw [if_pos (by simpa using c1), if_pos rfl]; exact hn (fun h => h))⟩
  by_cases c2 : len s.2.2.2.2.2.1 > 12
  · exact ⟨_, ans_of (P := False) (fun K hy hn => by unfold ref21_Small ref21_Small_j2; rw [if_neg (by simpa using c1), if_pos (by simpa using c2), if_pos rfl]; exact hn (fun h => h))⟩
  by_cases c5 : len s.2.2.2.2.2.2.2.2.2.2.2.1 > 45
  · refine ⟨_, ans_of (P := False) (fun K hy hn => ?_)⟩
    unfold ref21_Small ref21_Small_j2
    rw [if_neg (by simpa using c1), if_neg (by simpa using c2)]
    split
    · split
      · rw [if_pos rfl]; exact hn (fun h => h)
      · rw [if_pos (by simpa using c5), if_pos rfl]; exact hn (fun h => h)
    · rw [if_pos (by simpa using c5), if_pos rfl]; exact hn (fun h => h)
  by_cases c3 : len s.2.2.2.2.2.2.2.2.2.2.2.1 > n
  · by_cases c4 : len s.2.2.2.2.2.2.2.2.2.2.2.1 ≤ 40
    · exact ⟨_, ans_of (P := False) (fun K hy hn => by unfold ref21_Small ref21_Small_j2; rw [if_neg (by simpa using c1), if_neg (by simpa using c2), if_pos (by simpa using c3), if_pos (by simpa using c4), if_pos rfl]; exact hn (fun h => h))⟩
    · refine ⟨¬ len s.2.2.2.2.2.2.2.2.2.2.2.2 > 10 ∧ P3 ∧ P4, ans_yn (fun K => ?_)⟩
      unfold ref21_Small
      rw [if_neg (by simpa using c1), if_neg (by simpa using c2), if_pos (by simpa using c3), if_neg (by simpa using c4), if_neg (by simpa using c5)]
      exact yn_ifn dn (two K)
  · refine ⟨¬ len s.2.2.2.2.2.2.2.2.2.2.2.2 > 10 ∧ P3 ∧ P4, ans_yn (fun K => ?_)⟩
    unfold ref21_Small
    rw [if_neg (by simpa using c1), if_neg (by simpa using c2), if_neg (by simpa using c3), if_neg (by simpa using c5)]
    exact yn_ifn dn (two K)
noncomputable def SmallS (s : Set_) (n : Int) : Prop := ∃ w : WfS s, Classical.choose (small_set s w n)
theorem small_house (h : House) (w : WfH h) (n : Int) : ∃ P : Prop, Ans (ref30_Small h n) P := by
  have loop4 : ∃ P : Prop, ∀ (k0 : Prop) (kr : Bool → Prop), YN k0 (kr false) (ref30_Small_l4 0 h k0 kr) P := by
    refine ⟨∀ j, 0 ≤ j → j < len h.2.2.2 → ¬ slen (atRoof h.2.2.2 j).1 > 60, fun k0 kr hy hn => ?_⟩
    unfold ref30_Small_l4
    refine all_loop (L := fun m i => ref30_Small_l4N k0 kr m i h) (n := len h.2.2.2) (k0 := k0) (no := kr false) ?_ ?_ hy hn
    · intro i hi _ hk
      unfold ref30_Small_l4N
      rw [if_neg (by simp only [decide_eq_true_eq]; omega)]
      exact hk
    · intro i m h0 h1 _ hq hnq
      unfold ref30_Small_l4N
      rw [if_pos (by simpa using h1)]
      refine ⟨⟨h0, h1⟩, ?_⟩
      exact yn_use (yn_nif dn) Iff.rfl (by rw [wI_succ h0 h1 (len_le w.roofs)]; exact hq) hnq
  obtain ⟨P4, loop4⟩ := loop4
  have loop3 : ∃ P : Prop, ∀ (k0 : House → Prop) (kr : Bool → Prop), YN (k0 h) (kr false) (ref30_Small_l3 0 h k0 kr) P := by
    refine ⟨∀ j, 0 ≤ j → j < len h.2.2.1 → SmallS (atSet_ h.2.2.1 j) 8, fun k0 kr hy hn => ?_⟩
    unfold ref30_Small_l3
    refine all_loop (L := fun m i => ref30_Small_l3N k0 kr m i h) (n := len h.2.2.1) (k0 := k0 h) (no := kr false) ?_ ?_ hy hn
    · intro i hi _ hk
      unfold ref30_Small_l3N
      rw [if_neg (by simp only [decide_eq_true_eq]; omega)]
      exact hk
    · intro i m h0 h1 _ hq hnq
      unfold ref30_Small_l3N
      rw [if_pos (by simpa using h1)]
      refine ⟨⟨h0, h1⟩, ?_⟩
      have hmem : atSet_ h.2.2.1 i ∈ h.2.2.1 := mem_getD h0 h1
      have ws := w.each _ hmem
      exact yn_use (yn_yes (Classical.choose_spec (small_set _ ws 8))) (Q := SmallS (atSet_ h.2.2.1 i) 8) ⟨fun h => ⟨ws, h⟩, fun ⟨_, h⟩ => h⟩ (by rw [wI_succ h0 h1 (len_le w.sets)]; exact hq) hnq
  obtain ⟨P3, loop3⟩ := loop3
  have two : ∀ K : Bool → Prop, YN (K true) (K false) (ref30_Small_l3 0 h (fun h_2 => (ref30_Small_l4 0 h_2 (K true) (fun rt_4 => K rt_4))) (fun rt_4 => K rt_4)) (P3 ∧ P4) := fun K => yn_seq (loop3 (fun h_2 => (ref30_Small_l4 0 h_2 (K true) (fun rt_4 => K rt_4))) (fun rt_4 => K rt_4)) (loop4 _ _)
  exact ⟨_, ans_yn (fun K => yn_ifn dn (yn_ifn dn (yn_ifn dn (two K))))⟩
theorem few_ok (h : House) (m : Move) (w : WfH h) {K : Bool → Prop} (hk : ∀ b, K b) : law35_few h m K := by
  unfold law35_few
  obtain ⟨P, hp⟩ := small_house h w 8
  refine ans_use hp (fun _ => ?_) (fun _ => ?_)
  · rw [if_pos rfl]; exact hk _
  · rw [if_neg (by simp)]; exact hk _
end Go.Proofs.YtieeiiibamkbmaaGreat.Am
