/- Plain laws of moves. Conditions: the bounds that each names. -/
import Derived.Test.YtieeiiibamkbmaaGreatAmP3
import Derived.Test.YtieeiiibamkbmaaGreatAmWH
namespace Go.Proofs.YtieeiiibamkbmaaGreat.Am
open Go
set_option linter.unusedVariables false
set_option linter.unusedSimpArgs false

/-- The numbers of a profile. -/
structure Pf (d a b v : Int) : Prop where
  d0 : 0 < d
  d1 : d ≤ 1048576
  a0 : 1 ≤ a
  a1 : a ≤ 16384
  b0 : 1 ≤ b
  b1 : b ≤ 16384
  v0 : 1 ≤ v
  v1 : v ≤ 8192
theorem pf_of {m : Move} {d : Int} (hm : MoveOk m) (h0 : 0 < d) (h1 : d ≤ 1048576) : Pf d m.2.2.2.1 m.2.2.2.2 m.2.2.1 :=
  ⟨h0, h1, hm.2.2.2.1.1, hm.2.2.2.1.2, hm.2.2.2.2.1, hm.2.2.2.2.2, hm.2.2.1.1, hm.2.2.1.2⟩
def Room (d a b x : Int) : Prop := x * x * (a + b) ≤ 2 * d * a * b
instance (d a b x : Int) : Decidable (Room d a b x) := by unfold Room; infer_instance
theorem Pf.prog {d a b v : Int} (p : Pf d a b v) : wI64 (wI64 (wI64 (2 * d) * a) * b) = 2 * d * a * b ∧ wI64 (wI64 (wI64 (2 * a) * b) * d) = 2 * d * a * b ∧ 0 < 2 * d * a * b ∧ 2 * d * a * b ≤ 562949953421312 := by
  obtain ⟨d0, d1, a0, a1, b0, b1, v0, v1⟩ := p
  have h1 := mulb (a := d) (b := a) (M := 1048576) (N := 16384) (by omega) d1 (by omega) a1
  have h2 := mulb (a := d * a) (b := b) (M := 1048576 * 16384) (N := 16384) h1.1 h1.2 (by omega) b1
  have h3 := mulb (a := a) (b := b) (M := 16384) (N := 16384) (by omega) a1 (by omega) b1
  have h4 : 0 < d * a := Int.mul_pos d0 (by omega)
  have h5 : 0 < d * a * b := Int.mul_pos h4 (by omega)
  have e1 : 2 * d * a = 2 * (d * a) := Int.mul_assoc _ _ _
  have e2 : 2 * (d * a) * b = 2 * (d * a * b) := Int.mul_assoc _ _ _
  have e3 : 2 * a * b = 2 * (a * b) := Int.mul_assoc _ _ _
  have e4 : 2 * (a * b) * d = 2 * (d * a * b) := by grind
  rw [wI_id (x := 2 * d) (by omega) (by omega), wI_id (x := 2 * a) (by omega) (by omega), e1, wI_id (x := 2 * (d * a)) (by omega) (by omega), e2, wI_id (x := 2 * (d * a * b)) (by omega) (by omega), e3, wI_id (x := 2 * (a * b)) (by omega) (by omega), e4, wI_id (x := 2 * (d * a * b)) (by omega) (by omega)]
  refine ⟨rfl, rfl, by omega, by omega⟩
theorem Pf.sq {d a b v : Int} (p : Pf d a b v) {x : Int} (h0 : 0 ≤ x) (h1 : x ≤ 8192) : wI64 (wI64 (x * x) * wI64 (a + b)) = x * x * (a + b) ∧ 0 ≤ x * x * (a + b) ∧ x * x * (a + b) ≤ 2199023255552 := by
  obtain ⟨d0, d1, a0, a1, b0, b1, v0, v1⟩ := p
  have g1 := mulb (a := x) (b := x) (M := 8192) (N := 8192) (by omega) h1 (by omega) h1
  have g2 := mulb (a := x * x) (b := a + b) (M := 8192 * 8192) (N := 32768) g1.1 g1.2 (by omega) (by omega)
  rw [wI_id (x := x * x) (by omega) (by omega), wI_id (x := a + b) (by omega) (by omega), wI_id (x := x * x * (a + b)) (by omega) (by omega)]
  exact ⟨rfl, by omega, by omega⟩
theorem Pf.mono {d a b v : Int} (p : Pf d a b v) {x y : Int} (h0 : 0 ≤ x) (h : x ≤ y) (hy : Room d a b y) : Room d a b x := by
  obtain ⟨d0, d1, a0, a1, b0, b1, v0, v1⟩ := p
  unfold Room at *
  have g1 := mulb (a := x) (b := x) (M := y) (N := y) h0 h h0 h
  have g2 := mulb (a := x * x) (b := a + b) (M := y * y) (N := a + b) g1.1 g1.2 (by omega) (Int.le_refl _)
  omega
theorem Pf.zero {d a b v : Int} (p : Pf d a b v) : Room d a b 0 := by
  unfold Room
  have := p.prog.2.2.1
  omega
theorem Pf.one {d a b v : Int} (p : Pf d a b v) : Room d a b 1 := by
  obtain ⟨d0, d1, a0, a1, b0, b1, v0, v1⟩ := p
  unfold Room
  have h1 : a * 1 ≤ a * b := Int.mul_le_mul_of_nonneg_left b0 (by omega)
  have h2 : 1 * b ≤ a * b := Int.mul_le_mul_of_nonneg_right a0 (by omega)
  have h3 : 1 * (a * b) ≤ d * (a * b) := Int.mul_le_mul_of_nonneg_right (by omega) (Int.mul_nonneg (by omega) (by omega))
  have e : 2 * d * a * b = 2 * (d * (a * b)) := by grind
  rw [e]
  omega
/-- The greatest speed that the distance has room for. -/
def TopIs (d a b v w : Int) : Prop := (0 ≤ w ∧ w ≤ v) ∧ Room d a b w ∧ ∀ x, w < x → x ≤ v → ¬ Room d a b x
theorem top_one {d a b v w w' : Int} (h : TopIs d a b v w) (h' : TopIs d a b v w') : w = w' := by
  rcases Int.lt_trichotomy w w' with hc | hc | hc
  · exact absurd h'.2.1 (h.2.2 w' hc h'.1.2)
  · exact hc
  · exact absurd h.2.1 (h'.2.2 w hc h.1.2)
theorem top_pos {d a b v w : Int} (p : Pf d a b v) (h : TopIs d a b v w) : 1 ≤ w := by
  by_cases hc : 1 ≤ w
  · exact hc
  · exact absurd p.one (h.2.2 1 (by omega) p.v0)
theorem top_p {d : Int} {m : Move} (p : Pf d m.2.2.2.1 m.2.2.2.2 m.2.2.1) : ∃ w, TopIs d m.2.2.2.1 m.2.2.2.2 m.2.2.1 w ∧ ∀ K : Int → Prop, K w → profile_top d m K := by
  have key : ∀ (s : Nat) (lo hi : Int), (hi - lo).toNat ≤ s → 0 ≤ lo → lo ≤ hi → hi ≤ m.2.2.1 → Room d m.2.2.2.1 m.2.2.2.2 lo → (∀ x, hi < x → x ≤ m.2.2.1 → ¬ Room d m.2.2.2.1 m.2.2.2.2 x) →
      ∃ w, TopIs d m.2.2.2.1 m.2.2.2.2 m.2.2.1 w ∧ ∀ k0 : Int → Prop, k0 w → profile_top_l2 d lo hi m k0 := by
    intro s
    induction s with
    | zero =>
      intro lo hi hs h0 h1 h2 h3 h4
      have : lo = hi := by omega
      subst this
      refine ⟨lo, ⟨⟨h0, h2⟩, h3, h4⟩, fun k0 hk => ⟨1, ?_⟩⟩
      unfold profile_top_l2N
      rw [if_neg (by simp)]
      exact hk
    | succ s ih =>
      intro lo hi hs h0 h1 h2 h3 h4
      by_cases hlt : lo < hi
      · have v1 := p.v1
        obtain ⟨x, hx⟩ : ∃ x, x = (lo + hi + 1) / 2 := ⟨_, rfl⟩
        have ex : wI64 (Int.tdiv (wI64 (wI64 (lo + hi) + 1)) 2) = x := by
          rw [wI_id (x := lo + hi) (by omega) (by omega), wI_id (x := lo + hi + 1) (by omega) (by omega), tdiv_nn (by omega), ← hx, wI_id (by omega) (by omega)]
        obtain ⟨sq, -, -⟩ := p.sq (x := x) (by omega) (by omega)
        obtain ⟨pr, -, -, -⟩ := p.prog
        by_cases hR : Room d m.2.2.2.1 m.2.2.2.2 x
        · obtain ⟨w, hw, hk⟩ := ih x hi (by omega) (by omega) (by omega) h2 hR h4
          refine ⟨w, hw, fun k0 h => ?_⟩
          obtain ⟨n, hn⟩ := hk k0 h
          refine ⟨n + 1, ?_⟩
          unfold profile_top_l2N
          rw [if_pos (by simpa using hlt), ex, sq, pr, if_pos (by rw [decide_eq_true_eq]; exact hR)]
          exact hn
        · obtain ⟨w, hw, hk⟩ := ih lo (x - 1) (by omega) h0 (by omega) (by omega) h3 (fun y hy hyv hr => hR (p.mono (by omega) (by omega) hr))
          refine ⟨w, hw, fun k0 h => ?_⟩
          obtain ⟨n, hn⟩ := hk k0 h
          refine ⟨n + 1, ?_⟩
          unfold profile_top_l2N
          rw [if_pos (by simpa using hlt), ex, sq, pr, if_neg (by rw [decide_eq_true_eq]; exact hR), wI_id (x := x - 1) (by omega) (by omega)]
          exact hn
      · exact ih lo hi (by omega) h0 h1 h2 h3 h4
  obtain ⟨w, hw, hk⟩ := key (m.2.2.1 - 0).toNat 0 m.2.2.1 (by omega) (by omega) (by have := p.v0; omega) (Int.le_refl _) p.zero (fun x h1 h2 => by omega)
  refine ⟨w, hw, fun K h => ?_⟩
  unfold profile_top
  rw [if_neg (by have := p.d0; simp; omega)]
  exact hk _ h
theorem top_r {d : Int} {m : Move} (p : Pf d m.2.2.2.1 m.2.2.2.2 m.2.2.1) : ∃ w, TopIs d m.2.2.2.1 m.2.2.2.2 m.2.2.1 w ∧ ∀ K : Int → Prop, K w → ref34_Top d m K := by
  have v1 := p.v1
  have v0 := p.v0
  have step : ∀ (n : Nat) (w bit : Int) (k0 : Int → Prop), 0 ≤ w → w ≤ m.2.2.1 → 0 < bit → bit ≤ 16384 →
      (w + bit ≤ m.2.2.1 ∧ Room d m.2.2.2.1 m.2.2.2.2 (w + bit) → ref34_Top_l2N k0 n d (w + bit) (bit / 2) m) → (¬ (w + bit ≤ m.2.2.1 ∧ Room d m.2.2.2.1 m.2.2.2.2 (w + bit)) → ref34_Top_l2N k0 n d w (bit / 2) m) → ref34_Top_l2N k0 (n + 1) d w bit m := by
    intro n w bit k0 w0 w1 b0 b1 hy hn
    unfold ref34_Top_l2N
    rw [if_pos (by simpa using b0), wI_id (x := w + bit) (by omega) (by omega)]
    have eb : wI64 (Int.tdiv bit 2) = bit / 2 := by rw [tdiv_nn (by omega), wI_id (by omega) (by omega)]
    rw [eb]
    by_cases h1 : w + bit ≤ m.2.2.1
    · rw [if_pos (by simpa using h1)]
      unfold ref34_room
      obtain ⟨sq, -, -⟩ := p.sq (x := w + bit) (by omega) (by omega)
      obtain ⟨-, pr, -, -⟩ := p.prog
      rw [sq, pr]
      by_cases hR : Room d m.2.2.2.1 m.2.2.2.2 (w + bit)
      · rw [if_pos (by rw [decide_eq_true_eq]; exact hR)]; exact hy ⟨h1, hR⟩
      · rw [if_neg (by rw [decide_eq_true_eq]; exact hR)]; exact hn (fun h => hR h.2)
    · rw [if_neg (by simpa using h1)]; exact hn (fun h => h1 h.1)
  have key : ∀ (k : Nat) (w : Int), k ≤ 14 → 0 ≤ w → w ≤ m.2.2.1 → Room d m.2.2.2.1 m.2.2.2.2 w → (∀ x, w + 2 * (2 ^ k : Nat) ≤ x → x ≤ m.2.2.1 → ¬ Room d m.2.2.2.1 m.2.2.2.2 x) →
      ∃ w', TopIs d m.2.2.2.1 m.2.2.2.2 m.2.2.1 w' ∧ ∀ k0 : Int → Prop, k0 w' → ∃ n, ref34_Top_l2N k0 n d w ((2 ^ k : Nat) : Int) m := by
    intro k
    induction k with
    | zero =>
      intro w hk w0 w1 hR hno
      by_cases hc : w + 1 ≤ m.2.2.1 ∧ Room d m.2.2.2.1 m.2.2.2.2 (w + 1)
      · refine ⟨w + 1, ⟨⟨by omega, hc.1⟩, hc.2, fun x h1 h2 => hno x (by simp; omega) h2⟩, fun k0 h => ⟨2, ?_⟩⟩
        refine step 1 w 1 k0 w0 w1 (by omega) (by omega) (fun _ => ?_) (fun hn => absurd hc hn)
        unfold ref34_Top_l2N
        rw [if_neg (by decide)]
        exact h
      · refine ⟨w, ⟨⟨w0, w1⟩, hR, fun x h1 h2 hr => hc ⟨by omega, p.mono (by omega) (by omega) hr⟩⟩, fun k0 h => ⟨2, ?_⟩⟩
        refine step 1 w 1 k0 w0 w1 (by omega) (by omega) (fun hn => absurd hn hc) (fun _ => ?_)
        unfold ref34_Top_l2N
        rw [if_neg (by decide)]
        exact h
    | succ k ih =>
      intro w hk w0 w1 hR hno
      have e2 : (2 ^ (k + 1) : Nat) = 2 * 2 ^ k := by rw [Nat.pow_succ, Nat.mul_comm]
      have hp : 0 < 2 ^ k := Nat.pow_pos (by omega)
      have hle : 2 ^ (k + 1) ≤ 2 ^ 14 := Nat.pow_le_pow_right (by omega) hk
      have h14 : (2 : Nat) ^ 14 = 16384 := by decide
      generalize hq : 2 ^ k = q at *
      rw [e2] at hno hle ⊢
      have ed : ((2 * q : Nat) : Int) / 2 = (q : Int) := by omega
      by_cases hc : w + ((2 * q : Nat) : Int) ≤ m.2.2.1 ∧ Room d m.2.2.2.1 m.2.2.2.2 (w + ((2 * q : Nat) : Int))
      · obtain ⟨w', hw', hk'⟩ := ih (w + ((2 * q : Nat) : Int)) (by omega) (by omega) hc.1 hc.2 (fun x h1 h2 => hno x (by omega) h2)
        refine ⟨w', hw', fun k0 h => ?_⟩
        obtain ⟨n, hn⟩ := hk' k0 h
        refine ⟨n + 1, step n w _ k0 w0 w1 (by omega) (by omega) (fun _ => ?_) (fun h => absurd hc h)⟩
        rw [ed]; exact hn
      · obtain ⟨w', hw', hk'⟩ := ih w (by omega) w0 w1 hR (fun x h1 h2 hr => hc ⟨by omega, p.mono (by omega) (by omega) hr⟩)
        refine ⟨w', hw', fun k0 h => ?_⟩
        obtain ⟨n, hn⟩ := hk' k0 h
        refine ⟨n + 1, step n w _ k0 w0 w1 (by omega) (by omega) (fun h => absurd h hc) (fun _ => ?_)⟩
        rw [ed]; exact hn
  obtain ⟨w, hw, hk⟩ := key 14 0 (by omega) (by omega) (by omega) p.zero (fun x h1 h2 => by
    have h14 : (2 : Nat) ^ 14 = 16384 := by decide
    rw [h14] at h1; omega)
  exact ⟨w, hw, fun K h => hk K h⟩
end Go.Proofs.YtieeiiibamkbmaaGreat.Am
namespace Go.Proofs.YtieeiiibamkbmaaGreat.Am
open Go
set_option linter.unusedVariables false
set_option linter.unusedSimpArgs false

theorem fr_int (n : Int) : fr (n : Rat) = (n, 1) := by unfold fr; simp
theorem inm_int {n : Int} (h0 : -1152921504606846976 ≤ n) (h1 : n ≤ 1152921504606846976) : InM (n : Rat) := by
  unfold InM
  simp
  omega
theorem inm_zero : InM 0 := by decide
theorem fr_zero : fr 0 = (0, 1) := by decide
theorem curve1_ok {x : Frac} {b : Int} {K : Frac → Int → Prop} (h : K x b) : profile_Curve_1 x 0 b K := by
  unfold profile_Curve_1
  rw [if_neg (by simp)]; exact h
theorem curve3_ok {n d b : Int} (hn : IsI n) (hd : IsI d) (h0 : d ≠ 0) (hi : InM ((n : Rat) / (d : Rat))) {K : Frac → Int → Prop} (h : K (fr ((n : Rat) / (d : Rat))) b) : profile_Curve_3 n d b K := by
  unfold profile_Curve_3
  refine make_ok hn hd h0 ?_
  rw [res_in hi]
  exact curve1_ok h
theorem frac_ok {n d : Int} (hn : IsI n) (hd : IsI d) (h0 : d ≠ 0) (hi : InM ((n : Rat) / (d : Rat))) {K : Frac → Prop} (h : K (fr ((n : Rat) / (d : Rat)))) : ref34_frac n d K := by
  unfold ref34_frac
  refine rmake_ok hn hd h0 ?_
  rw [res_in hi]
  exact h

/-! The times and places of a curve. -/
section
variable (d a b w : Int)
def T1 : Rat := (w : Rat) / (a : Rat)
def X1 : Rat := ((w * w : Int) : Rat) / ((2 * a : Int) : Rat)
def Xb : Rat := ((w * w : Int) : Rat) / ((2 * b : Int) : Rat)
def RS : Rat := (d : Rat) - X1 a w - Xb b w
def T2 : Rat := T1 a w + RS d a b w / (w : Rat)
def T3 : Rat := T2 d a b w + (w : Rat) / (b : Rat)
def X2 : Rat := (d : Rat) - Xb b w
end
structure Wp (d a b w : Int) : Prop where
  d0 : 0 < d
  d1 : d ≤ 1048576
  a0 : 1 ≤ a
  a1 : a ≤ 16384
  b0 : 1 ≤ b
  b1 : b ≤ 16384
  w0 : 1 ≤ w
  w1 : w ≤ 8192
  room : w * w * (a + b) ≤ 2 * d * a * b
theorem wp_of {d a b v w : Int} (p : Pf d a b v) (h : TopIs d a b v w) : Wp d a b w := by
  have := top_pos p h
  obtain ⟨d0, d1, a0, a1, b0, b1, v0, v1⟩ := p
  have := h.1.2
  exact ⟨d0, d1, a0, a1, b0, b1, by omega, by omega, h.2.1⟩
/-- The products of a profile's numbers, and their bounds. -/
structure Bd (d a b w : Int) : Prop where
  ww : 1 ≤ w * w ∧ w * w ≤ 67108864
  wwa : 1 ≤ w * w * a ∧ w * w * a ≤ 1099511627776
  wwb : 1 ≤ w * w * b ∧ w * w * b ≤ 1099511627776
  da : 1 ≤ d * a ∧ d * a ≤ 17179869184
  db : 1 ≤ d * b ∧ d * b ≤ 17179869184
  ab : 1 ≤ a * b ∧ a * b ≤ 268435456
  dab : 1 ≤ d * a * b ∧ d * a * b ≤ 281474976710656
  abw : 1 ≤ a * b * w ∧ a * b * w ≤ 2199023255552
  room : w * w * a + w * w * b ≤ 2 * (d * a * b)
theorem Wp.bd {d a b w : Int} (p : Wp d a b w) : Bd d a b w := by
  obtain ⟨d0, d1, a0, a1, b0, b1, w0, w1, hr⟩ := p
  have one : ∀ x y : Int, 1 ≤ x → 1 ≤ y → 1 ≤ x * y := fun x y hx hy => by have := Int.mul_pos (show 0 < x by omega) (show 0 < y by omega); omega
  have m1 := mulb (a := w) (b := w) (M := 8192) (N := 8192) (by omega) w1 (by omega) w1
  have m2 := mulb (a := w * w) (b := a) (M := 8192 * 8192) (N := 16384) m1.1 m1.2 (by omega) a1
  have m3 := mulb (a := w * w) (b := b) (M := 8192 * 8192) (N := 16384) m1.1 m1.2 (by omega) b1
  have m4 := mulb (a := d) (b := a) (M := 1048576) (N := 16384) (by omega) d1 (by omega) a1
  have m5 := mulb (a := d) (b := b) (M := 1048576) (N := 16384) (by omega) d1 (by omega) b1
  have m6 := mulb (a := a) (b := b) (M := 16384) (N := 16384) (by omega) a1 (by omega) b1
  have m7 := mulb (a := d * a) (b := b) (M := 1048576 * 16384) (N := 16384) m4.1 m4.2 (by omega) b1
  have m8 := mulb (a := a * b) (b := w) (M := 16384 * 16384) (N := 8192) m6.1 m6.2 (by omega) w1
  have e1 : w * w * (a + b) = w * w * a + w * w * b := Int.mul_add _ _ _
  have e2 : 2 * d * a * b = 2 * (d * a * b) := by grind
  exact ⟨⟨one _ _ w0 w0, by omega⟩, ⟨one _ _ (one _ _ w0 w0) a0, by omega⟩, ⟨one _ _ (one _ _ w0 w0) b0, by omega⟩, ⟨one _ _ (by omega) a0, by omega⟩, ⟨one _ _ (by omega) b0, by omega⟩, ⟨one _ _ a0 b0, by omega⟩,
    ⟨one _ _ (one _ _ (by omega) a0) b0, by omega⟩, ⟨one _ _ (one _ _ a0 b0) w0, by omega⟩, by omega⟩
section
variable {d a b w : Int}
theorem Wp.ne (p : Wp d a b w) : (a : Rat) ≠ 0 ∧ (b : Rat) ≠ 0 ∧ (w : Rat) ≠ 0 := by
  obtain ⟨d0, d1, a0, a1, b0, b1, w0, w1, hr⟩ := p
  exact ⟨cast_ne (by omega), cast_ne (by omega), cast_ne (by omega)⟩
theorem Wp.qD1 (p : Wp d a b w) : (d : Rat) - X1 a w = ((2 * (d * a) - w * w : Int) : Rat) / ((2 * a : Int) : Rat) := by
  obtain ⟨ha, hb, hw⟩ := p.ne
  unfold X1
  push_cast
  generalize (a : Rat) = A at *
  generalize (w : Rat) = W at *
  generalize (d : Rat) = D at *
  grind
theorem Wp.qX2 (p : Wp d a b w) : X2 d b w = ((2 * (d * b) - w * w : Int) : Rat) / ((2 * b : Int) : Rat) := by
  obtain ⟨ha, hb, hw⟩ := p.ne
  unfold X2 Xb
  push_cast
  generalize (b : Rat) = A at *
  generalize (w : Rat) = W at *
  generalize (d : Rat) = D at *
  grind
theorem Wp.qRS (p : Wp d a b w) : RS d a b w = ((2 * (d * a * b) - w * w * a - w * w * b : Int) : Rat) / ((2 * (a * b) : Int) : Rat) := by
  obtain ⟨ha, hb, hw⟩ := p.ne
  unfold RS X1 Xb
  push_cast
  generalize (a : Rat) = A at *
  generalize (b : Rat) = B at *
  generalize (w : Rat) = W at *
  generalize (d : Rat) = D at *
  grind
theorem Wp.qRW (p : Wp d a b w) : RS d a b w / (w : Rat) = ((2 * (d * a * b) - w * w * a - w * w * b : Int) : Rat) / ((2 * (a * b * w) : Int) : Rat) := by
  obtain ⟨ha, hb, hw⟩ := p.ne
  rw [p.qRS]
  push_cast
  generalize (a : Rat) = A at *
  generalize (b : Rat) = B at *
  generalize (w : Rat) = W at *
  generalize (d : Rat) = D at *
  grind
theorem Wp.qT2 (p : Wp d a b w) : T2 d a b w = ((2 * (w * w * b) + (2 * (d * a * b) - w * w * a - w * w * b) : Int) : Rat) / ((2 * (a * b * w) : Int) : Rat) := by
  obtain ⟨ha, hb, hw⟩ := p.ne
  unfold T2
  rw [p.qRW]
  unfold T1
  push_cast
  generalize (a : Rat) = A at *
  generalize (b : Rat) = B at *
  generalize (w : Rat) = W at *
  generalize (d : Rat) = D at *
  grind
theorem Wp.qT3 (p : Wp d a b w) : T3 d a b w = ((2 * (d * a * b) + w * w * a + w * w * b : Int) : Rat) / ((2 * (a * b * w) : Int) : Rat) := by
  obtain ⟨ha, hb, hw⟩ := p.ne
  unfold T3
  rw [p.qT2]
  push_cast
  generalize (a : Rat) = A at *
  generalize (b : Rat) = B at *
  generalize (w : Rat) = W at *
  generalize (d : Rat) = D at *
  grind
theorem Wp.iT1 (p : Wp d a b w) : InM (T1 a w) := by
  obtain ⟨d0, d1, a0, a1, b0, b1, w0, w1, hr⟩ := p
  exact InM_of _ _ (by omega) (by omega) (by omega)
theorem Wp.iWb (p : Wp d a b w) : InM ((w : Rat) / (b : Rat)) := by
  obtain ⟨d0, d1, a0, a1, b0, b1, w0, w1, hr⟩ := p
  exact InM_of _ _ (by omega) (by omega) (by omega)
theorem Wp.iX1 (p : Wp d a b w) : InM (X1 a w) := by
  have q := p.bd.ww
  obtain ⟨d0, d1, a0, a1, b0, b1, w0, w1, hr⟩ := p
  exact InM_of _ _ (by omega) (by omega) (by omega)
theorem Wp.iXb (p : Wp d a b w) : InM (Xb b w) := by
  have q := p.bd.ww
  obtain ⟨d0, d1, a0, a1, b0, b1, w0, w1, hr⟩ := p
  exact InM_of _ _ (by omega) (by omega) (by omega)
theorem Wp.iD1 (p : Wp d a b w) : InM ((d : Rat) - X1 a w) := by
  rw [p.qD1]
  have q := p.bd
  have q1 := q.ww; have q2 := q.da
  obtain ⟨d0, d1, a0, a1, b0, b1, w0, w1, hr⟩ := p
  exact InM_of _ _ (by omega) (by omega) (by omega)
theorem Wp.iX2 (p : Wp d a b w) : InM (X2 d b w) := by
  rw [p.qX2]
  have q := p.bd
  have q1 := q.ww; have q2 := q.db
  obtain ⟨d0, d1, a0, a1, b0, b1, w0, w1, hr⟩ := p
  exact InM_of _ _ (by omega) (by omega) (by omega)
theorem Wp.iRS (p : Wp d a b w) : InM (RS d a b w) := by
  rw [p.qRS]
  have q := p.bd
  have q1 := q.wwa; have q2 := q.wwb; have q3 := q.dab; have q4 := q.ab; have q5 := q.room
  exact InM_of _ _ (by omega) (by omega) (by omega)
theorem Wp.iRW (p : Wp d a b w) : InM (RS d a b w / (w : Rat)) := by
  rw [p.qRW]
  have q := p.bd
  have q1 := q.wwa; have q2 := q.wwb; have q3 := q.dab; have q4 := q.abw; have q5 := q.room
  exact InM_of _ _ (by omega) (by omega) (by omega)
theorem Wp.iT2 (p : Wp d a b w) : InM (T2 d a b w) := by
  rw [p.qT2]
  have q := p.bd
  have q1 := q.wwa; have q2 := q.wwb; have q3 := q.dab; have q4 := q.abw; have q5 := q.room
  exact InM_of _ _ (by omega) (by omega) (by omega)
theorem Wp.iT3 (p : Wp d a b w) : InM (T3 d a b w) := by
  rw [p.qT3]
  have q := p.bd
  have q1 := q.wwa; have q2 := q.wwb; have q3 := q.dab; have q4 := q.abw; have q5 := q.room
  exact InM_of _ _ (by omega) (by omega) (by omega)
theorem Wp.iA (p : Wp d a b w) : InM ((a : Rat) / ((2 : Int) : Rat)) := by
  obtain ⟨d0, d1, a0, a1, b0, b1, w0, w1, hr⟩ := p
  exact InM_of _ _ (by omega) (by omega) (by omega)
theorem Wp.iB (p : Wp d a b w) : InM (((-b : Int) : Rat) / ((2 : Int) : Rat)) := by
  obtain ⟨d0, d1, a0, a1, b0, b1, w0, w1, hr⟩ := p
  exact InM_of _ _ (by omega) (by omega) (by omega)
theorem Wp.iw (p : Wp d a b w) : InM (w : Rat) := by
  obtain ⟨d0, d1, a0, a1, b0, b1, w0, w1, hr⟩ := p
  exact inm_int (by omega) (by omega)
theorem Wp.id (p : Wp d a b w) : InM (d : Rat) := by
  obtain ⟨d0, d1, a0, a1, b0, b1, w0, w1, hr⟩ := p
  exact inm_int (by omega) (by omega)
theorem div_pos {n m : Int} (hn : 0 < n) (hm : 0 < m) : (0 : Rat) < (n : Rat) / (m : Rat) := by
  have h1 : (0 : Rat) < (n : Rat) := by exact_mod_cast hn
  have h2 : (0 : Rat) < (m : Rat) := by exact_mod_cast hm
  rw [Rat.div_def]
  exact Rat.mul_pos h1 (Rat.inv_pos.2 h2)
theorem Wp.rest (p : Wp d a b w) : (RS d a b w ≠ 0 ↔ 0 < 2 * (d * a * b) - w * w * a - w * w * b) ∧ (RS d a b w ≠ 0 → 0 < RS d a b w / (w : Rat)) := by
  have q := p.bd
  have q4 := q.abw; have q5 := q.room; have q6 := q.ab
  rw [p.qRW, p.qRS]
  by_cases h : 0 < 2 * (d * a * b) - w * w * a - w * w * b
  · have h1 := div_pos h (show (0 : Int) < 2 * (a * b) by omega)
    exact ⟨⟨fun _ => h, fun _ h0 => by rw [h0] at h1; exact absurd h1 (by decide)⟩, fun _ => div_pos h (by omega)⟩
  · have h0 : 2 * (d * a * b) - w * w * a - w * w * b = 0 := by omega
    rw [h0]
    have e : ((0 : Int) : Rat) / ((2 * (a * b) : Int) : Rat) = 0 := by rw [Rat.div_def]; simp
    exact ⟨⟨fun hn => absurd e hn, fun hn => absurd hn (by omega)⟩, fun hn => absurd e hn⟩
end

/-! The curve. -/
abbrev RP : Type := Rat × Rat × Rat × Rat
abbrev pz (r : RP) : Piece3 := (fr r.1, fr r.2.1, fr r.2.2.1, fr r.2.2.2)
def cvR (d a b w : Int) : List RP := [((0 : Rat), (0 : Rat), (0 : Rat), (a : Rat) / ((2 : Int) : Rat))] ++ (if RS d a b w ≠ 0 then [(T1 a w, X1 a w, (w : Rat), (0 : Rat))] else []) ++
  [(T2 d a b w, X2 d b w, (w : Rat), ((-b : Int) : Rat) / ((2 : Int) : Rat)), (T3 d a b w, (d : Rat), (0 : Rat), (0 : Rat))]
theorem isi_of {n : Int} (h0 : -1000000000000000000 ≤ n) (h1 : n ≤ 1000000000000000000) : IsI n := ⟨by omega, by omega⟩
theorem cvj2_p {d : Int} {m : Move} {w : Int} (p : Wp d m.2.2.2.1 m.2.2.2.2 w) {out : List Piece3} (ho : out.length ≤ 100) {K : List Piece3 → Int → Prop}
    (h : K (out ++ [pz (T2 d m.2.2.2.1 m.2.2.2.2 w, X2 d m.2.2.2.2 w, (w : Rat), ((-m.2.2.2.2 : Int) : Rat) / ((2 : Int) : Rat)), pz (T3 d m.2.2.2.1 m.2.2.2.2 w, (d : Rat), (0 : Rat), (0 : Rat))]) 0) :
    profile_Curve_j2 d w out m (0, 1) 0 (fr (Xb m.2.2.2.2 w)) (fr (T2 d m.2.2.2.1 m.2.2.2.2 w)) (fr (T3 d m.2.2.2.1 m.2.2.2.2 w)) K := by
  unfold profile_Curve_j2 profile_Curve_2
  rw [← fr_int d]
  refine sub_ok p.id p.iXb ?_
  rw [show (d : Rat) - Xb m.2.2.2.2 w = X2 d m.2.2.2.2 w from rfl, res_in p.iX2]
  refine curve1_ok ?_
  have b0 := p.b0; have b1 := p.b1
  rw [wI_id (x := 0 - m.2.2.2.2) (by omega) (by omega), Int.zero_sub]
  refine curve3_ok (isi_of (by omega) (by omega)) (isi_of (by omega) (by omega)) (by omega) p.iB ⟨?_, ?_⟩
  · show (out.length : Int) + ((2 : Nat) : Int) ≤ most
    unfold most; omega
  · rw [if_neg (by simp), ← fr_int w, ← fr_zero]
    exact h
theorem pgiven_ok {d : Int} {m : Move} (hm : MoveOk m) (hs : m.1.size ≤ maxLen) (h0 : 0 ≤ d) (h1 : d ≤ 1048576) {K : Int → Prop} (h : K 0) : profile_given d m K := by
  unfold profile_given
  refine ans_use (move_p m hs) (fun _ => ?_) (fun hn => absurd hm hn)
  rw [if_neg (by simp)]
  refine ans_use (within_p d 0 1048576) (fun _ => ?_) (fun hn => absurd ⟨h0, h1⟩ hn)
  rw [if_neg (by simp)]
  exact h
theorem curve_p' {d : Int} {m : Move} {w : Int} (hm : MoveOk m) (hs : m.1.size ≤ maxLen) (p : Wp d m.2.2.2.1 m.2.2.2.2 w) (htop : ∀ K : Int → Prop, K w → profile_top d m K) {K : List Piece3 × Int → Prop} (h : K ((cvR d m.2.2.2.1 m.2.2.2.2 w).map pz, 0)) : profile_Curve d m K := by
  have d0 := p.d0; have d1 := p.d1; have a0 := p.a0; have a1 := p.a1; have b0 := p.b0; have b1 := p.b1; have w0 := p.w0; have w1 := p.w1
  have q1 := p.bd.ww
  unfold profile_Curve
  refine pgiven_ok hm hs (by omega) d1 ?_
  rw [if_neg (by simp), if_neg (by simp; omega)]
  refine htop _ ?_
  rw [wI_id (x := w * w) (by omega) (by omega), wI_id (x := 2 * m.2.2.2.1) (by omega) (by omega), wI_id (x := 2 * m.2.2.2.2) (by omega) (by omega)]
  refine curve3_ok (isi_of (by omega) (by omega)) (isi_of (by omega) (by omega)) (by omega) p.iX1 ?_
  refine curve3_ok (isi_of (by omega) (by omega)) (isi_of (by omega) (by omega)) (by omega) p.iXb ?_
  refine curve3_ok (isi_of (by omega) (by omega)) (isi_of (by omega) (by omega)) (by omega) p.iT1 ?_
  unfold profile_Curve_2
  rw [← fr_int d]
  refine sub_ok p.id p.iX1 ?_
  rw [res_in p.iD1]
  refine curve1_ok ?_
  refine sub_ok p.iD1 p.iXb ?_
  rw [show (d : Rat) - X1 m.2.2.2.1 w - Xb m.2.2.2.2 w = RS d m.2.2.2.1 m.2.2.2.2 w from rfl, res_in p.iRS]
  refine curve1_ok ?_
  dsimp only
  rw [← fr_int w]
  refine div_ok p.iRS p.iw p.ne.2.2 ?_
  rw [res_in p.iRW]
  refine curve1_ok ?_
  refine add_ok p.iT1 p.iRW ?_
  rw [show T1 m.2.2.2.1 w + RS d m.2.2.2.1 m.2.2.2.2 w / (w : Rat) = T2 d m.2.2.2.1 m.2.2.2.2 w from rfl, res_in p.iT2]
  refine curve1_ok ?_
  refine curve3_ok (isi_of (by omega) (by omega)) (isi_of (by omega) (by omega)) (by omega) p.iWb ?_
  refine add_ok p.iT2 p.iWb ?_
  rw [show T2 d m.2.2.2.1 m.2.2.2.2 w + (w : Rat) / (m.2.2.2.2 : Rat) = T3 d m.2.2.2.1 m.2.2.2.2 w from rfl, res_in p.iT3]
  refine curve1_ok ?_
  refine curve3_ok (isi_of (by omega) (by omega)) (isi_of (by omega) (by omega)) (by omega) p.iA ?_
  by_cases hr : RS d m.2.2.2.1 m.2.2.2.2 w ≠ 0
  · rw [if_pos (by simp only [bne_iff_ne, ne_eq]; exact num_ne hr)]
    refine ⟨by show (1 : Int) + 1 ≤ most; unfold most; omega, ?_⟩
    refine cvj2_p p (by simp) ?_
    unfold cvR at h
    rw [if_pos hr] at h
    rw [← fr_zero]
    exact h
  · rw [if_neg (by simp only [bne_iff_ne, ne_eq, Classical.not_not]; rw [Classical.not_not.1 hr]; rfl)]
    refine cvj2_p p (by simp) ?_
    unfold cvR at h
    rw [if_neg hr] at h
    rw [← fr_zero]
    exact h
end Go.Proofs.YtieeiiibamkbmaaGreat.Am
namespace Go.Proofs.YtieeiiibamkbmaaGreat.Am
open Go
set_option linter.unusedVariables false
set_option linter.unusedSimpArgs false
set_option maxRecDepth 4000

section
variable {d a b w : Int}
theorem Wp.ints (p : Wp d a b w) : wI64 (wI64 (wI64 (2 * a) * b) * d) = 2 * (d * a * b) ∧ wI64 (wI64 (w * w) * wI64 (a + b)) = w * w * a + w * w * b ∧ wI64 (wI64 (wI64 (2 * a) * b) * w) = 2 * (a * b * w) ∧ wI64 (wI64 (wI64 (2 * b) * w) * w) = 2 * (w * w * b) ∧
    wI64 (w * w) = w * w ∧ wI64 (2 * a) = 2 * a ∧ wI64 (2 * b) = 2 * b ∧ wI64 (wI64 (2 * b) * d) = 2 * (d * b) := by
  have q := p.bd
  have q1 := q.ww; have q2 := q.wwa; have q3 := q.wwb; have q4 := q.dab; have q5 := q.abw; have q6 := q.ab; have q7 := q.db
  obtain ⟨d0, d1, a0, a1, b0, b1, w0, w1, hr⟩ := p
  have m := mulb (a := b) (b := w) (M := 16384) (N := 8192) (by omega) b1 (by omega) w1
  have e1 : 2 * a * b = 2 * (a * b) := Int.mul_assoc _ _ _
  have e2 : 2 * (a * b) * d = 2 * (d * a * b) := by grind
  have e3 : w * w * (a + b) = w * w * a + w * w * b := Int.mul_add _ _ _
  have e4 : 2 * (a * b) * w = 2 * (a * b * w) := Int.mul_assoc _ _ _
  have e5 : 2 * b * w = 2 * (b * w) := Int.mul_assoc _ _ _
  have e6 : 2 * (b * w) * w = 2 * (w * w * b) := by grind
  have e7 : 2 * b * d = 2 * (d * b) := by grind
  have i1 := wI_id (x := 2 * a) (by omega) (by omega)
  have i2 := wI_id (x := 2 * (a * b)) (by omega) (by omega)
  have i3 := wI_id (x := 2 * (d * a * b)) (by omega) (by omega)
  have i4 := wI_id (x := w * w) (by omega) (by omega)
  have i5 := wI_id (x := a + b) (by omega) (by omega)
  have i6 := wI_id (x := w * w * a + w * w * b) (by omega) (by omega)
  have i7 := wI_id (x := 2 * (a * b * w)) (by omega) (by omega)
  have i8 := wI_id (x := 2 * b) (by omega) (by omega)
  have i9 := wI_id (x := 2 * (b * w)) (by omega) (by omega)
  have i10 := wI_id (x := 2 * (w * w * b)) (by omega) (by omega)
  have i11 := wI_id (x := 2 * (d * b)) (by omega) (by omega)
  rw [i1, e1, i2, e2, i3, i4, i5, e3, i6, e4, i7, i8, e5, i9, e6, i10, e7, i11]
  exact ⟨rfl, rfl, rfl, rfl, rfl, rfl, rfl, rfl⟩
end
theorem rtime_ok {d : Int} {m : Move} {w : Int} (p : Wp d m.2.2.2.1 m.2.2.2.2 w) (htop : ∀ K : Int → Prop, K w → ref34_Top d m K) {K : Frac → Prop} (h : K (fr (T3 d m.2.2.2.1 m.2.2.2.2 w))) : ref34_Time d m K := by
  unfold ref34_Time
  have d0 := p.d0
  rw [if_neg (by simp; omega)]
  refine htop _ ?_
  obtain ⟨i1, i2, i3, i4, i5, i6, i7, i8⟩ := p.ints
  have q := p.bd
  have q2 := q.wwa; have q3 := q.wwb; have q4 := q.dab; have q5 := q.abw
  rw [i1, i2, i3, wI_id (x := 2 * (d * m.2.2.2.1 * m.2.2.2.2) + (w * w * m.2.2.2.1 + w * w * m.2.2.2.2)) (by omega) (by omega), ← Int.add_assoc]
  refine frac_ok (isi_of (by omega) (by omega)) (isi_of (by omega) (by omega)) (by omega) (by rw [← p.qT3]; exact p.iT3) ?_
  rw [← p.qT3]
  exact h
theorem rj2_ok {d : Int} {m : Move} {w : Int} (p : Wp d m.2.2.2.1 m.2.2.2.2 w) {out : List Piece3} {last : Piece3} {sp e : Frac} (ho : out.length ≤ 100) {K : List Piece3 → Prop}
    (h : K ((out ++ [(e, fr (X2 d m.2.2.2.2 w), sp, fr (((-m.2.2.2.2 : Int) : Rat) / ((2 : Int) : Rat)))]) ++ [last])) : ref34_Curve_j2 d w out m last sp e K := by
  unfold ref34_Curve_j2
  obtain ⟨i1, i2, i3, i4, i5, i6, i7, i8⟩ := p.ints
  have q := p.bd
  have q1 := q.ww; have q2 := q.db
  have b0 := p.b0; have b1 := p.b1
  rw [i8, i5, i7, wI_id (x := 2 * (d * m.2.2.2.2) - w * w) (by omega) (by omega), wI_id (x := 0 - m.2.2.2.2) (by omega) (by omega), Int.zero_sub]
  refine frac_ok (isi_of (by omega) (by omega)) (isi_of (by omega) (by omega)) (by omega) (by rw [← p.qX2]; exact p.iX2) ?_
  rw [← p.qX2]
  refine frac_ok (isi_of (by omega) (by omega)) (isi_of (by omega) (by omega)) (by omega) p.iB ⟨?_, ?_, h⟩
  · show (out.length : Int) + ((1 : Nat) : Int) ≤ most
    unfold most; omega
  · simp only [len, List.length_append, List.length_cons, List.length_nil]
    unfold most; omega
theorem curve_r' {d : Int} {m : Move} {w : Int} (p : Wp d m.2.2.2.1 m.2.2.2.2 w) (htop : ∀ K : Int → Prop, K w → ref34_Top d m K) {K : List Piece3 → Prop} (h : K ((cvR d m.2.2.2.1 m.2.2.2.2 w).map pz)) : ref34_Curve d m K := by
  have d0 := p.d0; have d1 := p.d1; have a0 := p.a0; have a1 := p.a1; have b0 := p.b0; have b1 := p.b1; have w0 := p.w0; have w1 := p.w1
  obtain ⟨i1, i2, i3, i4, i5, i6, i7, i8⟩ := p.ints
  have q := p.bd
  have q1 := q.ww; have q2 := q.wwa; have q3 := q.wwb; have q4 := q.dab; have q5 := q.abw; have q6 := q.room
  unfold ref34_Curve ref02_Of
  dsimp only
  rw [if_neg (by simp; omega)]
  refine rtime_ok p htop (htop _ ?_)
  refine frac_ok (isi_of (by omega) (by omega)) (isi_of (by omega) (by omega)) (by omega) p.iA ?_
  refine frac_ok (isi_of (by omega) (by omega)) (isi_of (by omega) (by omega)) (by omega) p.iT1 ?_
  rw [i1, i2, i3, i4, i5, i6, ← Int.sub_sub, wI_id (x := 2 * (d * m.2.2.2.1 * m.2.2.2.2) - w * w * m.2.2.2.1 - w * w * m.2.2.2.2) (by omega) (by omega), wI_id (x := 2 * (w * w * m.2.2.2.2) + (2 * (d * m.2.2.2.1 * m.2.2.2.2) - w * w * m.2.2.2.1 - w * w * m.2.2.2.2)) (by omega) (by omega)]
  refine frac_ok (isi_of (by omega) (by omega)) (isi_of (by omega) (by omega)) (by omega) (by rw [← p.qT2]; exact p.iT2) ?_
  rw [← p.qT2]
  by_cases hr : 0 < 2 * (d * m.2.2.2.1 * m.2.2.2.2) - w * w * m.2.2.2.1 - w * w * m.2.2.2.2
  · rw [if_pos (by simpa using hr)]
    refine frac_ok (isi_of (by omega) (by omega)) (isi_of (by omega) (by omega)) (by omega) p.iX1 ⟨by show (1 : Int) + 1 ≤ most; unfold most; omega, ?_⟩
    refine rj2_ok p (by simp) ?_
    unfold cvR at h
    rw [if_pos (p.rest.1.2 hr)] at h
    rw [← fr_zero, ← fr_int w, ← fr_int d]
    exact h
  · rw [if_neg (by simpa using hr)]
    refine rj2_ok p (by simp) ?_
    unfold cvR at h
    rw [if_neg (fun hh => hr (p.rest.1.1 hh))] at h
    rw [← fr_zero, ← fr_int w, ← fr_int d]
    exact h

/-! The curve of a move. -/
open Classical in
noncomputable def topw (d : Int) (m : Move) : Int := if h : Pf d m.2.2.2.1 m.2.2.2.2 m.2.2.1 then Classical.choose (top_p h) else 0
theorem topw_p {d : Int} {m : Move} (h : Pf d m.2.2.2.1 m.2.2.2.2 m.2.2.1) : TopIs d m.2.2.2.1 m.2.2.2.2 m.2.2.1 (topw d m) ∧ ∀ K : Int → Prop, K (topw d m) → profile_top d m K := by
  unfold topw
  rw [dif_pos h]
  exact Classical.choose_spec (top_p h)
theorem topw_r {d : Int} {m : Move} (h : Pf d m.2.2.2.1 m.2.2.2.2 m.2.2.1) : ∀ K : Int → Prop, K (topw d m) → ref34_Top d m K := by
  obtain ⟨w, hw, hk⟩ := top_r h
  rw [top_one (topw_p h).1 hw]
  exact hk
noncomputable def cvL (d : Int) (m : Move) : List RP := if d = 0 then [((0 : Rat), (0 : Rat), (0 : Rat), (0 : Rat))] else cvR d m.2.2.2.1 m.2.2.2.2 (topw d m)
noncomputable def cvT (d : Int) (m : Move) : Rat := if d = 0 then 0 else T3 d m.2.2.2.1 m.2.2.2.2 (topw d m)
section
variable {d : Int} {m : Move}
theorem wp_top (hm : MoveOk m) (h0 : 0 ≤ d) (h1 : d ≤ 1048576) (hd : d ≠ 0) : Pf d m.2.2.2.1 m.2.2.2.2 m.2.2.1 ∧ Wp d m.2.2.2.1 m.2.2.2.2 (topw d m) := by
  have p := pf_of hm (show 0 < d by omega) h1
  exact ⟨p, wp_of p (topw_p p).1⟩
theorem curve_p (hm : MoveOk m) (hs : m.1.size ≤ maxLen) (h0 : 0 ≤ d) (h1 : d ≤ 1048576) {K : List Piece3 × Int → Prop} (h : K ((cvL d m).map pz, 0)) : profile_Curve d m K := by
  unfold cvL at h
  by_cases hd : d = 0
  · rw [if_pos hd] at h
    unfold profile_Curve
    refine pgiven_ok hm hs (by omega) h1 ?_
    rw [if_neg (by simp), if_pos (by simp [hd])]
    simp only [List.map_cons, List.map_nil, pz, fr_zero] at h
    exact h
  · rw [if_neg hd] at h
    obtain ⟨p, q⟩ := wp_top hm h0 h1 hd
    exact curve_p' hm hs q (topw_p p).2 h
theorem curve_r (hm : MoveOk m) (h0 : 0 ≤ d) (h1 : d ≤ 1048576) {K : List Piece3 → Prop} (h : K ((cvL d m).map pz)) : ref34_Curve d m K := by
  unfold cvL at h
  by_cases hd : d = 0
  · rw [if_pos hd] at h
    unfold ref34_Curve ref02_Of
    dsimp only
    rw [if_pos (by simp [hd])]
    simp only [List.map_cons, List.map_nil, pz, fr_zero] at h
    exact h
  · rw [if_neg hd] at h
    obtain ⟨p, q⟩ := wp_top hm h0 h1 hd
    exact curve_r' q (topw_r p) h
theorem time_r (hm : MoveOk m) (h0 : 0 ≤ d) (h1 : d ≤ 1048576) {K : Frac → Prop} (h : K (fr (cvT d m))) : ref34_Time d m K := by
  unfold cvT at h
  by_cases hd : d = 0
  · rw [if_pos hd] at h
    unfold ref34_Time ref02_Of
    rw [if_pos (by simp [hd])]
    rw [fr_zero] at h
    exact h
  · rw [if_neg hd] at h
    obtain ⟨p, q⟩ := wp_top hm h0 h1 hd
    exact rtime_ok q (topw_r p) h
/-- What a curve is. -/
structure Good (L : List RP) : Prop where
  pos : 1 ≤ L.length
  few : L.length ≤ 4
  inm : ∀ r ∈ L, InM r.1 ∧ InM r.2.1 ∧ InM r.2.2.1 ∧ InM r.2.2.2
  inc : L.Pairwise (fun r s => r.1 < s.1)
theorem t_pos {a b w : Int} (p : Wp d a b w) : 0 < T1 a w ∧ (RS d a b w ≠ 0 → T1 a w < T2 d a b w) ∧ 0 < T2 d a b w ∧ T2 d a b w < T3 d a b w := by
  have w0 := p.w0; have a0 := p.a0; have b0 := p.b0
  have h1 : 0 < T1 a w := div_pos (by omega) (by omega)
  have h2 : RS d a b w ≠ 0 → T1 a w < T2 d a b w := fun hr => by
    have := p.rest.2 hr
    unfold T2
    grind
  refine ⟨h1, h2, ?_, ?_⟩
  · by_cases hr : RS d a b w ≠ 0
    · have := h2 hr; grind
    · have : RS d a b w = 0 := Classical.not_not.1 hr
      unfold T2
      rw [this]
      grind
  · have : (0 : Rat) < (w : Rat) / (b : Rat) := div_pos (by omega) (by omega)
    unfold T3
    grind
theorem cv_good (hm : MoveOk m) (h0 : 0 ≤ d) (h1 : d ≤ 1048576) : Good (cvL d m) := by
  unfold cvL
  by_cases hd : d = 0
  · rw [if_pos hd]
    exact ⟨by simp, by simp, by simp [inm_zero], by simp⟩
  · rw [if_neg hd]
    obtain ⟨-, p⟩ := wp_top hm h0 h1 hd
    generalize topw d m = w at *
    obtain ⟨g1, g2, g3, g4⟩ := t_pos p
    unfold cvR
    by_cases hr : RS d m.2.2.2.1 m.2.2.2.2 w ≠ 0
    · rw [if_pos hr]
      have g5 := g2 hr
      refine ⟨by simp, by simp, ?_, ?_⟩
      · intro r hr'
        simp only [List.cons_append, List.nil_append, List.mem_cons, List.not_mem_nil, or_false] at hr'
        rcases hr' with rfl | rfl | rfl | rfl
        · exact ⟨inm_zero, inm_zero, inm_zero, p.iA⟩
        · exact ⟨p.iT1, p.iX1, p.iw, inm_zero⟩
        · exact ⟨p.iT2, p.iX2, p.iw, p.iB⟩
        · exact ⟨p.iT3, p.id, inm_zero, inm_zero⟩
      · simp only [List.cons_append, List.nil_append, List.pairwise_cons, List.mem_cons, List.not_mem_nil, or_false, forall_eq_or_imp, forall_eq, List.Pairwise.nil, and_true, false_implies, implies_true]
        refine ⟨⟨g1, g3, by grind⟩, ⟨g5, by grind⟩, g4⟩
    · rw [if_neg hr]
      refine ⟨by simp, by simp, ?_, ?_⟩
      · intro r hr'
        simp only [List.cons_append, List.nil_append, List.append_nil, List.mem_cons, List.not_mem_nil, or_false] at hr'
        rcases hr' with rfl | rfl | rfl
        · exact ⟨inm_zero, inm_zero, inm_zero, p.iA⟩
        · exact ⟨p.iT2, p.iX2, p.iw, p.iB⟩
        · exact ⟨p.iT3, p.id, inm_zero, inm_zero⟩
      · simp only [List.cons_append, List.nil_append, List.append_nil, List.pairwise_cons, List.mem_cons, List.not_mem_nil, or_false, forall_eq_or_imp, forall_eq, List.Pairwise.nil, and_true, false_implies, implies_true]
        refine ⟨⟨g3, by grind⟩, g4⟩
/-- The curve's last time. -/
theorem cv_last (d : Int) (m : Move) : ∃ (l : List RP) (x v c : Rat), cvL d m = l ++ [(cvT d m, x, v, c)] := by
  unfold cvL cvT
  by_cases hd : d = 0
  · rw [if_pos hd, if_pos hd]; exact ⟨[], 0, 0, 0, rfl⟩
  · rw [if_neg hd, if_neg hd]
    unfold cvR
    exact ⟨_, _, _, _, by rw [show ∀ (l : List RP) (x y : RP), l ++ [x, y] = (l ++ [x]) ++ [y] from fun l x y => by simp]⟩
end
end Go.Proofs.YtieeiiibamkbmaaGreat.Am
namespace Go.Proofs.YtieeiiibamkbmaaGreat.Am
open Go
set_option linter.unusedVariables false
set_option linter.unusedSimpArgs false
set_option maxRecDepth 4000

theorem getD_map {α β : Type} (f : α → β) (l : List α) (i : Nat) (x : α) (y : β) (h : i < l.length) : (l.map f).getD i y = f (l.getD i x) := by
  simp [List.getD_eq_getElem?_getD, List.getElem?_eq_getElem h]
theorem take_snoc {α : Type} (l : List α) (i : Nat) (x : α) (h : i < l.length) : l.take (i + 1) = l.take i ++ [l.getD i x] := by
  rw [List.take_add_one, List.getElem?_eq_getElem h, List.getD_eq_getElem?_getD, List.getElem?_eq_getElem h]
  rfl
theorem go_all {L : Nat → Int → Prop} {n : Int} {k0 : Prop} (hn : 0 ≤ n) (hend : k0 → L 1 n) (hstep : ∀ i m, 0 ≤ i → i < n → L m (i + 1) → L (m + 1) i) (hk : k0) : ∃ m, L m 0 :=
  all_loopE (Q := fun _ => True) (no := False) (k0 := k0) hn (fun _ h => hend h) (fun i m h0 h1 _ h _ => hstep i m h0 h1 (h trivial)) (fun _ => hk) (fun h => h (fun _ _ _ => trivial))

/-! The time. -/
theorem knots_ok (L : List Piece3) (hl : L.length ≤ 1000) {K : List Frac → Prop} (h : K (L.map (fun p => p.1))) : profile_Knots_l2 [] L (len L) 0 K := by
  unfold profile_Knots_l2
  refine go_all (L := fun m i => profile_Knots_l2N K m ((L.take i.toNat).map (fun p => p.1)) L (len L) i) (n := len L) (k0 := K (L.map (fun p => p.1))) (by show (0 : Int) ≤ (L.length : Int); omega) ?_ ?_ h
  · intro hk
    unfold profile_Knots_l2N
    rw [if_neg (by simp only [decide_eq_true_eq]; omega)]
    rw [show (len L).toNat = L.length from Int.toNat_natCast _, List.take_length]
    exact hk
  · intro i m h0 h1 hm
    have h1' : i < (L.length : Int) := h1
    unfold profile_Knots_l2N
    rw [if_pos (by simpa using h1)]
    refine ⟨⟨h0, h1⟩, ?_, ?_⟩
    · simp only [len, List.length_map, List.length_take, List.length_cons, List.length_nil]
      unfold most; omega
    · rw [wI_id (x := i + 1) (by omega) (by omega)]
      rw [show (i + 1).toNat = i.toNat + 1 by omega, take_snoc L i.toNat (Ty.zero tPiece3) (by omega), List.map_append] at hm
      exact hm
section
variable {d : Int} {m : Move}
theorem cv_len (hm : MoveOk m) (h0 : 0 ≤ d) (h1 : d ≤ 1048576) : ((cvL d m).map pz).length ≤ 4 := by
  rw [List.length_map]; exact (cv_good hm h0 h1).few
theorem time_p (hm : MoveOk m) (hs : m.1.size ≤ maxLen) (h0 : 0 ≤ d) (h1 : d ≤ 1048576) {K : Frac × Int → Prop} (h : K (fr (cvT d m), 0)) : profile_Time d m K := by
  unfold profile_Time profile_Knots
  refine curve_p hm hs h0 h1 ?_
  rw [if_neg (by simp)]
  have hl := cv_len hm h0 h1
  refine knots_ok ((cvL d m).map pz) (by omega) ?_
  dsimp only
  rw [if_neg (by simp)]
  obtain ⟨l, x, v, c, e⟩ := cv_last d m
  rw [e] at hl ⊢
  simp only [List.map_append, List.map_cons, List.map_nil, List.length_append, List.length_map, List.length_cons, List.length_nil] at hl ⊢
  generalize hq : l.map (fun x => (pz x).1) = q
  have hql : q.length = l.length := by rw [← hq, List.length_map]
  have e1 : (List.map (fun p : Piece3 => p.1) (List.map pz l)) = q := by rw [List.map_map]; exact hq
  rw [e1]
  have e2 : len (q ++ [(pz (cvT d m, x, v, c)).1]) = (q.length : Int) + 1 := by simp [len]
  rw [e2, wI_id (by omega) (by omega)]
  refine ⟨by omega, ?_⟩
  have e3 : atFrac (q ++ [(pz (cvT d m, x, v, c)).1]) ((q.length : Int) + 1 - 1) = fr (cvT d m) := by
    unfold atFrac
    rw [show ((q.length : Int) + 1 - 1).toNat = q.length by omega]
    simp [List.getD_eq_getElem?_getD]
  rw [e3]
  exact h
end

/-! The path. -/
theorem neg_fr {q : Rat} (h : InM q) : (wI64 (0 - (fr q).1), (fr q).2) = fr (-q) := by
  have hq1 := h.1
  rw [fr_neg]
  show (wI64 (0 - q.num), (q.den : Int)) = _
  rw [wI_id (x := 0 - q.num) (by omega) (by omega), Int.zero_sub]
/-- A place that may be added to a height. -/
def Small (x : Rat) : Prop := ∃ n e : Int, x = (n : Rat) / (e : Rat) ∧ (1 ≤ e ∧ e ≤ 65536) ∧ (-100000000000 ≤ n ∧ n ≤ 100000000000)
theorem small_add {x : Rat} (h : Small x) {t : Int} (h0 : 0 ≤ t) (h1 : t ≤ 1048576) : InM ((t : Rat) + x) ∧ InM ((t : Rat) - x) := by
  obtain ⟨n, e, rfl, ⟨e0, e1⟩, n0, n1⟩ := h
  have he := cast_ne (show e ≠ 0 by omega)
  have m := mulb (a := t) (b := e) (M := 1048576) (N := 65536) h0 h1 (by omega) e1
  constructor
  · have : (t : Rat) + (n : Rat) / (e : Rat) = ((t * e + n : Int) : Rat) / (e : Rat) := by
      push_cast
      generalize (t : Rat) = T at *
      generalize (e : Rat) = E at *
      generalize (n : Rat) = N at *
      grind
    rw [this]
    exact InM_of _ _ (by omega) (by omega) (by omega)
  · have : (t : Rat) - (n : Rat) / (e : Rat) = ((t * e - n : Int) : Rat) / (e : Rat) := by
      push_cast
      generalize (t : Rat) = T at *
      generalize (e : Rat) = E at *
      generalize (n : Rat) = N at *
      grind
    rw [this]
    exact InM_of _ _ (by omega) (by omega) (by omega)
theorem small_int {n : Int} (h0 : 0 ≤ n) (h1 : n ≤ 1048576) : Small (n : Rat) := by
  refine ⟨n, 1, ?_, by omega, by omega⟩
  have e : ((1 : Int) : Rat) = 1 := rfl
  rw [e]
  grind
theorem cv_small {d : Int} {m : Move} (hm : MoveOk m) (h0 : 0 ≤ d) (h1 : d ≤ 1048576) : ∀ r ∈ cvL d m, Small r.2.1 := by
  intro r hr
  have z : Small 0 := small_int (n := 0) (by omega) (by omega)
  unfold cvL at hr
  by_cases hd : d = 0
  · rw [if_pos hd] at hr
    rw [List.mem_singleton] at hr
    subst hr
    exact z
  · rw [if_neg hd] at hr
    obtain ⟨-, p⟩ := wp_top hm h0 h1 hd
    generalize topw d m = w at *
    have q := p.bd
    have q1 := q.ww; have q2 := q.db
    have a0 := p.a0; have a1 := p.a1; have b0 := p.b0; have b1 := p.b1
    have s1 : Small (X1 m.2.2.2.1 w) := ⟨_, _, rfl, by omega, by omega⟩
    have s2 : Small (X2 d m.2.2.2.2 w) := ⟨_, _, p.qX2, by omega, by omega⟩
    unfold cvR at hr
    by_cases hrs : RS d m.2.2.2.1 m.2.2.2.2 w ≠ 0
    · rw [if_pos hrs] at hr
      simp only [List.cons_append, List.nil_append, List.mem_cons, List.not_mem_nil, or_false] at hr
      rcases hr with rfl | rfl | rfl | rfl
      · exact z
      · exact s1
      · exact s2
      · exact small_int h0 h1
    · rw [if_neg hrs] at hr
      simp only [List.cons_append, List.nil_append, List.append_nil, List.mem_cons, List.not_mem_nil, or_false] at hr
      rcases hr with rfl | rfl | rfl
      · exact z
      · exact s2
      · exact small_int h0 h1
def fD (t : Int) (r : RP) : RP := (r.1, (t : Rat) - r.2.1, -r.2.2.1, -r.2.2.2)
def fU (t : Int) (r : RP) : RP := (r.1, (t : Rat) + r.2.1, r.2.2.1, r.2.2.2)
theorem down_ok {t : Int} (h0 : 0 ≤ t) (h1 : t ≤ 1048576) {r : RP} (hi : InM r.1 ∧ InM r.2.1 ∧ InM r.2.2.1 ∧ InM r.2.2.2) (hs : Small r.2.1) {K : Piece3 × Int → Prop} (h : K (pz (fD t r), 0)) : move_way_down t (pz r) K := by
  unfold move_way_down move_of
  show ratio_Sub (t, 1) (fr r.2.1) _
  rw [← fr_int t]
  refine sub_ok (inm_int (by omega) (by omega)) hi.2.1 ?_
  rw [res_in (small_add hs h0 h1).2]
  show K ((fr r.1, fr ((t : Rat) - r.2.1), (wI64 (0 - (fr r.2.2.1).1), (fr r.2.2.1).2), (wI64 (0 - (fr r.2.2.2).1), (fr r.2.2.2).2)), 0)
  rw [neg_fr hi.2.2.1, neg_fr hi.2.2.2]
  exact h
theorem up_ok {t : Int} (h0 : 0 ≤ t) (h1 : t ≤ 1048576) {r : RP} (hi : InM r.1 ∧ InM r.2.1 ∧ InM r.2.2.1 ∧ InM r.2.2.2) (hs : Small r.2.1) {K : Piece3 × Int → Prop} (h : K (pz (fU t r), 0)) : move_way_up t (pz r) K := by
  unfold move_way_up move_of
  show ratio_Add (t, 1) (fr r.2.1) _
  rw [← fr_int t]
  refine add_ok (inm_int (by omega) (by omega)) hi.2.1 ?_
  rw [res_in (small_add hs h0 h1).1]
  exact h
/-- A list that is written from its start. -/
def half (f : RP → RP) (L : List RP) (i : Nat) : List Piece3 := (L.take i).map (fun r => pz (f r)) ++ List.replicate (L.length - i) zPiece3
theorem half_len (f : RP → RP) (L : List RP) (i : Nat) (h : i ≤ L.length) : (half f L i).length = L.length := by
  unfold half
  rw [List.length_append, List.length_map, List.length_take, List.length_replicate]
  omega
theorem half_zero (f : RP → RP) (L : List RP) : half f L 0 = List.replicate L.length zPiece3 := by simp [half]
theorem half_all (f : RP → RP) (L : List RP) : half f L L.length = L.map (fun r => pz (f r)) := by simp [half]
theorem half_set (f : RP → RP) (L : List RP) (i : Nat) (x : RP) (h : i < L.length) : List.set (half f L i) i (pz (f (L.getD i x))) = half f L (i + 1) := by
  unfold half
  rw [take_snoc L i x h, show L.length - i = (L.length - (i + 1)) + 1 by omega, List.replicate_succ]
  have hl : ((L.take i).map (fun r => pz (f r))).length = i := by rw [List.length_map, List.length_take]; omega
  rw [List.set_append_right _ _ (by omega), hl]
  simp
theorem at_pz (L : List RP) (i : Int) (x : RP) (h0 : 0 ≤ i) (h1 : i < (L.length : Int)) : atPiece3 (L.map pz) i = pz (L.getD i.toNat x) := by
  unfold atPiece3
  exact getD_map pz L i.toNat x _ (by omega)
theorem path_down {t : Int} (h0 : 0 ≤ t) (h1 : t ≤ 1048576) {L : List RP} (hl : L.length ≤ 1000) (hi : ∀ r ∈ L, (InM r.1 ∧ InM r.2.1 ∧ InM r.2.2.1 ∧ InM r.2.2.2) ∧ Small r.2.1) {kr : List Piece3 → Int → Prop}
    (h : kr (L.map (fun r => pz (fD t r))) 0) : move_Path_j2 (L.map pz) t kr := by
  have hle : len (L.map pz) = (L.length : Int) := by simp [len]
  unfold move_Path_j2 move_Path_j3
  refine ⟨⟨by rw [hle]; omega, by rw [hle]; unfold most; omega⟩, ?_⟩
  unfold move_Path_j4 move_Path_j5 move_Path_j6 move_Path_j7 move_Path_j8 move_Path_l9
  rw [hle, show ((L.length : Int)).toNat = L.length from Int.toNat_natCast _, ← half_zero (fD t) L]
  refine go_all (L := fun m i => move_Path_l9N (fun out_13 => kr out_13 0) kr m (L.map pz) t (half (fD t) L i.toNat) (L.length : Int) i) (n := (L.length : Int)) (k0 := kr (L.map (fun r => pz (fD t r))) 0) (by omega) ?_ ?_ h
  · intro hk
    unfold move_Path_l9N move_Path_j10 move_Path_j11 move_Path_j12
    rw [if_neg (by simp)]
    rw [show ((L.length : Int)).toNat = L.length from Int.toNat_natCast _, half_all]
    exact hk
  · intro i m g0 g1 hm
    have hmem : L.getD i.toNat (0, 0, 0, 0) ∈ L := mem_getD g0 g1
    obtain ⟨hin, hsm⟩ := hi _ hmem
    unfold move_Path_l9N move_Path_j10 move_Path_j11 move_Path_j12
    rw [if_pos (by simpa using g1)]
    unfold move_Path_j13 move_Path_j14 move_Path_j15 move_Path_j16 move_Path_j17 move_Path_j18 move_Path_j19
    rw [at_pz L i (0, 0, 0, 0) g0 g1]
    refine ⟨⟨g0, by rw [hle]; exact g1⟩, down_ok h0 h1 hin hsm ?_⟩
    unfold move_Path_j20 move_Path_j21 move_Path_j22 move_Path_j23
    rw [if_neg (by simp)]
    refine ⟨⟨g0, by simp only [len, half_len (fD t) L i.toNat (by omega)]; exact g1⟩, ?_⟩
    rw [half_set (fD t) L i.toNat (0, 0, 0, 0) (by omega), wI_id (x := i + 1) (by omega) (by omega)]
    rw [show (i + 1).toNat = i.toNat + 1 by omega] at hm
    exact hm
theorem path_up {t : Int} (h0 : 0 ≤ t) (h1 : t ≤ 1048576) {L : List RP} (hl : L.length ≤ 1000) (hi : ∀ r ∈ L, (InM r.1 ∧ InM r.2.1 ∧ InM r.2.2.1 ∧ InM r.2.2.2) ∧ Small r.2.1) {kr : List Piece3 → Int → Prop}
    (h : kr (L.map (fun r => pz (fU t r))) 0) : move_Path_j24 (L.map pz) t kr := by
  have hle : len (L.map pz) = (L.length : Int) := by simp [len]
  unfold move_Path_j24 move_Path_j25
  refine ⟨⟨by rw [hle]; omega, by rw [hle]; unfold most; omega⟩, ?_⟩
  unfold move_Path_j26 move_Path_j27 move_Path_j28 move_Path_j29 move_Path_j30 move_Path_l31
  rw [hle, show ((L.length : Int)).toNat = L.length from Int.toNat_natCast _, ← half_zero (fU t) L]
  refine go_all (L := fun m i => move_Path_l31N (fun out_13 => kr out_13 0) kr m (L.map pz) t (half (fU t) L i.toNat) (L.length : Int) i) (n := (L.length : Int)) (k0 := kr (L.map (fun r => pz (fU t r))) 0) (by omega) ?_ ?_ h
  · intro hk
    unfold move_Path_l31N move_Path_j32 move_Path_j33 move_Path_j34
    rw [if_neg (by simp)]
    rw [show ((L.length : Int)).toNat = L.length from Int.toNat_natCast _, half_all]
    exact hk
  · intro i m g0 g1 hm
    have hmem : L.getD i.toNat (0, 0, 0, 0) ∈ L := mem_getD g0 g1
    obtain ⟨hin, hsm⟩ := hi _ hmem
    unfold move_Path_l31N move_Path_j32 move_Path_j33 move_Path_j34
    rw [if_pos (by simpa using g1)]
    unfold move_Path_j35 move_Path_j36 move_Path_j37 move_Path_j38 move_Path_j39 move_Path_j40 move_Path_j41
    rw [at_pz L i (0, 0, 0, 0) g0 g1]
    refine ⟨⟨g0, by rw [hle]; exact g1⟩, up_ok h0 h1 hin hsm ?_⟩
    unfold move_Path_j42 move_Path_j43 move_Path_j44 move_Path_j45
    rw [if_neg (by simp)]
    refine ⟨⟨g0, by simp only [len, half_len (fU t) L i.toNat (by omega)]; exact g1⟩, ?_⟩
    rw [half_set (fU t) L i.toNat (0, 0, 0, 0) (by omega), wI_id (x := i + 1) (by omega) (by omega)]
    rw [show (i + 1).toNat = i.toNat + 1 by omega] at hm
    exact hm
/-- The path of a move. -/
noncomputable def pathL (t : Int) (m : Move) (d : Int) : List RP := (cvL d m).map (if m.2.1 < t then fD t else fU t)
theorem dist_eq {a b : Int} (h0 : 0 ≤ a) (h1 : a ≤ 1048576) (g0 : 0 ≤ b) (g1 : b ≤ 1048576) : 0 ≤ dist a b ∧ dist a b ≤ 1048576 ∧ dist b a = dist a b := by
  unfold dist iMax
  rw [wI_id (x := b - a) (by omega) (by omega), wI_id (x := a - b) (by omega) (by omega)]
  split <;> split <;> omega
theorem mpath_ok {h : House} {from_ : Int} {m : Move} (w : WfH h) (hs : m.1.size ≤ maxLen) {K : List Piece3 × Int → Prop} (h0 : givE h from_ m = 0 → Giv h from_ m → K ((pathL from_ m (dist from_ m.2.1)).map pz, 0)) (h1 : givE h from_ m ≠ 0 → K ([], givE h from_ m)) : move_Path h from_ m K := by
  unfold move_Path
  refine given_p h from_ m w hs (fun he g => ?_) (fun he => ?_)
  · rw [if_neg (by simp)]
    obtain ⟨d0, d1, -⟩ := dist_eq g.f0 g.f1 g.t0 g.t1
    refine curve_p g.move hs d0 d1 ?_
    rw [if_neg (by simp)]
    have good := cv_good g.move d0 d1
    have sm := cv_small g.move d0 d1
    have hk := h0 he g
    unfold pathL at hk
    by_cases hlt : m.2.1 < from_
    · rw [if_pos (by simpa using hlt)]
      rw [if_pos hlt, List.map_map] at hk
      exact path_down g.f0 g.f1 (by have := good.few; omega) (fun r hr => ⟨good.inm r hr, sm r hr⟩) hk
    · rw [if_neg (by simpa using hlt)]
      rw [if_neg hlt, List.map_map] at hk
      exact path_up g.f0 g.f1 (by have := good.few; omega) (fun r hr => ⟨good.inm r hr, sm r hr⟩) hk
  · rw [if_pos (by simpa using he)]
    exact h1 he
theorem mend_ok {h : House} {from_ : Int} {m : Move} (w : WfH h) (hs : m.1.size ≤ maxLen) {K : Frac × Int → Prop} (h0 : givE h from_ m = 0 → Giv h from_ m → K (fr (cvT (dist from_ m.2.1) m), 0)) (h1 : givE h from_ m ≠ 0 → K ((0, 0), givE h from_ m)) : move_End h from_ m K := by
  unfold move_End
  refine given_p h from_ m w hs (fun he g => ?_) (fun he => ?_)
  · rw [if_neg (by simp)]
    obtain ⟨d0, d1, -⟩ := dist_eq g.f0 g.f1 g.t0 g.t1
    exact time_p g.move hs d0 d1 (h0 he g)
  · rw [if_pos (by simpa using he)]
    exact h1 he
/-! The law's path. -/
theorem rpath_ok {h : House} {from_ : Int} {m : Move} (g : Giv h from_ m) {K : List Piece3 → Prop} (hk : K ((pathL from_ m (dist from_ m.2.1)).map pz)) : ref35_Path from_ m K := by
  unfold ref35_Path ref35_Distance
  obtain ⟨d0, d1, de⟩ := dist_eq g.f0 g.f1 g.t0 g.t1
  have f0 := g.f0
  have f1 := g.f1
  rw [show iMax (wI64 (from_ - m.2.1)) (wI64 (m.2.1 - from_)) = dist from_ m.2.1 from de]
  refine curve_r g.move d0 d1 ?_
  have good := cv_good g.move d0 d1
  have sm := cv_small g.move d0 d1
  unfold pathL at hk
  generalize cvL (dist from_ m.2.1) m = L at *
  have hle : len (L.map pz) = (L.length : Int) := by simp [len]
  have hfew := good.few
  unfold ref35_Path_l2
  by_cases hlt : m.2.1 < from_
  · rw [if_pos hlt, List.map_map] at hk
    refine go_all (L := fun k i => ref35_Path_l2N (fun out_6 => K out_6) k from_ (L.map pz) ((L.take i.toNat).map (fun r => pz (fD from_ r))) i m) (n := (L.length : Int)) (k0 := K (L.map (pz ∘ fD from_))) (by omega) ?_ ?_ hk
    · intro hk
      unfold ref35_Path_l2N
      rw [if_neg (by rw [hle]; simp)]
      rw [show ((L.length : Int)).toNat = L.length from Int.toNat_natCast _, List.take_length]
      exact hk
    · intro i k g0 g1 hm
      have hmem : L.getD i.toNat (0, 0, 0, 0) ∈ L := mem_getD g0 g1
      have hin := good.inm _ hmem
      have hsm := sm _ hmem
      unfold ref35_Path_l2N ref02_Of
      rw [if_pos (by rw [hle]; simpa using g1)]
      refine ⟨⟨g0, by rw [hle]; exact g1⟩, ?_⟩
      rw [if_neg (by simp only [decide_eq_true_eq]; omega), at_pz L i (0, 0, 0, 0) g0 g1]
      rw [show (i + 1).toNat = i.toNat + 1 by omega, take_snoc L i.toNat (0, 0, 0, 0) (by omega), List.map_append] at hm
      generalize L.getD i.toNat (0, 0, 0, 0) = r at *
      dsimp only
      show ref02_Sub (from_, 1) (fr r.2.1) _
      rw [← fr_int from_]
      refine rsub_ok (inm_int (by omega) (by omega)) hin.2.1 (rneg_ok hin.2.2.1 (rneg_ok hin.2.2.2 ?_))
      rw [res_in (small_add hsm g.f0 g.f1).2]
      refine ⟨?_, ?_⟩
      · simp only [len, List.length_map, List.length_take, List.length_cons, List.length_nil]
        unfold most; omega
      · rw [wI_id (x := i + 1) (by omega) (by omega)]
        exact hm
  · rw [if_neg hlt, List.map_map] at hk
    refine go_all (L := fun k i => ref35_Path_l2N (fun out_6 => K out_6) k from_ (L.map pz) ((L.take i.toNat).map (fun r => pz (fU from_ r))) i m) (n := (L.length : Int)) (k0 := K (L.map (pz ∘ fU from_))) (by omega) ?_ ?_ hk
    · intro hk
      unfold ref35_Path_l2N
      rw [if_neg (by rw [hle]; simp)]
      rw [show ((L.length : Int)).toNat = L.length from Int.toNat_natCast _, List.take_length]
      exact hk
    · intro i k g0 g1 hm
      have hmem : L.getD i.toNat (0, 0, 0, 0) ∈ L := mem_getD g0 g1
      have hin := good.inm _ hmem
      have hsm := sm _ hmem
      unfold ref35_Path_l2N ref02_Of
      rw [if_pos (by rw [hle]; simpa using g1)]
      refine ⟨⟨g0, by rw [hle]; exact g1⟩, ?_⟩
      rw [if_pos (by simp only [decide_eq_true_eq]; omega), at_pz L i (0, 0, 0, 0) g0 g1]
      rw [show (i + 1).toNat = i.toNat + 1 by omega, take_snoc L i.toNat (0, 0, 0, 0) (by omega), List.map_append] at hm
      generalize L.getD i.toNat (0, 0, 0, 0) = r at *
      dsimp only
      show ref02_Add (from_, 1) (fr r.2.1) _
      rw [← fr_int from_]
      refine radd_ok (inm_int (by omega) (by omega)) hin.2.1 ?_
      rw [res_in (small_add hsm g.f0 g.f1).1]
      refine ⟨?_, ?_⟩
      · simp only [len, List.length_map, List.length_take, List.length_cons, List.length_nil]
        unfold most; omega
      · rw [wI_id (x := i + 1) (by omega) (by omega)]
        exact hm
theorem path_good {h : House} {from_ : Int} {m : Move} (g : Giv h from_ m) : Good (pathL from_ m (dist from_ m.2.1)) := by
  obtain ⟨d0, d1, de⟩ := dist_eq g.f0 g.f1 g.t0 g.t1
  have good := cv_good g.move d0 d1
  have sm := cv_small g.move d0 d1
  unfold pathL
  generalize cvL (dist from_ m.2.1) m = L at *
  refine ⟨by rw [List.length_map]; exact good.pos, by rw [List.length_map]; exact good.few, ?_, ?_⟩
  · intro r hr
    obtain ⟨q, hq, rfl⟩ := List.mem_map.1 hr
    obtain ⟨i1, i2, i3, i4⟩ := good.inm q hq
    obtain ⟨s1, s2⟩ := small_add (sm q hq) g.f0 g.f1
    split
    · exact ⟨i1, s2, inm_neg i3, inm_neg i4⟩
    · exact ⟨i1, s1, i3, i4⟩
  · rw [List.pairwise_map]
    refine good.inc.imp (fun {r s} hrs => ?_)
    split
    · exact hrs
    · exact hrs
end Go.Proofs.YtieeiiibamkbmaaGreat.Am
namespace Go.Proofs.YtieeiiibamkbmaaGreat.Am
open Go
set_option linter.unusedVariables false
set_option linter.unusedSimpArgs false
set_option maxRecDepth 4000

abbrev zR : RP := (0, 0, 0, 0)
theorem len_map (L : List RP) : len (L.map pz) = (L.length : Int) := by simp [len]
theorem cmp_le {p q : Rat} : cmpQ p q ≤ 0 ↔ p ≤ q := by
  unfold cmpQ
  split
  · rename_i h; constructor <;> intro _ <;> grind
  · split
    · rename_i h1 h2; constructor <;> intro _ <;> grind
    · rename_i h1 h2; constructor <;> intro _ <;> grind
theorem inc_at {L : List RP} (h : L.Pairwise (fun r s => r.1 < s.1)) {i j : Int} (h0 : 0 ≤ i) (h1 : i < j) (h2 : j < (L.length : Int)) : (L.getD i.toNat zR).1 < (L.getD j.toNat zR).1 := by
  have := List.pairwise_iff_getElem.1 h i.toNat j.toNat (by omega) (by omega) (by omega)
  rw [List.getD_eq_getElem?_getD, List.getD_eq_getElem?_getD, List.getElem?_eq_getElem (show i.toNat < L.length by omega), List.getElem?_eq_getElem (show j.toNat < L.length by omega)]
  exact this
theorem good_at {L : List RP} (g : Good L) {i : Int} (h0 : 0 ≤ i) (h1 : i < (L.length : Int)) : InM (L.getD i.toNat zR).1 ∧ InM (L.getD i.toNat zR).2.1 ∧ InM (L.getD i.toNat zR).2.2.1 ∧ InM (L.getD i.toNat zR).2.2.2 :=
  g.inm _ (mem_getD h0 h1)
theorem qvalid_ok {L : List RP} (g : Good L) {K : Bool → Prop} (h : K true) : quadratic_Valid (L.map pz) K := by
  have hpos := g.pos
  have hfew := g.few
  unfold quadratic_Valid
  rw [len_map, if_neg (by simp only [decide_eq_true_eq]; omega), show decide ((L.length : Int) > 200) = false from decide_eq_false (by omega)]
  unfold quadratic_Valid_j2
  rw [if_neg (by simp), len_map]
  unfold quadratic_Valid_l3
  refine go_all (L := fun m i => quadratic_Valid_l3N (K true) (fun rt_2 => K rt_2) m (L.map pz) (L.map pz) (L.length : Int) i) (n := (L.length : Int)) (k0 := K true) (by omega) ?_ ?_ h
  · intro hk
    unfold quadratic_Valid_l3N
    rw [if_neg (by simp)]
    exact hk
  · intro i m h0 h1 hm
    obtain ⟨i1, i2, i3, i4⟩ := good_at g h0 h1
    unfold quadratic_Valid_l3N
    rw [if_pos (by simpa using h1), len_map]
    refine ⟨⟨h0, h1⟩, ?_⟩
    rw [at_pz L i zR h0 h1]
    refine valid_yes i1 ?_
    rw [if_neg (by simp)]
    refine valid_yes i2 ?_
    rw [if_neg (by simp)]
    refine valid_yes i3 ?_
    rw [if_neg (by simp)]
    refine valid_yes i4 ?_
    unfold quadratic_Valid_j4
    rw [if_neg (by simp), wI_id (x := i + 1) (by omega) (by omega)]
    by_cases hi : i > 0
    · rw [if_pos (by simpa using hi), wI_id (x := i - 1) (by omega) (by omega), len_map]
      refine ⟨⟨by omega, by omega⟩, ?_⟩
      rw [at_pz L (i - 1) zR (by omega) (by omega)]
      unfold quadratic_compare
      obtain ⟨j1, -⟩ := good_at g (i := i - 1) (by omega) (by omega)
      refine cmp_ok j1 i1 ?_
      dsimp only
      have hlt := inc_at g.inc (i := i - 1) (j := i) (by omega) (by omega) h1
      rw [if_neg (by
        simp only [decide_eq_true_eq]
        unfold cmpQ
        rw [if_pos hlt]
        omega)]
      exact hm
    · rw [if_neg (by simpa using hi)]
      exact hm

/-! The piece. -/
def PieceIs (L : List RP) (t : Rat) (r : Int) : Prop := (-1 ≤ r ∧ r < (L.length : Int)) ∧ (∀ j, 0 ≤ j → j ≤ r → (L.getD j.toNat zR).1 ≤ t) ∧ (∀ j, r < j → 0 ≤ j → j < (L.length : Int) → ¬ (L.getD j.toNat zR).1 ≤ t)
theorem piece_ex {L : List RP} (g : Good L) (t : Rat) : ∃ r, PieceIs L t r := by
  obtain ⟨r, hr⟩ := first_ex (L.length : Int) (fun j => ¬ (L.getD j.toNat zR).1 ≤ t)
  rcases hr with ⟨rfl, h⟩ | ⟨h0, h1, h2, h3⟩
  · refine ⟨(L.length : Int) - 1, ⟨by omega, by omega⟩, fun j j0 j1 => Classical.not_not.1 (h j j0 (by omega)), fun j j0 j1 j2 => by omega⟩
  · refine ⟨r - 1, ⟨by omega, by omega⟩, fun j j0 j1 => Classical.not_not.1 (h3 j j0 (by omega)), fun j j0 j1 j2 hle => ?_⟩
    rcases Int.lt_or_eq_of_le (show r ≤ j by omega) with hlt | heq
    · have := inc_at g.inc h0 hlt j2
      exact h2 (by grind)
    · subst heq; exact h2 hle
noncomputable def pcI (L : List RP) (t : Rat) : Int := Classical.epsilon (PieceIs L t)
theorem pc_is {L : List RP} (g : Good L) (t : Rat) : PieceIs L t (pcI L t) := Classical.epsilon_spec (piece_ex g t)
theorem pc_one {L : List RP} {t : Rat} {r s : Int} (h : PieceIs L t r) (k : PieceIs L t s) : r = s := by
  rcases Int.lt_trichotomy r s with c | c | c
  · exact absurd (k.2.1 s (by have := h.1.1; omega) (by omega)) (h.2.2 s c (by have := h.1.1; omega) k.1.2)
  · exact c
  · exact absurd (h.2.1 r (by have := k.1.1; omega) (by omega)) (k.2.2 r c (by have := k.1.1; omega) h.1.2)
theorem piece_p {L : List RP} (g : Good L) {t : Rat} (ht : InM t) {K : Int → Prop} (hk : K (pcI L t)) : quadratic_piece (L.map pz) (fr t) K := by
  have hp := pc_is g t
  generalize pcI L t = r at *
  obtain ⟨⟨r0, r1⟩, hyes, hno⟩ := hp
  have hfew := g.few
  unfold quadratic_piece quadratic_piece_l2
  rw [len_map]
  have := go_all (L := fun m i => quadratic_piece_l2N (fun k_5 => K k_5) m (min (i - 1) r) (L.map pz) (L.length : Int) i (fr t)) (n := (L.length : Int)) (k0 := K r) (by omega) ?_ ?_ hk
  · rw [show min ((0 : Int) - 1) r = -1 by omega] at this
    exact this
  · intro hk
    unfold quadratic_piece_l2N
    rw [if_neg (by simp), show min ((L.length : Int) - 1) r = r by omega]
    exact hk
  · intro i m h0 h1 hm
    obtain ⟨i1, -⟩ := good_at g h0 h1
    unfold quadratic_piece_l2N
    rw [if_pos (by simpa using h1), len_map]
    refine ⟨⟨h0, h1⟩, ?_⟩
    rw [at_pz L i zR h0 h1]
    unfold quadratic_compare
    refine cmp_ok i1 ht ?_
    dsimp only
    rw [wI_id (x := i + 1) (by omega) (by omega)]
    rw [show i + 1 - 1 = i by omega] at hm
    by_cases hc : i ≤ r
    · rw [if_pos (by simp only [decide_eq_true_eq]; exact cmp_le.2 (hyes i h0 hc))]
      rw [show min i r = i by omega] at hm
      exact hm
    · rw [if_neg (by simp only [decide_eq_true_eq]; exact fun h => hno i (by omega) h0 h1 (cmp_le.1 h))]
      rw [show min i r = r by omega] at hm
      rw [show min (i - 1) r = r by omega]
      exact hm
theorem piece_r {L : List RP} (g : Good L) {t : Rat} (ht : InM t) {K : Int → Prop} (hk : K (pcI L t)) : ref08_Piece (L.map pz) (fr t) K := by
  have hp := pc_is g t
  generalize pcI L t = r at *
  obtain ⟨⟨r0, r1⟩, hyes, hno⟩ := hp
  have hfew := g.few
  unfold ref08_Piece ref08_Piece_l2
  have key : ∀ (s : Nat) (k : Int), -1 ≤ k → k + s = r → ∃ n, ref08_Piece_l2N (fun k_5 => K k_5) n (L.map pz) k (fr t) := by
    intro s
    induction s with
    | zero =>
      intro k k0 hs
      have : k = r := by omega
      subst this
      refine ⟨1, ?_⟩
      unfold ref08_Piece_l2N
      rw [len_map, wI_id (x := k + 1) (by omega) (by omega)]
      by_cases hc : k + 1 < (L.length : Int)
      · rw [if_pos (by simpa using hc)]
        refine ⟨⟨by omega, hc⟩, ?_⟩
        rw [at_pz L (k + 1) zR (by omega) hc]
        obtain ⟨i1, -⟩ := good_at g (i := k + 1) (by omega) hc
        refine rcmp_ok i1 ht ?_
        rw [if_neg (by simp only [decide_eq_true_eq]; exact fun h => hno (k + 1) (by omega) (by omega) hc (cmp_le.1 h))]
        exact hk
      · rw [if_neg (by simpa using hc)]
        exact hk
    | succ s ih =>
      intro k k0 hs
      obtain ⟨n, hn⟩ := ih (k + 1) (by omega) (by omega)
      refine ⟨n + 1, ?_⟩
      unfold ref08_Piece_l2N
      rw [len_map, wI_id (x := k + 1) (by omega) (by omega)]
      rw [if_pos (by simp only [decide_eq_true_eq]; omega)]
      refine ⟨⟨by omega, by omega⟩, ?_⟩
      rw [at_pz L (k + 1) zR (by omega) (by omega)]
      obtain ⟨i1, -⟩ := good_at g (i := k + 1) (by omega) (by omega)
      refine rcmp_ok i1 ht ?_
      rw [if_pos (by simp only [decide_eq_true_eq]; exact cmp_le.2 (hyes (k + 1) (by omega) (by omega)))]
      exact hn
  exact key (r + 1).toNat (-1) (by omega) (by omega)

/-! Values that may be too big. -/
def chk (q : Rat) : Option Rat := if InM q then some q else none
def outO : Option Rat → Frac × Int
  | some q => (fr q, 0)
  | none => ((0, 0), 5)
theorem res_chk (q : Rat) : res q = outO (chk q) := by
  unfold res chk
  by_cases h : InM q
  · rw [if_pos h, if_pos h]; rfl
  · rw [if_neg h, if_neg h]; rfl
theorem chk_in {q : Rat} (h : InM q) : chk q = some q := if_pos h
theorem chk_out {q : Rat} (h : ¬ InM q) : chk q = none := if_neg h
theorem chk_some {q v : Rat} (h : chk q = some v) : InM v ∧ v = q := by
  unfold chk at h
  by_cases hq : InM q
  · rw [if_pos hq] at h
    cases h
    exact ⟨hq, rfl⟩
  · rw [if_neg hq] at h
    cases h
def valO (r : RP) (u : Rat) : Option Rat := (chk (r.2.2.2 * u)).bind fun x => (chk (r.2.2.1 + x)).bind fun y => (chk (y * u)).bind fun z => chk (r.2.1 + z)
def slpO (r : RP) (u : Rat) : Option Rat := (chk (r.2.2.2 * u)).bind fun x => (chk (2 * x)).bind fun y => chk (r.2.2.1 + y)
section
variable {p q : Rat} {K : Frac → Sums → Prop}
theorem keep_ok {x : Frac} (h : K x 0) : quadratic_sums_keep x 0 0 K := by
  unfold quadratic_sums_keep
  rw [if_neg (by simp)]; exact h
theorem keep_new {x : Frac} (h : K (fr 0) 5) : quadratic_sums_keep x 5 0 K := by
  unfold quadratic_sums_keep quadratic_zero
  rw [if_pos (by simp), if_pos (by simp), ← fr_zero]; exact h
theorem keep_old {x : Frac} (h : K x 5) : quadratic_sums_keep x 0 5 K := by
  unfold quadratic_sums_keep
  rw [if_neg (by simp)]; exact h
theorem keep_both {x : Frac} (h : K (fr 0) 5) : quadratic_sums_keep x 5 5 K := by
  unfold quadratic_sums_keep quadratic_zero
  rw [if_pos (by simp), if_neg (by simp), ← fr_zero]; exact h
theorem keep_go (h1 : ∀ v, chk q = some v → InM v → K (fr v) 0) (h2 : chk q = none → K (fr 0) 5) : quadratic_sums_keep (res q).1 (res q).2 0 K := by
  by_cases hi : InM q
  · rw [res_in hi]; exact keep_ok (h1 q (chk_in hi) hi)
  · rw [res_out hi]; exact keep_new (h2 (chk_out hi))
theorem keep_err (h : ∀ x, InM x → K (fr x) 5) : quadratic_sums_keep (res q).1 (res q).2 5 K := by
  by_cases hi : InM q
  · rw [res_in hi]; exact keep_old (h q hi)
  · rw [res_out hi]; exact keep_both (h 0 inm_zero)
theorem sub_go (hp : InM p) (hq : InM q) (h1 : ∀ v, chk (p - q) = some v → InM v → K (fr v) 0) (h2 : chk (p - q) = none → K (fr 0) 5) : quadratic_sums_sub (fr p) (fr q) 0 K := sub_ok hp hq (keep_go h1 h2)
theorem mul_go (hp : InM p) (hq : InM q) (h1 : ∀ v, chk (p * q) = some v → InM v → K (fr v) 0) (h2 : chk (p * q) = none → K (fr 0) 5) : quadratic_sums_mul (fr p) (fr q) 0 K := mul_ok hp hq (keep_go h1 h2)
theorem add_go (hp : InM p) (hq : InM q) (h1 : ∀ v, chk (p + q) = some v → InM v → K (fr v) 0) (h2 : chk (p + q) = none → K (fr 0) 5) : quadratic_sums_add (fr p) (fr q) 0 K := add_ok hp hq (keep_go h1 h2)
theorem mul_err (hp : InM p) (hq : InM q) (h : ∀ x, InM x → K (fr x) 5) : quadratic_sums_mul (fr p) (fr q) 5 K := mul_ok hp hq (keep_err h)
theorem add_err (hp : InM p) (hq : InM q) (h : ∀ x, InM x → K (fr x) 5) : quadratic_sums_add (fr p) (fr q) 5 K := add_ok hp hq (keep_err h)
end
abbrev Vr (r : RP) : Prop := InM r.1 ∧ InM r.2.1 ∧ InM r.2.2.1 ∧ InM r.2.2.2
section
variable {r : RP} {u : Rat} {K : Frac → Sums → Prop}
theorem value_err (hr : Vr r) (hu : InM u) (h : ∀ x, InM x → K (fr x) 5) : quadratic_sums_value (pz r) (fr u) 5 K :=
  mul_err hr.2.2.2 hu (fun x hx => add_err hr.2.2.1 hx (fun x hx => mul_err hx hu (fun x hx => add_err hr.2.1 hx h)))
theorem value_go (hr : Vr r) (hu : InM u) (h1 : ∀ v, valO r u = some v → InM v → K (fr v) 0) (h2 : valO r u = none → ∀ x, InM x → K (fr x) 5) : quadratic_sums_value (pz r) (fr u) 0 K := by
  refine mul_go hr.2.2.2 hu (fun x ex hx => ?_) (fun ex => ?_)
  · refine add_go hr.2.2.1 hx (fun y ey hy => ?_) (fun ey => ?_)
    · refine mul_go hy hu (fun z ez hz => ?_) (fun ez => ?_)
      · refine add_go hr.2.1 hz (fun v ev hv => ?_) (fun ev => ?_)
        · exact h1 v (by unfold valO; rw [ex, Option.bind_some, ey, Option.bind_some, ez, Option.bind_some, ev]) hv
        · exact h2 (by unfold valO; rw [ex, Option.bind_some, ey, Option.bind_some, ez, Option.bind_some, ev]) 0 inm_zero
      · have hn := h2 (by unfold valO; rw [ex, Option.bind_some, ey, Option.bind_some, ez]; rfl)
        exact add_err hr.2.1 inm_zero hn
    · have hn := h2 (by unfold valO; rw [ex, Option.bind_some, ey]; rfl)
      exact mul_err inm_zero hu (fun x hx => add_err hr.2.1 hx hn)
  · have hn := h2 (by unfold valO; rw [ex]; rfl)
    exact add_err hr.2.2.1 inm_zero (fun x hx => mul_err hx hu (fun x hx => add_err hr.2.1 hx hn))
theorem inm_two : InM 2 := by decide
theorem fr_two : fr 2 = (2, 1) := by decide
theorem slope_err (hr : Vr r) (hu : InM u) (h : ∀ x, InM x → K (fr x) 5) : quadratic_sums_slope (pz r) (fr u) 5 K := by
  unfold quadratic_sums_slope
  rw [← fr_two]
  exact mul_err hr.2.2.2 hu (fun x hx => mul_err inm_two hx (fun x hx => add_err hr.2.2.1 hx h))
theorem slope_go (hr : Vr r) (hu : InM u) (h1 : ∀ v, slpO r u = some v → InM v → K (fr v) 0) (h2 : slpO r u = none → ∀ x, InM x → K (fr x) 5) : quadratic_sums_slope (pz r) (fr u) 0 K := by
  unfold quadratic_sums_slope
  rw [← fr_two]
  refine mul_go hr.2.2.2 hu (fun x ex hx => ?_) (fun ex => ?_)
  · refine mul_go inm_two hx (fun y ey hy => ?_) (fun ey => ?_)
    · refine add_go hr.2.2.1 hy (fun v ev hv => ?_) (fun ev => ?_)
      · exact h1 v (by unfold slpO; rw [ex, Option.bind_some, ey, Option.bind_some, ev]) hv
      · exact h2 (by unfold slpO; rw [ex, Option.bind_some, ey, Option.bind_some, ev]) 0 inm_zero
    · have hn := h2 (by unfold slpO; rw [ex, Option.bind_some, ey]; rfl)
      exact add_err hr.2.2.1 inm_zero hn
  · have hn := h2 (by unfold slpO; rw [ex]; rfl)
    exact mul_err inm_two inm_zero (fun x hx => add_err hr.2.2.1 hx hn)
end
theorem sums_end {x : Frac} {K : Frac × Int → Prop} (h : K ((0, 0), 5)) : quadratic_sums_result x 5 K := by
  unfold quadratic_sums_result
  rw [if_pos (by simp)]; exact h
theorem sums_fin {x : Frac} {K : Frac × Int → Prop} (h : K (x, 0)) : quadratic_sums_result x 0 K := by
  unfold quadratic_sums_result
  rw [if_neg (by simp)]; exact h

/-! At a time. -/
noncomputable def atO (L : List RP) (t : Rat) : Option Rat := if pcI L t < 0 then some (L.getD 0 zR).2.1 else (chk (t - (L.getD (pcI L t).toNat zR).1)).bind (valO (L.getD (pcI L t).toNat zR))
noncomputable def slO (L : List RP) (t : Rat) : Option Rat := if pcI L t < 0 then some 0 else (chk (t - (L.getD (pcI L t).toNat zR).1)).bind (slpO (L.getD (pcI L t).toNat zR))
theorem qat_ok {L : List RP} (g : Good L) {t : Rat} (ht : InM t) {K : Frac × Int → Prop} (h : K (outO (atO L t))) : quadratic_At (L.map pz) (fr t) K := by
  unfold quadratic_At
  refine qvalid_ok g ?_
  rw [if_neg (by simp)]
  refine valid_yes ht ?_
  unfold quadratic_At_j2
  rw [if_neg (by simp)]
  refine piece_p g ht ?_
  obtain ⟨⟨r0, r1⟩, -, -⟩ := pc_is g t
  have hpos := g.pos
  unfold atO at h
  by_cases hc : pcI L t < 0
  · rw [if_pos (by simpa using hc), len_map, at_pz L 0 zR (by omega) (by omega)]
    rw [if_pos hc] at h
    exact ⟨⟨by omega, by omega⟩, h⟩
  · rw [if_neg (by simpa using hc), len_map, at_pz L _ zR (by omega) (by omega)]
    rw [if_neg hc] at h
    have hr := good_at g (i := pcI L t) (by omega) r1
    generalize L.getD (pcI L t).toNat zR = r at *
    refine ⟨⟨by omega, by omega⟩, ⟨by omega, by omega⟩, ?_⟩
    refine sub_go ht hr.1 (fun u eu hu => ?_) (fun eu => ?_)
    · rw [eu, Option.bind_some] at h
      refine value_go hr hu (fun v ev hv => ?_) (fun ev x hx => ?_)
      · rw [ev] at h; exact sums_fin h
      · rw [ev] at h; exact sums_end h
    · rw [eu] at h
      exact value_err hr inm_zero (fun x hx => sums_end h)
theorem qslope_ok {L : List RP} (g : Good L) {t : Rat} (ht : InM t) {K : Frac × Int → Prop} (h : K (outO (slO L t))) : quadratic_Slope (L.map pz) (fr t) K := by
  unfold quadratic_Slope
  refine qvalid_ok g ?_
  rw [if_neg (by simp)]
  refine valid_yes ht ?_
  unfold quadratic_Slope_j2 quadratic_zero
  rw [if_neg (by simp)]
  refine piece_p g ht ?_
  obtain ⟨⟨r0, r1⟩, -, -⟩ := pc_is g t
  have hpos := g.pos
  unfold slO at h
  by_cases hc : pcI L t < 0
  · rw [if_pos (by simpa using hc)]
    rw [if_pos hc] at h
    rw [← fr_zero]
    exact h
  · rw [if_neg (by simpa using hc), len_map, at_pz L _ zR (by omega) (by omega)]
    rw [if_neg hc] at h
    have hr := good_at g (i := pcI L t) (by omega) r1
    generalize L.getD (pcI L t).toNat zR = r at *
    refine ⟨⟨by omega, by omega⟩, ⟨by omega, by omega⟩, ?_⟩
    refine sub_go ht hr.1 (fun u eu hu => ?_) (fun eu => ?_)
    · rw [eu, Option.bind_some] at h
      refine slope_go hr hu (fun v ev hv => ?_) (fun ev x hx => ?_)
      · rw [ev] at h; exact sums_fin h
      · rw [ev] at h; exact sums_end h
    · rw [eu] at h
      exact slope_err hr inm_zero (fun x hx => sums_end h)
/-! The law's own. -/
theorem res_use {q : Rat} {K : Frac × Int → Prop} (h1 : ∀ v, chk q = some v → InM v → K (fr v, 0)) (h2 : chk q = none → K ((0, 0), 5)) : K (res q) := by
  by_cases hi : InM q
  · rw [res_in hi]; exact h1 q (chk_in hi) hi
  · rw [res_out hi]; exact h2 (chk_out hi)
section
variable {p q : Rat} {K : Frac × Int → Prop}
theorem times_use (hp : InM p) (hq : InM q) (h1 : ∀ v, chk (p * q) = some v → InM v → K (fr v, 0)) (h2 : chk (p * q) = none → K ((0, 0), 5)) : ref02_Times (fr p) (fr q) K := times_ok hp hq (res_use (K := K) h1 h2)
theorem radd_use (hp : InM p) (hq : InM q) (h1 : ∀ v, chk (p + q) = some v → InM v → K (fr v, 0)) (h2 : chk (p + q) = none → K ((0, 0), 5)) : ref02_Add (fr p) (fr q) K := radd_ok hp hq (res_use (K := K) h1 h2)
theorem rsub_use (hp : InM p) (hq : InM q) (h1 : ∀ v, chk (p - q) = some v → InM v → K (fr v, 0)) (h2 : chk (p - q) = none → K ((0, 0), 5)) : ref02_Sub (fr p) (fr q) K := rsub_ok hp hq (res_use (K := K) h1 h2)
theorem rover_use (hp : InM p) (hq : InM q) (h0 : q ≠ 0) (h1 : ∀ v, chk (p / q) = some v → InM v → K (fr v, 0)) (h2 : chk (p / q) = none → K ((0, 0), 5)) : ref02_Over (fr p) (fr q) K := rover_ok hp hq h0 (res_use (K := K) h1 h2)
theorem mul_use (hp : InM p) (hq : InM q) (h1 : ∀ v, chk (p * q) = some v → InM v → K (fr v, 0)) (h2 : chk (p * q) = none → K ((0, 0), 5)) : ratio_Mul (fr p) (fr q) K := mul_ok hp hq (res_use (K := K) h1 h2)
theorem div_use (hp : InM p) (hq : InM q) (h0 : q ≠ 0) (h1 : ∀ v, chk (p / q) = some v → InM v → K (fr v, 0)) (h2 : chk (p / q) = none → K ((0, 0), 5)) : ratio_Div (fr p) (fr q) K := div_ok hp hq h0 (res_use (K := K) h1 h2)
end
section
variable {r : RP} {u : Rat} {K : Frac × Int → Prop}
theorem rvalue_ok (hr : Vr r) (hu : InM u) (h : K (outO (valO r u))) : ref08_Value (pz r) (fr u) K := by
  unfold ref08_Value
  unfold valO at h
  refine times_use hr.2.2.2 hu (fun x ex hx => ?_) (fun ex => ?_)
  · rw [if_neg (by simp)]
    rw [ex, Option.bind_some] at h
    refine radd_use hr.2.2.1 hx (fun y ey hy => ?_) (fun ey => ?_)
    · rw [if_neg (by simp)]
      rw [ey, Option.bind_some] at h
      refine times_use hy hu (fun z ez hz => ?_) (fun ez => ?_)
      · rw [if_neg (by simp)]
        rw [ez, Option.bind_some] at h
        refine radd_ok hr.2.1 hz ?_
        rw [res_chk]
        exact h
      · rw [if_pos (by simp)]
        rw [ez] at h; exact h
    · rw [if_pos (by simp)]
      rw [ey] at h; exact h
  · rw [if_pos (by simp)]
    rw [ex] at h; exact h
theorem rrate_ok (hr : Vr r) (hu : InM u) (h : K (outO (slpO r u))) : ref08_Rate (pz r) (fr u) K := by
  unfold ref08_Rate ref02_Of
  unfold slpO at h
  refine times_use hr.2.2.2 hu (fun x ex hx => ?_) (fun ex => ?_)
  · rw [if_neg (by simp)]
    rw [ex, Option.bind_some] at h
    rw [← fr_two]
    refine times_use inm_two hx (fun y ey hy => ?_) (fun ey => ?_)
    · rw [if_neg (by simp)]
      rw [ey, Option.bind_some] at h
      refine radd_ok hr.2.2.1 hy ?_
      rw [res_chk]
      exact h
    · rw [if_pos (by simp)]
      rw [ey] at h; exact h
  · rw [if_pos (by simp)]
    rw [ex] at h; exact h
end
theorem rat_ok {L : List RP} (g : Good L) {t : Rat} (ht : InM t) {K : Frac × Int → Prop} (h : K (outO (atO L t))) : ref08_At (L.map pz) (pcI L t) (fr t) K := by
  unfold ref08_At
  obtain ⟨⟨r0, r1⟩, -, -⟩ := pc_is g t
  have hpos := g.pos
  unfold atO at h
  by_cases hc : pcI L t < 0
  · rw [if_pos (by simpa using hc), len_map, at_pz L 0 zR (by omega) (by omega)]
    rw [if_pos hc] at h
    exact ⟨⟨by omega, by omega⟩, h⟩
  · rw [if_neg (by simpa using hc), len_map, at_pz L _ zR (by omega) (by omega)]
    rw [if_neg hc] at h
    have hr := good_at g (i := pcI L t) (by omega) r1
    generalize L.getD (pcI L t).toNat zR = r at *
    refine ⟨⟨by omega, by omega⟩, ?_⟩
    refine rsub_use ht hr.1 (fun u eu hu => ?_) (fun eu => ?_)
    · rw [if_neg (by simp)]
      rw [eu, Option.bind_some] at h
      exact ⟨⟨by omega, by omega⟩, rvalue_ok hr hu h⟩
    · rw [if_pos (by simp)]
      rw [eu] at h; exact h
theorem rslope_ok {L : List RP} (g : Good L) {t : Rat} (ht : InM t) {K : Frac × Int → Prop} (h : K (outO (slO L t))) : ref08_Slope (L.map pz) (pcI L t) (fr t) K := by
  unfold ref08_Slope ref02_Of
  obtain ⟨⟨r0, r1⟩, -, -⟩ := pc_is g t
  have hpos := g.pos
  unfold slO at h
  by_cases hc : pcI L t < 0
  · rw [if_pos (by simpa using hc)]
    rw [if_pos hc] at h
    rw [← fr_zero]
    exact h
  · rw [if_neg (by simpa using hc), len_map, at_pz L _ zR (by omega) (by omega)]
    rw [if_neg hc] at h
    have hr := good_at g (i := pcI L t) (by omega) r1
    generalize L.getD (pcI L t).toNat zR = r at *
    refine ⟨⟨by omega, by omega⟩, ?_⟩
    refine rsub_use ht hr.1 (fun u eu hu => ?_) (fun eu => ?_)
    · rw [if_neg (by simp)]
      rw [eu, Option.bind_some] at h
      exact ⟨⟨by omega, by omega⟩, rrate_ok hr hu h⟩
    · rw [if_pos (by simp)]
      rw [eu] at h; exact h
end Go.Proofs.YtieeiiibamkbmaaGreat.Am
namespace Go.Proofs.YtieeiiibamkbmaaGreat.Am
open Go
set_option linter.unusedVariables false
set_option linter.unusedSimpArgs false
set_option maxRecDepth 4000

theorem bind_in {o : Option Rat} {f : Rat → Option Rat} {v : Rat} (h : o.bind f = some v) (hf : ∀ x, f x = some v → InM v) : InM v := by
  cases o with
  | none => cases h
  | some x => exact hf x h
theorem atO_in {L : List RP} (g : Good L) {t v : Rat} (h : atO L t = some v) : InM v := by
  unfold atO at h
  split at h
  · cases h
    exact (good_at g (i := 0) (by omega) (by have := g.pos; omega)).2.1
  · refine bind_in h (fun u hu => ?_)
    unfold valO at hu
    exact bind_in hu (fun x hx => bind_in hx (fun y hy => bind_in hy (fun z hz => (chk_some hz).1)))
theorem slO_in {L : List RP} {t v : Rat} (h : slO L t = some v) : InM v := by
  unfold slO at h
  split at h
  · cases h; exact inm_zero
  · refine bind_in h (fun u hu => ?_)
    unfold slpO at hu
    exact bind_in hu (fun x hx => bind_in hx (fun y hy => (chk_some hy).1))
/-- Where a move halts. -/
noncomputable def haltO (L : List RP) (t : Rat) (up : Bool) (f : Int) : Option Rat := (atO L t).bind fun x => (slO L t).bind fun s => (chk (s * s)).bind fun y => (chk (y / ((2 * f : Int) : Rat))).bind fun z => if up = true then chk (x + z) else chk (x - z)
noncomputable abbrev pl (h : House) (from_ : Int) (m : Move) : List RP := pathL from_ m (dist from_ m.2.1)
open Classical in
noncomputable def tmE (h : House) (from_ : Int) (m : Move) (t : Frac) : Int := if ¬ (HouseOk h ∧ MoveOk m) ∨ ¬ VF t.1 t.2 then 1 else if givE h from_ m ≠ 0 then givE h from_ m else if t.1 < 0 then 2 else 0
theorem tmE_bad {h : House} {from_ : Int} {m : Move} {t : Frac} (hb : ¬ (HouseOk h ∧ MoveOk m) ∨ ¬ VF t.1 t.2) : tmE h from_ m t = 1 := by unfold tmE; rw [if_pos hb]
theorem tmE_giv {h : House} {from_ : Int} {m : Move} {t : Frac} (hb : HouseOk h ∧ MoveOk m) (hv : VF t.1 t.2) (hg : givE h from_ m ≠ 0) : tmE h from_ m t = givE h from_ m := by
  unfold tmE; rw [if_neg (fun h => h.elim (fun k => k hb) (fun k => k hv)), if_pos hg]
theorem tmE_neg {h : House} {from_ : Int} {m : Move} {t : Frac} (hb : HouseOk h ∧ MoveOk m) (hv : VF t.1 t.2) (hg : givE h from_ m = 0) (hn : t.1 < 0) : tmE h from_ m t = 2 := by
  unfold tmE; rw [if_neg (fun h => h.elim (fun k => k hb) (fun k => k hv)), if_neg (fun h => h hg), if_pos hn]
theorem tmE_ok {h : House} {from_ : Int} {m : Move} {t : Frac} (hb : HouseOk h ∧ MoveOk m) (hv : VF t.1 t.2) (hg : givE h from_ m = 0) (hn : ¬ t.1 < 0) : tmE h from_ m t = 0 := by
  unfold tmE; rw [if_neg (fun h => h.elim (fun k => k hb) (fun k => k hv)), if_neg (fun h => h hg), if_neg hn]
section
variable {h : House} {from_ : Int} {m : Move} {t : Frac}
theorem timed_ok (w : WfH h) (hs : m.1.size ≤ maxLen) {K : List Piece3 × Int → Prop} (h0 : tmE h from_ m t = 0 → Giv h from_ m → VF t.1 t.2 → K ((pl h from_ m).map pz, 0)) (h1 : tmE h from_ m t ≠ 0 → K ([], tmE h from_ m t)) : move_timed h from_ m t K := by
  unfold move_timed
  have bad : (¬ (HouseOk h ∧ MoveOk m) ∨ ¬ VF t.1 t.2) → K ([], 1) := fun hb => by
    have := h1
    rw [tmE_bad hb] at this
    exact this (by omega)
  refine ans_use (house_p h w) (fun hh => ?_) (fun hh => ?_)
  · rw [if_neg (by simp)]
    refine ans_use (move_p m hs) (fun hv => ?_) (fun hv => ?_)
    · rw [if_neg (by simp)]
      refine valid_ok ?_
      by_cases ht : VF t.1 t.2
      · rw [show (!decide (VF t.1 t.2)) = false by simp [ht]]
        unfold move_timed_j2
        rw [if_neg (by simp)]
        refine mpath_ok w hs (fun he g => ?_) (fun he => ?_)
        · rw [if_neg (by simp)]
          by_cases hn : t.1 < 0
          · rw [if_pos (by simpa using hn)]
            have := h1
            rw [tmE_neg ⟨hh, hv⟩ ht he hn] at this
            exact this (by omega)
          · rw [if_neg (by simpa using hn)]
            exact h0 (tmE_ok ⟨hh, hv⟩ ht he hn) g ht
        · rw [if_pos (by simpa using he)]
          have := h1
          rw [tmE_giv ⟨hh, hv⟩ ht he] at this
          exact this he
      · rw [show (!decide (VF t.1 t.2)) = true by simp [ht]]
        unfold move_timed_j2
        rw [if_pos rfl]
        exact bad (.inr ht)
    · rw [if_pos (by simp)]
      unfold move_timed_j2
      rw [if_pos rfl]
      exact bad (.inl (fun hb => hv hb.2))
  · rw [if_pos (by simp)]
    unfold move_timed_j2
    rw [if_pos rfl]
    exact bad (.inl (fun hb => hh hb.1))
end
section
variable {h : House} {from_ : Int} {m : Move} {q : Rat}
theorem mat_ok (w : WfH h) (hs : m.1.size ≤ maxLen) (hq : InM q) {K : Frac × Int → Prop} (h0 : tmE h from_ m (fr q) = 0 → Giv h from_ m → K (outO (atO (pl h from_ m) q))) (h1 : tmE h from_ m (fr q) ≠ 0 → K ((0, 0), tmE h from_ m (fr q))) : move_At h from_ m (fr q) K := by
  unfold move_At
  refine timed_ok w hs (fun he g hv => ?_) (fun he => ?_)
  · rw [if_neg (by simp)]
    exact qat_ok (path_good g) hq (h0 he g)
  · rw [if_pos (by simpa using he)]
    exact h1 he
theorem mhalt_ok (w : WfH h) (hs : m.1.size ≤ maxLen) (hq : InM q) {K : Frac × Int → Prop} (h0 : tmE h from_ m (fr q) = 0 → Giv h from_ m → K (outO (haltO (pl h from_ m) q (decide (m.2.1 > from_)) m.2.2.2.2))) (h1 : tmE h from_ m (fr q) ≠ 0 → K ((0, 0), tmE h from_ m (fr q))) : move_Halted h from_ m (fr q) K := by
  unfold move_Halted
  refine timed_ok w hs (fun he g hv => ?_) (fun he => ?_)
  · rw [if_neg (by simp)]
    have good := path_good g
    have b0 := g.move.2.2.2.2.1
    have b1 := g.move.2.2.2.2.2
    have hk := h0 he g
    unfold haltO at hk
    refine qat_ok good hq ?_
    cases hx : atO (pl h from_ m) q with
    | none =>
      rw [hx] at hk
      rw [if_pos (by simp [outO])]
      exact hk
    | some x =>
      rw [hx] at hk
      have ix := atO_in good hx
      rw [Option.bind_some] at hk
      rw [if_neg (by simp [outO])]
      refine qslope_ok good hq ?_
      cases hsl : slO (pl h from_ m) q with
      | none =>
        rw [hsl] at hk
        rw [if_pos (by simp [outO])]
        exact hk
      | some s =>
        rw [hsl] at hk
        have is := slO_in hsl
        rw [Option.bind_some] at hk
        rw [if_neg (by simp [outO])]
        refine mul_use is is (fun y ey hy => ?_) (fun ey => ?_)
        · rw [if_neg (by simp)]
          rw [ey, Option.bind_some] at hk
          unfold move_of
          rw [wI_id (x := 2 * m.2.2.2.2) (by omega) (by omega), ← fr_int (2 * m.2.2.2.2)]
          refine div_use hy (inm_int (by omega) (by omega)) (cast_ne (by omega)) (fun z ez hz => ?_) (fun ez => ?_)
          · rw [if_neg (by simp)]
            rw [ez, Option.bind_some] at hk
            by_cases hup : m.2.1 > from_
            · rw [if_pos (by simpa using hup)]
              rw [if_pos (by simpa using hup)] at hk
              refine add_ok ix hz ?_
              rw [res_chk]; exact hk
            · rw [if_neg (by simpa using hup)]
              rw [if_neg (by simpa using hup)] at hk
              refine sub_ok ix hz ?_
              rw [res_chk]; exact hk
          · rw [if_pos (by simp)]
            rw [ez] at hk; exact hk
        · rw [if_pos (by simp)]
          rw [ey] at hk; exact hk
  · rw [if_pos (by simpa using he)]
    exact h1 he
theorem lat_ok (g : Giv h from_ m) (hq : InM q) {K : Frac × Int → Prop} (hk : K (outO (atO (pl h from_ m) q))) : ref35_At from_ m (fr q) K := by
  unfold ref35_At
  exact rpath_ok g (piece_r (path_good g) hq (rat_ok (path_good g) hq hk))
theorem lhalt_ok (g : Giv h from_ m) (hq : InM q) {K : Frac × Int → Prop} (hk : K (outO (haltO (pl h from_ m) q (decide (m.2.1 > from_)) m.2.2.2.2))) : ref35_Halted from_ m (fr q) K := by
  unfold ref35_Halted
  have good := path_good g
  have b0 := g.move.2.2.2.2.1
  have b1 := g.move.2.2.2.2.2
  unfold haltO at hk
  refine rpath_ok g (lat_ok g hq ?_)
  cases hx : atO (pl h from_ m) q with
  | none =>
    rw [hx] at hk
    rw [if_pos (by simp [outO])]
    exact hk
  | some x =>
    rw [hx] at hk
    have ix := atO_in good hx
    rw [Option.bind_some] at hk
    rw [if_neg (by simp [outO])]
    refine piece_r good hq (rslope_ok good hq ?_)
    cases hsl : slO (pl h from_ m) q with
    | none =>
      rw [hsl] at hk
      rw [if_pos (by simp [outO])]
      exact hk
    | some s =>
      rw [hsl] at hk
      have is := slO_in hsl
      rw [Option.bind_some] at hk
      rw [if_neg (by simp [outO])]
      refine times_use is is (fun y ey hy => ?_) (fun ey => ?_)
      · rw [if_neg (by simp)]
        rw [ey, Option.bind_some] at hk
        unfold ref02_Of
        rw [wI_id (x := 2 * m.2.2.2.2) (by omega) (by omega), ← fr_int (2 * m.2.2.2.2)]
        refine rover_use hy (inm_int (by omega) (by omega)) (cast_ne (by omega)) (fun z ez hz => ?_) (fun ez => ?_)
        · rw [if_neg (by simp)]
          rw [ez, Option.bind_some] at hk
          by_cases hup : m.2.1 > from_
          · rw [if_pos (by simpa using hup)]
            rw [if_pos (by simpa using hup)] at hk
            refine radd_ok ix hz ?_
            rw [res_chk]; exact hk
          · rw [if_neg (by simpa using hup)]
            rw [if_neg (by simpa using hup)] at hk
            refine rsub_ok ix hz ?_
            rw [res_chk]; exact hk
        · rw [if_pos (by simp)]
          rw [ez] at hk; exact hk
      · rw [if_pos (by simp)]
        rw [ey] at hk; exact hk
end
/-- The law of times, when its example is right. -/
theorem times_law {h : House} {from_ : Int} {m : Move} {t : Frac} (w : WfH h) (hs : m.1.size ≤ maxLen) (i1 : IsI t.1) (i2 : IsI t.2) {K : Bool → Prop} (hk : K true) (aw : ∀ K' : Bool → Prop, K' true → law35_awake K') : law35_MoveTimes h from_ m t K := by
  unfold law35_MoveTimes
  refine aw _ ?_
  rw [if_neg (by simp)]
  refine few_ok h m w (fun b => ?_)
  cases b with
  | false => rw [if_pos (by simp)]; exact hk
  | true =>
    rw [if_neg (by simp)]
    -- what an error gives
    have bad : ∀ e : Int, e ≠ 0 → law35_MoveTimes_j3 from_ e e e m t (0, 0) (0, 0) (fun rt_8 => K rt_8) := fun e he => by
      unfold law35_MoveTimes_j3
      rw [if_pos (by simpa using he), if_pos (by simp), if_pos (by simp), if_pos (by simp)]
      simpa using hk
    have head : ∀ {x : Frac × Int} {y : Frac × Int}, (tmE h from_ m t ≠ 0 → x = ((0, 0), tmE h from_ m t) ∧ y = ((0, 0), tmE h from_ m t)) → (tmE h from_ m t = 0 → Giv h from_ m → VF t.1 t.2 → law35_MoveTimes_j3 from_ x.2 y.2 0 m t x.1 y.1 (fun rt_8 => K rt_8)) →
        ref35_Given h from_ m (fun r5 => (if (r5 == 1) = true then (law35_MoveTimes_j2 from_ x.2 y.2 r5 true m t x.1 y.1 (fun rt_8 => (K rt_8))) else (ref02_Valid t (fun r8 => (law35_MoveTimes_j2 from_ x.2 y.2 r5 (!r8) m t x.1 y.1 (fun rt_8 => (K rt_8))))))) := by
      intro x y hne hz
      refine given_r h from_ m w hs ?_
      by_cases hb : HouseOk h ∧ MoveOk m
      · rw [if_neg (by simpa using givE_ne1 hb)]
        refine rvalid_ok i1 i2 ?_
        by_cases hv : VF t.1 t.2
        · rw [show (!decide (VF t.1 t.2)) = false by simp [hv]]
          unfold law35_MoveTimes_j2
          rw [if_neg (by simp)]
          by_cases hg : givE h from_ m = 0
          · rw [hg, if_pos (by simp)]
            unfold law35_MoveTimes_j4
            by_cases hn : t.1 < 0
            · rw [if_pos (by simpa using hn)]
              obtain ⟨rfl, rfl⟩ := hne (by rw [tmE_neg hb hv hg hn]; omega)
              rw [tmE_neg hb hv hg hn]
              exact bad 2 (by omega)
            · rw [if_neg (by simpa using hn)]
              have g : Giv h from_ m := by
                have hse : setE h m = 0 := by
                  refine Classical.byContradiction (fun hne => ?_)
                  unfold givE at hg
                  rw [if_pos hne] at hg
                  exact hne hg
                have hf : ¬ findS h.2.2.1 m.1 < 0 := fun hf => by rw [setE_no hb hf] at hse; omega
                obtain ⟨f1, f2⟩ := findS_in _ _ hf
                refine giv_of hb.1 hb.2 f1 f2 (Classical.byContradiction (fun hnb => ?_))
                unfold givE at hg
                rw [if_neg (by simpa using hse), if_neg hnb] at hg
                omega
              exact hz (tmE_ok hb hv hg hn) g hv
          · rw [if_neg (by simpa using hg)]
            unfold law35_MoveTimes_j4
            rw [if_neg (by simp)]
            obtain ⟨rfl, rfl⟩ := hne (by rw [tmE_giv hb hv hg]; exact hg)
            rw [tmE_giv hb hv hg]
            exact bad _ hg
        · rw [show (!decide (VF t.1 t.2)) = true by simp [hv]]
          unfold law35_MoveTimes_j2
          rw [if_pos rfl]
          have e := tmE_bad (h := h) (from_ := from_) (m := m) (t := t) (.inr hv)
          obtain ⟨rfl, rfl⟩ := hne (by rw [e]; omega)
          rw [e]
          exact bad 1 (by omega)
      · rw [givE_bad hb, if_pos (by simp)]
        unfold law35_MoveTimes_j2
        rw [if_pos rfl]
        have e := tmE_bad (h := h) (from_ := from_) (m := m) (t := t) (.inl hb)
        obtain ⟨rfl, rfl⟩ := hne (by rw [e]; omega)
        rw [e]
        exact bad 1 (by omega)
    by_cases hv : VF t.1 t.2
    · obtain ⟨q, hq, rfl⟩ := fr_of_valid hv
      refine mat_ok w hs hq (fun he g => ?_) (fun he => ?_)
      · refine mhalt_ok w hs hq (fun _ _ => ?_) (fun hne => absurd he hne)
        refine head (fun hne => absurd he hne) (fun _ _ _ => ?_)
        unfold law35_MoveTimes_j3
        rw [if_neg (by simp)]
        refine lat_ok g hq (lhalt_ok g hq ?_)
        rw [if_pos (by simp), if_pos (by simp), if_pos (by simp)]
        simpa using hk
      · refine mhalt_ok w hs hq (fun hz => absurd hz he) (fun _ => ?_)
        exact head (fun _ => ⟨rfl, rfl⟩) (fun hz => absurd hz he)
    · have e := tmE_bad (h := h) (from_ := from_) (m := m) (t := t) (.inr hv)
      unfold move_At
      refine timed_ok w hs (fun hz => by rw [e] at hz; omega) (fun _ => ?_)
      rw [if_pos (by simp [e])]
      unfold move_Halted
      refine timed_ok w hs (fun hz => by rw [e] at hz; omega) (fun _ => ?_)
      rw [if_pos (by simp [e])]
      exact head (fun _ => ⟨rfl, rfl⟩) (fun hz => by rw [e] at hz; omega)
end Go.Proofs.YtieeiiibamkbmaaGreat.Am
namespace Go.Proofs.YtieeiiibamkbmaaGreat.Am
open Go
set_option linter.unusedVariables false
set_option linter.unusedSimpArgs false
set_option maxRecDepth 4000

theorem same_ok {L : List Piece3} (hl : L.length ≤ 1000) {K : Bool → Prop} (h : K true) : ref08_Same L L K := by
  unfold ref08_Same
  rw [if_neg (by simp)]
  unfold ref08_Same_l2
  refine go_all (L := fun m i => ref08_Same_l2N (K true) (fun rt_4 => K rt_4) m L L i) (n := (L.length : Int)) (k0 := K true) (by omega) ?_ ?_ h
  · intro hk
    unfold ref08_Same_l2N
    rw [if_neg (by simp)]
    exact hk
  · intro i m h0 h1 hm
    unfold ref08_Same_l2N
    rw [if_pos (by simpa using h1)]
    refine ⟨⟨h0, h1⟩, ⟨h0, h1⟩, ?_⟩
    rw [if_neg (by simp), wI_id (x := i + 1) (by omega) (by omega)]
    exact hm
theorem givE_giv {h : House} {from_ : Int} {m : Move} (hg : givE h from_ m = 0) : setE h m = 0 ∧ Giv h from_ m := by
  have hse : setE h m = 0 := by
    refine Classical.byContradiction (fun hne => ?_)
    unfold givE at hg
    rw [if_pos hne] at hg
    exact hne hg
  have hb : HouseOk h ∧ MoveOk m := Classical.byContradiction (fun hb => by rw [setE_bad hb] at hse; omega)
  have hf : ¬ findS h.2.2.1 m.1 < 0 := fun hf => by rw [setE_no hb hf] at hse; omega
  obtain ⟨f1, f2⟩ := findS_in _ _ hf
  refine ⟨hse, giv_of hb.1 hb.2 f1 f2 (Classical.byContradiction (fun hnb => ?_))⟩
  unfold givE at hg
  rw [if_neg (by simpa using hse), if_neg hnb] at hg
  omega
theorem givE_set {h : House} {from_ : Int} {m : Move} (hs : setE h m ≠ 0) : givE h from_ m = setE h m := by unfold givE; rw [if_pos hs]
/-- The law of paths, when its example is right. -/
theorem paths_law {h : House} {from_ : Int} {m : Move} (w : WfH h) (hs : m.1.size ≤ maxLen) {K : Bool → Prop} (hk : K true) (aw : ∀ K' : Bool → Prop, K' true → law35_awake K') : law35_MovePaths h from_ m K := by
  unfold law35_MovePaths
  refine aw _ ?_
  rw [if_neg (by simp)]
  refine few_ok h m w (fun b => ?_)
  cases b with
  | false => rw [if_pos (by simp)]; exact hk
  | true =>
    rw [if_neg (by simp)]
    refine mpath_ok w hs (fun hg g => ?_) (fun hg => ?_)
    · refine mend_ok w hs (fun _ _ => ?_) (fun hn => absurd hg hn)
      obtain ⟨hse, -⟩ := givE_giv hg
      refine reachE_p h m w hs (fun _ hh hv f1 f2 => ?_) (fun hn => absurd hse hn)
      obtain ⟨b, hb, hkb⟩ := reach_p (atSet_ h.2.2.1 (findS h.2.2.1 m.1)) m.2.1
      obtain ⟨c, hc, hkc⟩ := reach_r (atSet_ h.2.2.1 (findS h.2.2.1 m.1)) m.2.1
      have hbc : b = c := by rw [Bool.eq_iff_iff]; exact hb.trans hc.symm
      refine hkb _ (named_ok h m w hs (fun _ _ _ _ _ => ?_) (fun hn => absurd hse hn))
      rw [if_neg (by simp)]
      refine ⟨⟨f1, f2⟩, hkc _ ?_⟩
      rw [if_neg (by simp [hbc])]
      unfold law35_MovePaths_j2
      rw [if_neg (by simp)]
      refine given_r h from_ m w hs ?_
      rw [hg, if_neg (by simp)]
      refine rpath_ok g (same_ok (by rw [List.length_map]; have := (path_good g).few; omega) ?_)
      rw [if_pos rfl, if_pos (by simp)]
      unfold ref35_Distance
      obtain ⟨d0, d1, de⟩ := dist_eq g.f0 g.f1 g.t0 g.t1
      rw [show iMax (wI64 (from_ - m.2.1)) (wI64 (m.2.1 - from_)) = dist from_ m.2.1 from de]
      refine time_r g.move d0 d1 ?_
      rw [if_pos (by simp)]
      simpa using hk
    · refine mend_ok w hs (fun hz => absurd hz hg) (fun _ => ?_)
      by_cases hse : setE h m = 0
      · refine reachE_p h m w hs (fun _ hh hv f1 f2 => ?_) (fun hn => absurd hse hn)
        obtain ⟨b, hb, hkb⟩ := reach_p (atSet_ h.2.2.1 (findS h.2.2.1 m.1)) m.2.1
        obtain ⟨c, hc, hkc⟩ := reach_r (atSet_ h.2.2.1 (findS h.2.2.1 m.1)) m.2.1
        have hbc : b = c := by rw [Bool.eq_iff_iff]; exact hb.trans hc.symm
        refine hkb _ (named_ok h m w hs (fun _ _ _ _ _ => ?_) (fun hn => absurd hse hn))
        rw [if_neg (by simp)]
        refine ⟨⟨f1, f2⟩, hkc _ ?_⟩
        rw [if_neg (by simp [hbc])]
        unfold law35_MovePaths_j2
        rw [if_neg (by simp)]
        refine given_r h from_ m w hs ?_
        rw [if_pos (by simpa using hg), if_pos (by simp), if_pos (by simp), if_pos (by simp)]
        simpa using hk
      · refine reachE_p h m w hs (fun hz => absurd hz hse) (fun _ => ?_)
        refine named_ok h m w hs (fun hz => absurd hz hse) (fun _ => ?_)
        rw [givE_set hse]
        rw [if_pos (by simpa using hse), if_pos (by simp), if_pos (by simp), if_pos (by simp), if_pos (by simp), if_pos (by simp)]
        simpa using hk

/-! The example. -/
abbrev exH : House := (((⟨#[104]⟩ : ByteArray), 5000, [((⟨#[115]⟩ : ByteArray), 0, 0, 5000, 1000, [0, 1000], 0, 0, 1, 1, 0, [], [])], []))
abbrev exM : Move := ((⟨#[115]⟩ : ByteArray), 1000, 100, 50, 100)
theorem small1 (c : UInt8) : (⟨#[c]⟩ : ByteArray).size ≤ maxLen := by show (1 : Nat) ≤ maxLen; unfold maxLen; omega
theorem isN_of {s : ByteArray} (hs : s.size ≤ maxLen) (h : decimal_IsName s (fun b => b = isN s) → isN s = true) : isN s = true :=
  h (ans_use (name_p hs) (fun h => by rw [h]) (fun h => by cases hb : isN s with | true => exact absurd hb h | false => rfl))
theorem one_letter {s : ByteArray} (h1 : slen s = 1) (h2 : sEq s sNil = false) (h3 : 97 ≤ strByte s 0 ∧ strByte s 0 ≤ 122) {b : Bool} (h : decimal_IsName s (fun r => r = b)) : b = true := by
  have w1 : wI64 (0 + 1) = 1 := by decide
  have let1 : ∀ K : Bool → Prop, decimal_letter (strByte s 0) K → K true := fun K hk => by
    unfold decimal_letter at hk
    rw [if_pos (by simp only [decide_eq_true_eq]; omega), if_pos (by simp only [decide_eq_true_eq]; omega)] at hk
    exact hk
  unfold decimal_IsName at h
  rw [if_pos (by rw [h2]; rfl), if_pos (by rw [h1]; decide)] at h
  have h := let1 _ h.2
  rw [if_pos rfl] at h
  unfold decimal_word decimal_word_l2 at h
  obtain ⟨n, h⟩ := h
  cases n with
  | zero => exact h.elim
  | succ n =>
    unfold decimal_word_l2N at h
    rw [if_pos (by rw [h1]; decide)] at h
    have h := let1 _ h.2
    rw [if_pos rfl, w1] at h
    cases n with
    | zero => exact h.elim
    | succ n =>
      unfold decimal_word_l2N at h
      rw [if_neg (by rw [h1]; decide), h1] at h
      rw [← h]; decide
theorem isN_h : isN (⟨#[104]⟩ : ByteArray) = true := isN_of (small1 _) (fun h => one_letter rfl (by cases hb : sEq (⟨#[104]⟩ : ByteArray) sNil with | false => rfl | true => rw [sEq_iff] at hb; have := congrArg ByteArray.size hb; cases this) (by decide) h)
theorem isN_s : isN (⟨#[115]⟩ : ByteArray) = true := isN_of (small1 _) (fun h => one_letter rfl (by cases hb : sEq (⟨#[115]⟩ : ByteArray) sNil with | false => rfl | true => rw [sEq_iff] at hb; have := congrArg ByteArray.size hb; cases this) (by decide) h)
theorem ex_find : findS exH.2.2.1 exM.1 = 0 := by
  rcases findS_spec exH.2.2.1 exM.1 with ⟨_, h⟩ | ⟨h0, h1, -, -⟩
  · exact absurd rfl (h 0 (by decide) (by decide))
  · have : findS exH.2.2.1 exM.1 < 1 := h1
    omega
theorem ex_set : SetOk ((⟨#[115]⟩ : ByteArray), 0, 0, 5000, 1000, [0, 1000], 0, 0, 1, 1, 0, [], []) := by
  refine ⟨isN_s, by decide, by decide, by decide, by decide, ⟨by decide, fun j j0 j1 => ?_⟩, by decide, by decide, by decide, by decide, by decide, ⟨by decide, fun j j0 j1 => ?_⟩, ⟨by decide, fun j j0 j1 => ?_, by decide⟩⟩
  · have : j < 2 := j1
    have : j = 0 ∨ j = 1 := by omega
    rcases this with rfl | rfl <;> decide
  · have : j < 0 := j1
    omega
  · have : j < 0 := j1
    omega
theorem ex_house : HouseOk exH := by
  refine ⟨isN_h, by decide, by decide, ⟨by decide, fun j j0 j1 => ?_⟩, fun i i0 i1 => ?_⟩
  · have : j < 0 := j1
    omega
  · have : i < 1 := i1
    have : i = 0 := by omega
    subst this
    exact ⟨ex_set, by decide, ex_find⟩
theorem ex_move : MoveOk exM := ⟨isN_s, by decide, by decide, by decide, by decide⟩
theorem ex_wf : WfH exH := by
  refine ⟨small1 _, by show (1 : Nat) ≤ maxLen; unfold maxLen; omega, fun s hs => ?_, by show (0 : Nat) ≤ maxLen; omega, fun x hx => by cases hx⟩
  rw [List.mem_singleton] at hs
  subst hs
  exact ⟨small1 _, (by show (2 : Nat) ≤ maxLen; unfold maxLen; omega), (by show (0 : Nat) ≤ maxLen; omega), (fun x hx => by cases hx), (by show (0 : Nat) ≤ maxLen; omega), (fun x hx => by cases hx)⟩
theorem ex_giv : givE exH 0 exM = 0 := by
  have hse : setE exH exM = 0 := setE_yes ⟨ex_house, ex_move⟩ (by rw [ex_find]; decide)
  unfold givE
  rw [if_neg (by rw [hse]; decide), if_pos]
  unfold Both
  rw [ex_find]
  decide
theorem ex_dist : dist 0 exM.2.1 = 1000 := by decide
theorem ex_pf : Pf 1000 exM.2.2.2.1 exM.2.2.2.2 exM.2.2.1 := ⟨by decide, by decide, by decide, by decide, by decide, by decide, by decide, by decide⟩
theorem ex_top : topw 1000 exM = 100 := by
  refine top_one (topw_p ex_pf).1 ⟨by decide, by decide, fun x h1 h2 => ?_⟩
  have : x ≤ 100 := h2
  omega
def exL : List RP := (cvR 1000 50 100 100).map (fU 0)
theorem ex_path : pl exH 0 exM = exL := by
  unfold pl pathL cvL
  rw [ex_dist, if_neg (by decide), if_neg (by decide), ex_top]
  rfl
theorem ex_time : fr (cvT (dist 0 exM.2.1) exM) = (23, 2) := by
  unfold cvT
  rw [ex_dist, if_neg (by decide), ex_top]
  show fr (T3 1000 50 100 100) = (23, 2)
  decide +kernel
theorem ex_good : Good exL := by
  rw [← ex_path]
  exact path_good (givE_giv ex_giv).2
theorem ex_piece : pcI exL 2 = 1 := by
  refine pc_one (pc_is ex_good 2) ⟨⟨by omega, by show (1 : Int) < ((exL.length : Nat) : Int); decide +kernel⟩, fun j j0 j1 => ?_, fun j j1 j0 j2 => ?_⟩
  · have : j = 0 ∨ j = 1 := by omega
    rcases this with rfl | rfl <;> decide +kernel
  · have h4 : exL.length = 4 := by decide +kernel
    have : j = 2 ∨ j = 3 := by omega
    rcases this with rfl | rfl <;> decide +kernel
theorem ex_at : atO exL 2 = some 100 := by
  unfold atO
  rw [ex_piece, if_neg (by decide)]
  decide +kernel
theorem ex_sl : slO exL 2 = some 100 := by
  unfold slO
  rw [ex_piece, if_neg (by decide)]
  decide +kernel
theorem ex_halt : haltO exL 2 true 100 = some 150 := by
  unfold haltO
  rw [ex_at, ex_sl]
  decide +kernel
theorem ex_tm : tmE exH 0 exM (fr 2) = 0 := tmE_ok ⟨ex_house, ex_move⟩ (valid_fr inm_two) ex_giv (by decide)
theorem awake_ok (K : Bool → Prop) (hk : K true) : law35_awake K := by
  unfold law35_awake law35_example law35_whole
  dsimp only
  refine mend_ok (h := exH) (m := exM) ex_wf (small1 _) (fun _ _ => ?_) (fun hn => absurd ex_giv hn)
  rw [ex_time, ← fr_two]
  refine mat_ok (h := exH) (m := exM) ex_wf (small1 _) inm_two (fun _ _ => ?_) (fun hn => absurd ex_tm hn)
  refine mhalt_ok (h := exH) (m := exM) ex_wf (small1 _) inm_two (fun _ _ => ?_) (fun hn => absurd ex_tm hn)
  rw [show (decide (exM.2.1 > 0)) = true from rfl, ex_path, ex_at, ex_halt]
  rw [show outO (some 100) = ((100, 1), 0) by decide +kernel, show outO (some 150) = ((150, 1), 0) by decide +kernel]
  exact hk

/-! Any argument. -/
theorem wf_int {n : Int} (h : Wf (.int .i64) n) : IsI n := by
  have h : (decide (IntKind.i64.min ≤ n) && decide (n ≤ IntKind.i64.max)) = true := h
  rw [Bool.and_eq_true, decide_eq_true_eq, decide_eq_true_eq] at h
  have h1 : IntKind.i64.min = -9223372036854775808 := by decide
  have h2 : IntKind.i64.max = 9223372036854775807 := by decide
  rw [h1, h2] at h
  exact ⟨h.1, by omega⟩
theorem wf_mem {e : Ty} {l : List e.den} (h : ∀ (i : Nat) (y : e.den), l[i]? = some y → Wf e y) : ∀ x ∈ l, Wf e x := fun x hx => by
  obtain ⟨i, hi⟩ := List.mem_iff_getElem?.1 hx
  exact h i x hi
theorem wf_set {s : Set_} (h : Wf tSet_ s) : WfS s := by
  obtain ⟨h1, -, -, -, -, h2, -, -, -, -, -, h3, h4⟩ := h
  exact ⟨h1, h2.1, h3.1, (fun x hx => (wf_mem (e := tItem) h3.2 x hx).1), h4.1, (fun x hx => (wf_mem (e := tBrick) h4.2 x hx).1)⟩
theorem wf_house {h : House} (w : Wf tHouse h) : WfH h := by
  obtain ⟨h1, -, h2, h3⟩ := w
  exact ⟨h1, h2.1, (fun s hs => wf_set (wf_mem (e := tSet_) h2.2 s hs)), h3.1, (fun x hx => (wf_mem (e := tRoof) h3.2 x hx).1)⟩
theorem plain_MoveTimes (x : dens [tHouse, .int .i64, tMove, tFrac]) (h : WfArgs [tHouse, .int .i64, tMove, tFrac] x) : law35_MoveTimes x.1 x.2.1 x.2.2.1 x.2.2.2.1 (fun r => r = true) := by
  obtain ⟨h1, h2, h3, h4, -⟩ := h
  exact times_law (wf_house h1) h3.1 (wf_int h4.1) (wf_int h4.2) rfl awake_ok
theorem plain_MovePaths (x : dens [tHouse, .int .i64, tMove]) (h : WfArgs [tHouse, .int .i64, tMove] x) : law35_MovePaths x.1 x.2.1 x.2.2.1 (fun r => r = true) := by
  obtain ⟨h1, h2, h3, -⟩ := h
  exact paths_law (wf_house h1) h3.1 rfl awake_ok
end Go.Proofs.YtieeiiibamkbmaaGreat.Am
