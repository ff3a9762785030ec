/- The abstract machine's append, make, and literals. Conditions: none; these are lemmas. -/
import Derived.Test.YtieeiiibamkbmaaGreatAmK
import Derived.Maps.AppendAt
namespace Go.Proofs.YtieeiiibamkbmaaGreat.Am
open Go Go.RowKit
set_option linter.unusedVariables false
set_option linter.unusedSimpArgs false

section
variable {P : Program} {nt : Nat} {Γ : List Fe} {C : Seat} {Q : Exit → Act → World → Prop} {o : Oper} {S : St} {r : Nat → RV} {h : Hp} {io : Nat → Value} {a : Act} {w : World}
theorem unpackZ_len : ∀ e : Ty, (unpackZ e).length = e.cells
  | .int _ => rfl
  | .bool => rfl
  | .str => rfl
  | .slice _ => rfl
  | .pair a b => by simp [unpackZ, Ty.cells, unpackZ_len a, unpackZ_len b]
  | .one a => by simp [unpackZ, Ty.cells, unpackZ_len a]
  | .unit => rfl
theorem blk_slice {v : Value} {A : Option Addr} {n c : Nat} (hv : v = .slice A n c) : v.ownBlock = blkOf v := by subst hv; cases A <;> rfl
theorem own_blk {base : Nat} {e : TypeId} {s n : Nat} {v : Value} {cs : List Value} (ho : w.ownsRow base e s v n cs) : v.ownBlock = blkOf v := by
  rcases ho.2 with ⟨rfl, _⟩ | ⟨g, cap, cur, rfl, _⟩ <;> rfl
/-- append, done: to a row of one's own, or to nil. -/
theorem append_run {t te : TypeId} {e : Ty} {i : TypeInfo} {c : Call} {v u : Value} {n : Nat} {cs : List Value} {ys : List e.den} {N : Nat → Prop}
    (ho : o.op = .call c) (hb : c.callee = .builtin .append) (hty : c.argTypes = #[t, t]) (hargs : c.args.map a.eval = #[v, u])
    (ht : P.underlying t = some (.slice te)) (hi : P.info? te = some i) (hz : zeroOk P te e = true) (hbig : 0 < i.bytes ∧ i.bytes ≤ 65536 ∧ 0 < i.size) (hn : n + ys.length ≤ 1073741824)
    (hown : w.ownsRow 0 te e.cells v n cs)
    (hu : (u = .slice none 0 0 ∧ ys = []) ∨ ∃ ad c, u = .slice (some ad) ys.length c ∧ ∃ news : List Value, news.length = ys.length * e.cells ∧ (∀ u ∈ news, u.oneCell' = true) ∧ repE w N e ys news ∧ ∀ (j : Nat) (u : Value), news[j]? = some u → w.cell? (ad.add j) = some u) :
    ∃ v' w' news, (execOp a.eval o).run P w = .ok (.value v') w' ∧ w'.ownsRow 0 te e.cells v' (n + ys.length) (cs ++ news) ∧ w.grownBy w' v.ownBlock ∧ (v'.ownBlock = v.ownBlock ∨ v'.ownBlock = some w.heap.size) ∧
      (∀ u ∈ news, u.oneCell' = true) ∧ repE w N e ys news := by
  obtain ⟨i', z, h1, h2, h3, h4⟩ := zeroOk_some hz
  rw [hi] at h1
  injection h1 with h1
  subst h1
  have hzs : z.cells.size = e.cells := by
    have := repC_len (isZs_ok (w := w) (N := fun _ => False) h3)
    rw [unpackZ_len] at this
    simpa using this.symm
  rcases hu with ⟨rfl, rfl⟩ | ⟨ad, q, rfl, news, h5, h6, h7, h8⟩
  · refine ⟨v, w, [], ?_, by simpa using hown, ⟨rfl, rfl, rfl, Nat.le_refl _, fun _ _ _ => rfl⟩, .inl rfl, by simp, repE_nil⟩
    have := run_append_owned_none (P := P) w 0 t o.type te i e.cells ht hi v n cs hown
    simp [execOp, ho, resolve, hb, invoke, builtin, hargs, hty, this]
  · obtain ⟨v', w', h9, h10, h11, _, h12⟩ := run_append_own_at (P := P) w 0 t o.type te i z e.cells i.bytes ht hi h2 h4 rfl hzs (by omega) v n cs hown ad ys.length q news h5 h8 h6 (by simp only [maxLen]; omega)
      (by have := Nat.mul_le_mul hn hbig.2.1; omega) (Nat.zero_le _)
    refine ⟨v', w', news, ?_, h10, h11, h12, h6, h7⟩
    simp [execOp, ho, resolve, hb, invoke, builtin, hargs, hty, h9]
theorem ok_append {c : Call} {s x : RV} {K : Eff → Prop} (ho : o.op = .call c) (hb : c.callee = .builtin .append) (hd : dstOk nt o = true) (hargs : argRVs P S c = [s, x]) (hs : c.args.size ≤ c.argTypes.size)
    (hk : appendK P S o.dst c.argTypes.toList s x K) : ∃ e, K e ∧ OpOk P nt o S e := by
  unfold appendK at hk
  split at hk
  · rename_i t t' e htys
    split at hk
    · rename_i te p ht hx
      split at hk
      · rename_i ys hc
        split at hk
        · rename_i hcond
          obtain ⟨rfl, hte, hz, hany⟩ := hcond
          obtain ⟨hm, hk⟩ := hk
          cases hi : P.info? te with
          | none => simp [hi] at hany
          | some i =>
            simp only [hi, Option.any_some, decide_eq_true_eq] at hany
            refine newRow_ok hd hk (fun {C} r h hr hh hmore io a w R => ⟨?_⟩)
            obtain ⟨g1, g2⟩ := args_ok ho hr R hargs hs
            obtain ⟨v, g3, g4⟩ := g2 0 _ rfl
            obtain ⟨u, g5, g6⟩ := g2 1 _ rfl
            have g7 := map_two g1 g3 g5
            have hv : v = .slice none 0 0 := g4
            subst hv
            have hx' : asRow S x = some (.v (.slice e) ys) := by
              obtain ⟨e', xs, q1, _⟩ := asRow_ok R (fun k e => hh k (by rw [e]; simp [heapOf])) hx g6
              subst q1
              obtain ⟨q2, q3⟩ := castTy_some hc
              cases q2
              cases q3
              exact hx
            obtain ⟨v', w', news, f1, f2, f3, f4, f5, f6⟩ := append_run (o := o) (a := a) (w := w) (n := 0) (cs := []) (v := .slice none 0 0) (u := u) ho hb (by apply Array.ext'; exact htys) g7 ht hi hz hany (by simp only [most] at hm; omega) (World.ownsRow_nil w 0 te e.cells)
              (row_cells R (fun k e => hh k (by rw [e]; simp [heapOf])) hx' g6)
            refine ⟨h, none, w', v', _, R, (by rw [kill_none]; rfl), fun _ h => h, (fun k e => by cases e), f1, (keep_grown f3).mono (fun g _ hg => by simp [Value.ownBlock] at hg), (fun g hg => .inl ?_), (by simpa using f2), (by simpa using f5), (by simpa using f6)⟩
            rw [← own_blk f2] at hg
            rcases f4 with f4 | f4
            · rw [f4] at hg; simp [Value.ownBlock] at hg
            · rw [f4] at hg; simp at hg; omega
        · exact hk.elim
      · exact hk.elim
    · exact hk.elim
  · rename_i t t' k htys
    split at hk
    · rename_i te te' e xs p ht hkk hx
      split at hk
      · rename_i ys hc
        split at hk
        · rename_i hcond
          obtain ⟨rfl, rfl, hz, hany⟩ := hcond
          obtain ⟨hm, hk⟩ := hk
          cases hi : P.info? te with
          | none => simp [hi] at hany
          | some i =>
            simp only [hi, Option.any_some, decide_eq_true_eq] at hany
            refine newRow_ok hd hk (fun {C} r h hr hh hmore io a w R => ⟨?_⟩)
            obtain ⟨g1, g2⟩ := args_ok ho hr R hargs hs
            obtain ⟨v, g3, g4⟩ := g2 0 _ rfl
            obtain ⟨u, g5, g6⟩ := g2 1 _ rfl
            have g7 := map_two g1 g3 g5
            have hk' : h k = some (.row te e xs) := (hh k (by simp)).trans hkk
            have hv : v = io k := g4.2 (by rw [hk']; simp)
            subst hv
            obtain ⟨cs, f7, f8, f9⟩ := R.heap k _ hk'
            have hx' : asRow S x = some (.v (.slice e) ys) := by
              obtain ⟨e', xs, q1, _⟩ := asRow_ok R (fun k e => hh k (by rw [e]; simp [heapOf])) hx g6
              subst q1
              obtain ⟨q2, q3⟩ := castTy_some hc
              cases q2
              cases q3
              exact hx
            obtain ⟨v', w', news, f1, f2, f3, f4, f5, f6⟩ := append_run (o := o) (a := a) (w := w) (n := xs.length) (cs := cs) (v := io k) (u := u) ho hb (by apply Array.ext'; exact htys) g7 ht hi hz hany (by simp only [most] at hm; omega) f7
              (row_cells R (fun k e => hh k (by rw [e]; simp [heapOf])) hx' g6)
            refine ⟨h, some k, w', v', _, R, ?_, fun _ h => h, (fun k' e' => by injection e' with e'; subst e'; exact ⟨te, e, xs, hk'⟩), f1, (keep_grown f3).mono (fun g _ hg => ⟨k, rfl, by rw [← own_blk f7]; exact hg⟩), (fun g hg => ?_), (by rw [List.length_append]; exact f2), ?_, repE_app f9 f6 f7.1⟩
            · rw [app_one]
              funext j
              simp only [Hp.set, Hp.kill, Option.some.injEq]
              by_cases hj : j = k
              · subst hj; simp
              · simp [hj, Ne.symm hj]
            · rw [← own_blk f2] at hg
              rcases f4 with f4 | f4
              · rw [f4, own_blk f7] at hg
                exact .inr ⟨k, rfl, hg⟩
              · rw [f4] at hg; simp at hg; exact .inl (by omega)
            · intro u hu
              rcases List.mem_append.1 hu with hu | hu
              · exact f8 u hu
              · exact f5 u hu
        · exact hk.elim
      · exact hk.elim
    · exact hk.elim
  · exact hk.elim
theorem repC_zero {N : Nat → Prop} : ∀ (e : Ty) {cs : List Value}, repC w N (unpackZ e) cs → rep w N e e.zero cs
  | .int _, [_], hr => by have := hr.1.2; simpa [Ty.zero] using this
  | .bool, [_], hr => by have := hr.1.2; simpa [Ty.zero] using this
  | .str, [_], hr => by have := hr.1.2; simpa [Ty.zero] using this
  | .slice _, [_], hr => ⟨_, rfl, .inl ⟨hr.1, rfl⟩⟩
  | .unit, [], _ => rfl
  | .one a, cs, hr => repC_zero a hr
  | .pair a b, cs, hr => by
    have hl := repC_len hr
    simp only [unpackZ, List.length_append, unpackZ_len] at hl
    refine ⟨cs.take a.cells, cs.drop a.cells, (List.take_append_drop _ _).symm, repC_zero a ?_, repC_zero b ?_⟩
    · have := repC_cut (off := 0) (n := a.cells) hr (by simp [unpackZ, unpackZ_len])
      simpa [unpackZ, ← unpackZ_len a] using this
    · have := repC_cut (off := a.cells) (n := b.cells) hr (by simp [unpackZ, unpackZ_len])
      have e1 : ((unpackZ (a.pair b)).drop a.cells).take b.cells = unpackZ b := by
        simp only [unpackZ]
        rw [List.drop_append_of_le_length (by rw [unpackZ_len]; exact Nat.le_refl _)]
        rw [List.drop_of_length_le (by rw [unpackZ_len]; exact Nat.le_refl _), List.nil_append, List.take_of_length_le (by rw [unpackZ_len]; exact Nat.le_refl _)]
      have e2 : (cs.drop a.cells).take b.cells = cs.drop a.cells := List.take_of_length_le (by simp; omega)
      rw [e1, e2] at this
      exact this
  | .int _, [], hr => hr.elim
  | .int _, _ :: _ :: _, hr => hr.2.elim
  | .bool, [], hr => hr.elim
  | .bool, _ :: _ :: _, hr => hr.2.elim
  | .str, [], hr => hr.elim
  | .str, _ :: _ :: _, hr => hr.2.elim
  | .slice _, [], hr => hr.elim
  | .slice _, _ :: _ :: _, hr => hr.2.elim
  | .unit, _ :: _, hr => hr.elim
end
end Go.Proofs.YtieeiiibamkbmaaGreat.Am
