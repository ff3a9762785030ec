/- The abstract machine's new rows. Conditions: none; these are lemmas. -/
import Derived.Test.YtieeiiibamkbmaaGreatAmJ
namespace Go.Proofs.YtieeiiibamkbmaaGreat.Am
open Go Go.RowKit
set_option linter.unusedVariables false
set_option linter.unusedSimpArgs false

section
variable {P : Program} {nt : Nat} {Γ : List Fe} {C : Seat} {Q : Exit → Act → World → Prop} {o : Oper} {S : St} {r : Nat → RV} {h : Hp} {io : Nat → Value} {a : Act} {w : World}
/-- What an operation that makes a row must show. -/
structure Makes (P : Program) (C : Seat) (o : Oper) (r : Nat → RV) (h : Hp) (more : List (Nat × Blk)) (te : TypeId) (e : Ty) (xs : List e.den) (io : Nat → Value) (a : Act) (w : World) : Prop where
  ex : ∃ (h1 : Hp) (kk : Option Nat) (w1 : World) (v0 : Value) (cs : List Value), Rel C r h1 io a w ∧ h.app more = h1.kill kk ∧ (∀ k, h k = none → h1 k = none) ∧ (∀ k, kk = some k → ∃ te e xs, h1 k = some (.row te e xs)) ∧
    (execOp a.eval o).run P w = .ok (.value v0) w1 ∧ Keep (fun g => ∃ k, kk = some k ∧ blkOf (io k) = some g) w w1 ∧ (∀ g, blkOf v0 = some g → w.heap.size ≤ g ∨ ∃ k, kk = some k ∧ blkOf (io k) = some g) ∧
    w1.ownsRow 0 te e.cells v0 xs.length cs ∧ (∀ u ∈ cs, u.oneCell' = true) ∧ repE w (NN C.Nx io h1) e xs cs
theorem newRow_ok {te : TypeId} {e : Ty} {xs : List e.den} {more : List (Nat × Blk)} {rd : List Nat} {K : Eff → Prop} (hd : dstOk nt o = true) (hk : newRow S o.dst (.row te e xs) more rd K)
    (hrun : ∀ {C : Seat} (r : Nat → RV) (h : Hp), (∀ t ∈ opTmps o, r t = S.get t) → (∀ k ∈ rd, h k = S.hp k) → (∀ k ∈ more.map (·.1), h k = S.hp k) → ∀ io a w, Rel C r h io a w → Makes P C o r h more te e xs io a w) : ∃ e, K e ∧ OpOk P nt o S e := by
  unfold newRow at hk
  split at hk
  · rename_i d hdst
    split at hk
    · rename_i hn
      refine ⟨_, hk, ?_⟩
      intro C Q hnt r h hr hh io a w R
      obtain ⟨h1, kk, w1, v0, cs, q1, q2, q3, q4, q5, q6, q7, q8, q9, q10⟩ := (hrun r h hr (fun k hk => hh k (.inl (by simp [hk]))) (fun k hk => hh k (.inr (by simp only [List.map_cons]; exact List.mem_cons_of_mem _ hk))) io a w R).ex
      have hhd : h1 d = none := q3 d ((hh d (.inl (by simp))).trans hn)
      have hdl := dst_lt hd hnt d hdst
      unfold Oper.wp
      rw [q5]
      obtain ⟨io1, R1⟩ := q1.fresh hdl hhd kk q4 (.row te e xs) (.inr ⟨te, e, xs, rfl⟩) v0 q6 q7 (.row d) (fun io1 h1' hio hiod hd1 hborn hM => by
        refine ⟨⟨cs, by rw [hiod]; exact q8, q9, fun i x hx => ?_⟩, by simp [hd1], fun _ => hiod.symm⟩
        obtain ⟨es, q11, q12⟩ := q10 i x hx
        exact ⟨es, rep_step hM.stays q11, q12⟩)
      refine ⟨io1, ?_⟩
      rw [hdst, app_cons, q2]
      exact R1
    · exact hk.elim
  · exact hk.elim
theorem repE_nil {N : Nat → Prop} {e : Ty} {cs : List Value} : repE w N e [] cs := fun i x hx => by simp at hx
/-- The cells of a row that is read. -/
theorem flat_of {N : Nat → Prop} {e : Ty} {b : Nat} : ∀ (ys : List e.den) (q : Nat),
    (∀ (i : Nat) (x : e.den), ys[i]? = some x → ∃ es, rep w N e x es ∧ ∀ (j : Nat) (u : Value), es[j]? = some u → w.cell? ⟨b, q + i * e.cells + j, none⟩ = some u) →
    ∃ news : List Value, news.length = ys.length * e.cells ∧ (∀ u ∈ news, u.oneCell' = true) ∧ repE w N e ys news ∧ ∀ (j : Nat) (u : Value), news[j]? = some u → w.cell? ⟨b, q + j, none⟩ = some u
  | [], q, _ => ⟨[], by simp, by simp, repE_nil, by simp⟩
  | y :: ys, q, hy => by
    obtain ⟨es, h1, h2⟩ := hy 0 y rfl
    have hl := rep_len h1
    obtain ⟨news, h3, h4, h5, h6⟩ := flat_of ys (q + e.cells) (fun i x hx => by
      obtain ⟨fs, g1, g2⟩ := hy (i + 1) x (by simpa using hx)
      refine ⟨fs, g1, fun j u hu => ?_⟩
      have := g2 j u hu
      rw [show q + (i + 1) * e.cells + j = q + e.cells + i * e.cells + j by rw [Nat.add_mul, Nat.one_mul]; omega] at this
      exact this)
    refine ⟨es ++ news, ?_, ?_, ?_, ?_⟩
    · rw [List.length_append, h3, hl, List.length_cons, Nat.add_mul, Nat.one_mul, Nat.add_comm]
    · intro u hu
      rcases List.mem_append.1 hu with hu | hu
      · exact rep_one h1 u hu
      · exact h4 u hu
    · intro i x hx
      cases i with
      | zero =>
        simp only [List.getElem?_cons_zero, Option.some.injEq] at hx
        subst hx
        refine ⟨es, h1, fun j u hu => ?_⟩
        have := (List.getElem?_eq_some_iff.1 hu).1
        rw [List.getElem?_append_left (by omega)]
        simpa using hu
      | succ i =>
        simp only [List.getElem?_cons_succ] at hx
        obtain ⟨fs, g1, g2⟩ := h5 i x hx
        refine ⟨fs, g1, fun j u hu => ?_⟩
        rw [List.getElem?_append_right (by rw [hl, Nat.add_mul, Nat.one_mul]; omega)]
        rw [show (i + 1) * e.cells + j - es.length = i * e.cells + j by rw [hl, Nat.add_mul, Nat.one_mul]; omega]
        exact g2 j u hu
    · intro j u hu
      by_cases hj : j < es.length
      · rw [List.getElem?_append_left hj] at hu
        have := h2 j u hu
        simpa using this
      · rw [List.getElem?_append_right (by omega)] at hu
        have := h6 _ u hu
        rw [show q + e.cells + (j - es.length) = q + j by omega] at this
        exact this
theorem rep_cells {N : Nat → Prop} {e : Ty} {ys : List e.den} {u : Value} (hr : rep w N (.slice e) ys [u]) :
    (u = .slice none 0 0 ∧ ys = []) ∨ ∃ ad c, u = .slice (some ad) ys.length c ∧ ∃ news : List Value, news.length = ys.length * e.cells ∧ (∀ u ∈ news, u.oneCell' = true) ∧ repE w N e ys news ∧ ∀ (j : Nat) (u : Value), news[j]? = some u → w.cell? (ad.add j) = some u := by
  obtain ⟨v, h1, h2⟩ := hr
  injection h1 with h1
  subst h1
  rcases h2 with h2 | ⟨b, q, s, c, h2, h3, h4, h5⟩
  · exact .inl h2
  · right
    refine ⟨_, c, h2, ?_⟩
    cases ys with
    | nil => exact ⟨[], by simp, by simp, repE_nil, by simp⟩
    | cons y ys =>
      have hs : s = none := (h5 0 y rfl).1
      subst hs
      obtain ⟨news, g1, g2, g3, g4⟩ := flat_of (w := w) (b := b) (y :: ys) q (fun i x hx => by
        obtain ⟨_, _, _, es, g5, g6⟩ := h5 i x hx
        exact ⟨es, g5, g6⟩)
      exact ⟨news, g1, g2, g3, fun j u hu => by rw [addr_add]; exact g4 j u hu⟩
theorem row_cells {x : RV} {e : Ty} {ys : List e.den} {u : Value} (R : Rel C r h io a w) (hl : ∀ k, x = .row k → h k = S.hp k) (hx : asRow S x = some (.v (.slice e) ys)) (hu : repR w (NN C.Nx io h) io h x u) :
    (u = .slice none 0 0 ∧ ys = []) ∨ ∃ ad c, u = .slice (some ad) ys.length c ∧ ∃ news : List Value, news.length = ys.length * e.cells ∧ (∀ u ∈ news, u.oneCell' = true) ∧ repE w (NN C.Nx io h) e ys news ∧ ∀ (j : Nat) (u : Value), news[j]? = some u → w.cell? (ad.add j) = some u := by
  cases x with
  | p v =>
    cases v with
    | v q =>
      cases q with
      | v t y =>
        cases t <;> simp [asRow] at hx
        rename_i e'
        obtain ⟨rfl, hx⟩ := hx
        have hx := eq_of_heq hx
        subst hx
        exact rep_cells hu.2
      | nil e' =>
        simp [asRow] at hx
        obtain ⟨rfl, hx⟩ := hx
        have hx := eq_of_heq hx
        subst hx
        exact .inl ⟨hu, rfl⟩
    | agg ps => simp [asRow] at hx
  | row k =>
    have hk := hl k rfl
    simp only [asRow] at hx
    split at hx
    · rename_i te e' zs hs
      injection hx with hx
      cases hx
      rw [hs] at hk
      rw [hu.2 (by rw [hk]; simp)]
      obtain ⟨cs, h2, h3, h4⟩ := R.heap k _ hk
      have h2' := h2
      rcases h2.2 with ⟨h5, h6⟩ | ⟨g, cap, cur, h5, _⟩
      · exact .inl ⟨h5, List.eq_nil_of_length_eq_zero h6⟩
      · right
        exact ⟨_, _, h5, cs, h2.1, h3, h4, h2'.cells (g := g) (by rw [h5]; rfl)⟩
    · rename_i e' zs hs
      injection hx with hx
      cases hx
      rw [hs] at hk
      rw [hu.2 (by rw [hk]; simp)]
      exact rep_cells (R.heap k _ hk)
    · cases hx
  | _ => simp [asRow] at hx
theorem keep_grown {row : Option Nat} {w1 : World} (hg : w.grownBy w1 row) : Keep (fun g => row = some g) w w1 :=
  ⟨hg.os, hg.tape, hg.output, hg.size, fun k hk hn => hg.block k hk (fun e => hn e.symm)⟩
theorem repE_app {N : Nat → Prop} {e : Ty} {xs ys : List e.den} {cs ds : List Value} (h1 : repE w N e xs cs) (h2 : repE w N e ys ds) (hl : cs.length = xs.length * e.cells) : repE w N e (xs ++ ys) (cs ++ ds) := by
  intro i x hx
  by_cases hi : i < xs.length
  · rw [List.getElem?_append_left hi] at hx
    obtain ⟨es, g1, g2⟩ := h1 i x hx
    refine ⟨es, g1, fun j u hu => ?_⟩
    have := g2 j u hu
    rw [List.getElem?_append_left (List.getElem?_eq_some_iff.1 this).1]
    exact this
  · rw [List.getElem?_append_right (by omega)] at hx
    obtain ⟨es, g1, g2⟩ := h2 _ x hx
    refine ⟨es, g1, fun j u hu => ?_⟩
    have := g2 j u hu
    have hm : i * e.cells = (i - xs.length) * e.cells + xs.length * e.cells := by rw [← Nat.add_mul]; congr 1; omega
    rw [List.getElem?_append_right (by omega)]
    rw [show i * e.cells + j - cs.length = (i - xs.length) * e.cells + j by omega]
    exact this
end
end Go.Proofs.YtieeiiibamkbmaaGreat.Am
