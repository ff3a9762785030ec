/- What a state of the abstract machine says of the program's memory, and how that is kept. Conditions: none; these are definitions and their first laws. -/
import Derived.Test.YtieeiiibamkbmaaGreatAmC
namespace Go.Proofs.YtieeiiibamkbmaaGreat.Am
open Go Go.RowKit
set_option linter.unusedVariables false

def Ty.flat : Ty → Bool
  | .int _ => true
  | .bool => true
  | .str => true
  | .slice _ => true
  | _ => false
/-- The cells cs hold x; none of its rows lies in a block of N. -/
def rep (W : World) (N : Nat → Prop) : (t : Ty) → t.den → List Value → Prop
  | .int k, x, cs => cs = [.int k x]
  | .bool, x, cs => cs = [.bool x]
  | .str, x, cs => cs = [.string x]
  | .slice e, xs, cs => ∃ v, cs = [v] ∧ ((v = .slice none 0 0 ∧ xs = []) ∨ ∃ b o s c, v = .slice (some ⟨b, o, s⟩) (List.length xs) c ∧ List.length xs ≤ c ∧ c ≤ maxLen ∧
      ∀ (i : Nat) (x : e.den), xs[i]? = some x → s = none ∧ ¬ N b ∧ b < W.heap.size ∧ ∃ es, rep W N e x es ∧ ∀ (j : Nat) (u : Value), es[j]? = some u → W.cell? ⟨b, o + i * e.cells + j, none⟩ = some u)
  | .pair a b, x, cs => ∃ c0 c1, cs = c0 ++ c1 ∧ rep W N a x.1 c0 ∧ rep W N b x.2 c1
  | .one a, x, cs => rep W N a x cs
  | .unit, _, cs => cs = []
def rep1 (W : World) (N : Nat → Prop) : Pv → Value → Prop
  | .v t x, u => t.flat = true ∧ rep W N t x [u]
  | .nil _, u => u = .slice none 0 0
def repC (W : World) (N : Nat → Prop) : List Pv → List Value → Prop
  | [], [] => True
  | p :: l, u :: m => rep1 W N p u ∧ repC W N l m
  | _, _ => False
def repV1 (W : World) (N : Nat → Prop) : V1 → Value → Prop
  | .v p, u => rep1 W N p u
  | .agg ps, u => ∃ cs : List Value, u = .agg cs.toArray ∧ repC W N ps cs
def repVs (W : World) (N : Nat → Prop) : List V1 → List Value → Prop
  | [], [] => True
  | p :: l, u :: m => repV1 W N p u ∧ repVs W N l m
  | _, _ => False
/-- A state's blocks, and its registers, as functions. -/
abbrev Hp := Nat → Option Blk
def Hp.app (h : Hp) (hs : List (Nat × Blk)) : Hp := fun k => look (h k) (hs.map (fun q => (q.1, some q.2))) k
def setR (r : Nat → RV) (d : Option Tmp) (v : RV) : Nat → RV := fun t => if d = some t then v else r t
def ptrTo (g : Nat) : Value := .pointer (some ⟨g, 0, none⟩)
def blkOf : Value → Option Nat
  | .pointer (some a) => some a.block
  | .slice (some a) _ _ => some a.block
  | _ => none
/-- What a register's value says. io: the number of a block's value. -/
def repR (W : World) (N : Nat → Prop) (io : Nat → Value) (h : Hp) : RV → Value → Prop
  | .p x, u => repV1 W N x u
  | .tup xs, u => ∃ us : List Value, u = .tuple us.toArray ∧ repVs W N xs us
  | .ptr k off, u => h k ≠ none ∧ ∃ g, io k = ptrTo g ∧ u = .pointer (some ⟨g, off, none⟩)
  | .cel p off, u => ∃ b o, u = .pointer (some ⟨b, o + off, none⟩) ∧ ¬ N b ∧ b < W.heap.size ∧ ∃ es, rep W N p.t p.x es ∧ ∀ (j : Nat) (c : Value), es[j]? = some c → W.cell? ⟨b, o + j, none⟩ = some c
  | .row k, u => h k ≠ none ∧ (h k ≠ some .dead → u = io k)
  | .mel k i off, u => h k ≠ none ∧ ∀ te e xs, h k = some (.row te e xs) → ∃ g n c, io k = .slice (some ⟨g, 0, none⟩) n c ∧ i < xs.length ∧ u = .pointer (some ⟨g, i * e.cells + off, none⟩)
  | .clos f first cap, u => ∃ a c : List Value, u = .func (.func f) a.toArray c.toArray ∧ repVs W N first a ∧ c.length = cap.length ∧ ∀ (j k : Nat), cap[j]? = some k → h k ≠ none ∧ ∃ g, io k = ptrTo g ∧ c[j]? = some (ptrTo g)
  | .und, u => u = undef
  | .unk, _ => True
/-- A block that the state may write. -/
def ownedB (io : Nat → Value) (h : Hp) (k g : Nat) : Prop :=
  ((∃ t cs, h k = some (.box true t cs)) ∨ (∃ te e xs, h k = some (.row te e xs))) ∧ blkOf (io k) = some g
/-- The blocks that are not to be relied on. -/
def NN (Nx : Nat → Prop) (io : Nat → Value) (h : Hp) (g : Nat) : Prop := Nx g ∨ ∃ k, ownedB io h k g
/-- Cells of a row: the elements, one after the other. -/
def repE (W : World) (N : Nat → Prop) (e : Ty) (xs : List e.den) (cs : List Value) : Prop :=
  ∀ (i : Nat) (x : e.den), xs[i]? = some x → ∃ es, rep W N e x es ∧ ∀ (j : Nat) (u : Value), es[j]? = some u → cs[i * e.cells + j]? = some u
/-- What a block says. -/
def own (W : World) (N : Nat → Prop) (io : Nat → Value) (h : Hp) (k : Nat) : Blk → Prop
  | .box w t cs => ∃ g vals, io k = ptrTo g ∧ W.heap[g]? = some (.cells vals t (0, 0)) ∧ vals.size = cs.length ∧ (w = false → ¬ ∃ k', ownedB io h k' g) ∧
      ∀ (j : Nat) (c : RV), cs[j]? = some c → ∃ v, vals[j]? = some v ∧ v.oneCell' = true ∧ repR W N io h c v
  | .row te e xs => ∃ cs, W.ownsRow 0 te e.cells (io k) xs.length cs ∧ (∀ u ∈ cs, u.oneCell' = true) ∧ repE W N e xs cs
  | .sealed e xs => rep W N (.slice e) xs [io k]
  | .dead => True
/-- Outside of G all that was there is as it was. -/
structure Keep (G : Nat → Prop) (w w' : World) : Prop where
  os : w'.os = w.os
  tape : w'.tape = w.tape
  output : w'.output = w.output
  size : w.heap.size ≤ w'.heap.size
  block : ∀ k, k < w.heap.size → ¬ G k → w'.heap[k]? = w.heap[k]?
/-- The setting of a call: the world at its beginning; the blocks that are not to be relied on; the variables handed over, and which of them may be written; the number of registers. -/
structure Seat where
  w0 : World
  Nx : Nat → Prop
  gs : List Nat
  G : Nat → Prop
  nt : Nat
structure Rel (C : Seat) (r : Nat → RV) (h : Hp) (io : Nat → Value) (a : Act) (w : World) : Prop where
  small : C.nt ≤ 1000 ∧ C.gs.length ≤ 1000
  size : a.tmps.size = C.nt
  defers : a.defers = []
  keep : Keep C.G C.w0 w
  nx : ∀ b, C.Nx b → b < C.w0.heap.size
  regs : ∀ t, repR w (NN C.Nx io h) io h (r t) (a.tmps.getD t undef)
  heap : ∀ k b, h k = some b → own w (NN C.Nx io h) io h k b
  inj : ∀ k k' g, ownedB io h k g → ownedB io h k' g → k = k'
  mine : ∀ k g, ownedB io h k g → C.w0.heap.size ≤ g ∨ (C.G g ∧ ∃ t cs, h k = some (.box true t cs))
  hand : ∀ j g, C.gs[j]? = some g → io (1000 + j) = ptrTo g

/-! First laws -/
theorem rep_len {W N} : ∀ {t : Ty} {x : t.den} {cs}, rep W N t x cs → cs.length = t.cells
  | .int _, _, _, h => by simp only [rep] at h; simp [h, Ty.cells]
  | .bool, _, _, h => by simp only [rep] at h; simp [h, Ty.cells]
  | .str, _, _, h => by simp only [rep] at h; simp [h, Ty.cells]
  | .slice _, _, _, h => by simp only [rep] at h; obtain ⟨v, rfl, _⟩ := h; simp [Ty.cells]
  | .pair _ _, _, _, h => by
    simp only [rep] at h
    obtain ⟨c0, c1, rfl, h0, h1⟩ := h
    simp [Ty.cells, rep_len h0, rep_len h1]
  | .one _, _, _, h => by simp only [rep] at h; simp [Ty.cells, rep_len h]
  | .unit, _, _, h => by simp only [rep] at h; simp [h, Ty.cells]
theorem rep_one {W N} : ∀ {t : Ty} {x : t.den} {cs}, rep W N t x cs → ∀ u ∈ cs, u.oneCell' = true
  | .int _, _, _, h => by simp only [rep] at h; subst h; simp [Value.oneCell']
  | .bool, _, _, h => by simp only [rep] at h; subst h; simp [Value.oneCell']
  | .str, _, _, h => by simp only [rep] at h; subst h; simp [Value.oneCell']
  | .slice _, _, _, h => by
    simp only [rep] at h
    obtain ⟨v, rfl, h⟩ := h
    rcases h with ⟨rfl, _⟩ | ⟨b, o, s, c, rfl, _⟩ <;> simp [Value.oneCell']
  | .pair _ _, _, _, h => by
    simp only [rep] at h
    obtain ⟨c0, c1, rfl, h0, h1⟩ := h
    intro u hu
    rcases List.mem_append.1 hu with hu | hu
    · exact rep_one h0 u hu
    · exact rep_one h1 u hu
  | .one _, _, _, h => by simp only [rep] at h; exact rep_one h
  | .unit, _, _, h => by simp only [rep] at h; subst h; simp
/-- Moving on: what was not to be written is as it was, and still not to be written. -/
def Stays (W W1 : World) (N N1 : Nat → Prop) : Prop := ∀ b, b < W.heap.size → ¬ N b → b < W1.heap.size ∧ W1.heap[b]? = W.heap[b]? ∧ ¬ N1 b
theorem rep_step {W W1 N N1} (hs : Stays W W1 N N1) : ∀ {t : Ty} {x : t.den} {cs}, rep W N t x cs → rep W1 N1 t x cs
  | .int _, _, _, h => h
  | .bool, _, _, h => h
  | .str, _, _, h => h
  | .slice e, xs, cs, h => by
    simp only [rep] at h ⊢
    obtain ⟨v, rfl, h⟩ := h
    refine ⟨v, rfl, ?_⟩
    rcases h with h | ⟨b, o, s, c, rfl, h1, h2, h3⟩
    · exact .inl h
    · refine .inr ⟨b, o, s, c, rfl, h1, h2, fun i x hx => ?_⟩
      obtain ⟨h4, h5, h6, es, h7, h8⟩ := h3 i x hx
      obtain ⟨h9, h10, h11⟩ := hs b h6 h5
      exact ⟨h4, h11, h9, es, rep_step hs h7, fun j u hu => (World.cell?_of_block (w := W) h10).trans (h8 j u hu)⟩
  | .pair _ _, _, _, h => by
    simp only [rep] at h ⊢
    obtain ⟨c0, c1, h, h0, h1⟩ := h
    exact ⟨c0, c1, h, rep_step hs h0, rep_step hs h1⟩
  | .one _, _, _, h => by simp only [rep] at h ⊢; exact rep_step hs h
  | .unit, _, _, h => h
section
variable {W W1 : World} {N N1 : Nat → Prop}
theorem rep1_step (hs : Stays W W1 N N1) : ∀ {p u}, rep1 W N p u → rep1 W1 N1 p u
  | .v _ _, _, h => ⟨h.1, rep_step hs h.2⟩
  | .nil _, _, h => h
theorem repC_step (hs : Stays W W1 N N1) : ∀ {l m}, repC W N l m → repC W1 N1 l m
  | [], [], _ => trivial
  | _ :: _, _ :: _, h => ⟨rep1_step hs h.1, repC_step hs h.2⟩
  | [], _ :: _, h => h
  | _ :: _, [], h => h
theorem repV1_step (hs : Stays W W1 N N1) : ∀ {p u}, repV1 W N p u → repV1 W1 N1 p u
  | .v _, _, h => rep1_step hs h
  | .agg _, _, ⟨cs, h, hc⟩ => ⟨cs, h, repC_step hs hc⟩
theorem repVs_step (hs : Stays W W1 N N1) : ∀ {l m}, repVs W N l m → repVs W1 N1 l m
  | [], [], _ => trivial
  | _ :: _, _ :: _, h => ⟨repV1_step hs h.1, repVs_step hs h.2⟩
  | [], _ :: _, h => h
  | _ :: _, [], h => h
theorem repC_len : ∀ {l m}, repC W N l m → l.length = m.length
  | [], [], _ => rfl
  | _ :: _, _ :: _, h => by simp [repC_len h.2]
  | [], _ :: _, h => h.elim
  | _ :: _, [], h => h.elim
theorem repC_app : ∀ {a b c d}, repC W N a c → repC W N b d → repC W N (a ++ b) (c ++ d)
  | [], _, [], _, _, h => h
  | _ :: _, _, _ :: _, _, h, k => ⟨h.1, repC_app h.2 k⟩
  | [], _, _ :: _, _, h, _ => h.elim
  | _ :: _, _, [], _, h, _ => h.elim
theorem repC_get : ∀ {l m} {j : Nat} {p : Pv}, repC W N l m → l[j]? = some p → ∃ u, m[j]? = some u ∧ rep1 W N p u
  | [], _, _, _, _, h => by simp at h
  | _ :: _, [], _, _, h, _ => h.elim
  | q :: l, u :: m, 0, p, h, hp => by
    simp only [List.getElem?_cons_zero, Option.some.injEq] at hp
    subst hp
    exact ⟨u, rfl, h.1⟩
  | q :: l, u :: m, j + 1, p, h, hp => by
    simp only [List.getElem?_cons_succ] at hp ⊢
    exact repC_get h.2 hp
theorem repC_of_get : ∀ {l : List Pv} {m : List Value}, l.length = m.length → (∀ (j : Nat) (p : Pv) (u : Value), l[j]? = some p → m[j]? = some u → rep1 W N p u) → repC W N l m
  | [], [], _, _ => trivial
  | [], _ :: _, h, _ => by simp at h
  | _ :: _, [], h, _ => by simp at h
  | p :: l, u :: m, h, hg => ⟨hg 0 p u rfl rfl, repC_of_get (by simpa using h) (fun j q v hq hv => hg (j + 1) q v (by simpa using hq) (by simpa using hv))⟩
theorem rep1_one : ∀ {p u}, rep1 W N p u → u.oneCell' = true
  | .v _ _, u, h => rep_one h.2 u (by simp)
  | .nil _, _, h => by simp only [rep1] at h; subst h; rfl
theorem repC_one {l m} (h : repC W N l m) : ∀ u ∈ m, u.oneCell' = true := by
  intro u hu
  obtain ⟨j, hj, rfl⟩ := List.mem_iff_getElem.1 hu
  have hl := repC_len h
  obtain ⟨v, hv, hr⟩ := repC_get h (List.getElem?_eq_getElem (by omega : j < l.length))
  rw [List.getElem?_eq_getElem hj] at hv
  injection hv with hv
  subst hv
  exact rep1_one hr
/-- Its cells are those of its parts. -/
theorem rep_unpack : ∀ {t : Ty} {x : t.den} {cs}, rep W N t x cs → repC W N (unpack t x) cs
  | .int _, _, _, h => by have h' := h; simp only [rep] at h; subst h; exact ⟨⟨rfl, h'⟩, trivial⟩
  | .bool, _, _, h => by have h' := h; simp only [rep] at h; subst h; exact ⟨⟨rfl, h'⟩, trivial⟩
  | .str, _, _, h => by have h' := h; simp only [rep] at h; subst h; exact ⟨⟨rfl, h'⟩, trivial⟩
  | .slice _, _, _, h => by have h' := h; simp only [rep] at h; obtain ⟨v, rfl, _⟩ := h; exact ⟨⟨rfl, h'⟩, trivial⟩
  | .pair _ _, _, _, h => by
    simp only [rep] at h
    obtain ⟨c0, c1, rfl, h0, h1⟩ := h
    exact repC_app (rep_unpack h0) (rep_unpack h1)
  | .one a, _, _, h => by simp only [rep] at h; exact rep_unpack (t := a) h
  | .unit, _, _, h => by simp only [rep] at h; subst h; trivial
theorem castTy_some {a b : Ty} {x : a.den} {y : b.den} (h : castTy a b x = some y) : ∃ e : a = b, e ▸ x = y := by
  unfold castTy at h
  split at h
  · rename_i e
    exact ⟨e, Option.some.inj h⟩
  · cases h
theorem castTy_self {a : Ty} (x : a.den) : castTy a a x = some x := by simp [castTy]
theorem rep_cast {p : Pv} {t : Ty} {x : t.den} {u : Value} (h : castTy p.t t p.x = some x) (hr : rep1 W N p u) : rep W N t x [u] := by
  obtain ⟨e, h⟩ := castTy_some h
  subst e
  subst h
  cases p with
  | v t x => exact hr.2
  | nil e => simp only [rep1] at hr; subst hr; exact ⟨_, rfl, .inl ⟨rfl, rfl⟩⟩
theorem rep_pack1 {t : Ty} {l r : List Pv} {x : t.den} {cs} (h : pack1 t l = some (x, r)) (hr : repC W N l cs) : ∃ c0 c1, cs = c0 ++ c1 ∧ rep W N t x c0 ∧ repC W N r c1 := by
  cases l with
  | nil => simp [pack1] at h
  | cons p l =>
    cases cs with
    | nil => exact hr.elim
    | cons u cs =>
      simp only [pack1] at h
      split at h
      · rename_i y hy
        simp only [Option.some.injEq, Prod.mk.injEq] at h
        obtain ⟨rfl, rfl⟩ := h
        exact ⟨[u], cs, rfl, rep_cast hy hr.1, hr.2⟩
      · cases h
theorem rep_pack : ∀ {t : Ty} {l r : List Pv} {x : t.den} {cs}, pack t l = some (x, r) → repC W N l cs → ∃ c0 c1, cs = c0 ++ c1 ∧ rep W N t x c0 ∧ repC W N r c1
  | .int _, _, _, _, _, h, hr => rep_pack1 h hr
  | .bool, _, _, _, _, h, hr => rep_pack1 h hr
  | .str, _, _, _, _, h, hr => rep_pack1 h hr
  | .slice _, _, _, _, _, h, hr => rep_pack1 h hr
  | .unit, l, r, x, cs, h, hr => by
    simp only [pack, Option.some.injEq, Prod.mk.injEq] at h
    obtain ⟨_, rfl⟩ := h
    exact ⟨[], cs, rfl, rfl, hr⟩
  | .one a, l, r, x, cs, h, hr => by
    simp only [pack] at h
    obtain ⟨c0, c1, h1, h2, h3⟩ := rep_pack (t := a) h hr
    exact ⟨c0, c1, h1, h2, h3⟩
  | .pair a b, l, r, x, cs, h, hr => by
    simp only [pack] at h
    split at h
    · rename_i x1 l1 h1
      split at h
      · rename_i y1 l2 h2
        simp only [Option.some.injEq, Prod.mk.injEq] at h
        obtain ⟨rfl, rfl⟩ := h
        obtain ⟨c0, c1, rfl, h3, h4⟩ := rep_pack h1 hr
        obtain ⟨d0, d1, rfl, h5, h6⟩ := rep_pack h2 h4
        exact ⟨c0 ++ d0, d1, by simp, ⟨c0, d0, rfl, h3, h5⟩, h6⟩
      · cases h
    · cases h
theorem rep_packAll {t : Ty} {l : List Pv} {x : t.den} {cs} (h : packAll t l = some x) (hr : repC W N l cs) : rep W N t x cs := by
  unfold packAll at h
  split at h
  · rename_i y hy
    injection h with h
    subst h
    obtain ⟨c0, c1, rfl, h1, h2⟩ := rep_pack hy hr
    cases c1 with
    | nil => simpa using h1
    | cons _ _ => exact h2.elim
  · cases h
theorem repV1_cells : ∀ {v u}, repV1 W N v u → repC W N v.cells u.cells.toList
  | .v p, u, h => by
    have h1 : u.cells = #[u] := by
      have := rep1_one h
      cases u <;> first | rfl | simp [Value.oneCell'] at this
    rw [h1]
    exact ⟨h, trivial⟩
  | .agg ps, _, ⟨cs, rfl, hc⟩ => by simpa [V1.cells, Value.cells] using hc
theorem rep_to {t : Ty} {v : V1} {x : t.den} {u : Value} (h : v.to t = some x) (hr : repV1 W N v u) : repV1 W N (V1.of t x) u ∧ rep W N t x u.cells.toList := by
  have hc := repV1_cells hr
  cases v with
  | v p =>
    unfold V1.to at h
    cases ha : t.isAgg
    · simp only [ha, cond_false] at h
      have h1 := rep_cast h hr
      have h2 : u.cells.toList = [u] := by
        have := rep1_one hr
        cases u <;> first | rfl | simp [Value.oneCell'] at this
      refine ⟨?_, by rw [h2]; exact h1⟩
      simp only [V1.of, ha, cond_false]
      refine ⟨?_, h1⟩
      cases t <;> first | rfl | (simp only [rep] at h1; cases h1; done) | (simp [Ty.isAgg] at ha; done)
    · simp [ha] at h
  | agg ps =>
    unfold V1.to at h
    cases ha : t.isAgg
    · simp [ha] at h
    · simp only [ha, cond_true] at h
      obtain ⟨cs, rfl, hp⟩ := hr
      have h1 := rep_packAll h hp
      refine ⟨?_, by simpa [Value.cells] using h1⟩
      simp only [V1.of, ha, cond_true]
      exact ⟨cs, rfl, rep_unpack h1⟩
theorem repV1_of {t : Ty} {x : t.den} {cs : List Value} (hr : rep W N t x cs) (ha : t.isAgg = true) : repV1 W N (V1.of t x) (.agg cs.toArray) := by
  simp only [V1.of, ha, cond_true]
  exact ⟨cs, rfl, rep_unpack hr⟩
end
end Go.Proofs.YtieeiiibamkbmaaGreat.Am
