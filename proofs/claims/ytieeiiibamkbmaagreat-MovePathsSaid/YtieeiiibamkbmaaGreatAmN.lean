/- The abstract machine's calls tell what the program's do. Conditions: what is known of the callees ('FeOk'). -/
import Derived.Test.YtieeiiibamkbmaaGreatAmM
namespace Go.Proofs.YtieeiiibamkbmaaGreat.Am
open Go Go.RowKit
set_option linter.unusedVariables false
set_option linter.unusedSimpArgs false

def Ty.noSl : Ty → Bool
  | .slice _ => false
  | .pair a b => a.noSl && b.noSl
  | .one a => a.noSl
  | _ => true
/-- The numbers of the variables handed over. -/
def handIo (gs : List Nat) (k : Nat) : Value := ptrTo (gs.getD (k - 1000) 0)
/-- The blocks of those that may be written. -/
def mutG (bs : List BS) (gs : List Nat) (g : Nat) : Prop := ∃ (j : Nat) (t : TypeId) (e : Ty), bs[j]? = some (BS.val true t e) ∧ gs[j]? = some g
/-- What the world is like when a function is entered. -/
structure Enter (w : World) (N : Nat → Prop) (gs : List Nat) (bs : List BS) (S0 : St) (vs : List Value) : Prop where
  lt : ∀ b, N b → b < w.heap.size
  one : ∀ (j j' : Nat) (t : TypeId) (e : Ty) (g : Nat), bs[j]? = some (BS.val true t e) → gs[j]? = some g → gs[j']? = some g → j = j'
  len : gs.length = bs.length
  wr : ∀ g, mutG bs gs g → N g
  regs : ∀ i, repR w N (handIo gs) S0.hp (S0.get i) (vs.getD i undef)
  heap : ∀ k b, S0.hp k = some b → own w N (handIo gs) S0.hp k b
/-- .. and when it has returned u. -/
structure Left (e : Fe) (w w' : World) (N : Nat → Prop) (gs : List Nat) (r : rden e.rs) (z : dens (oTys e.bs)) (u : Value) : Prop where
  keep : Keep (mutG e.bs gs) w w'
  res : e.own = none → repR w' N (fun _ => undef) (fun _ => none) (encR e.rs r) u
  row : ∀ te, e.own = some te → ∃ (el : Ty) (xs : List el.den) (cs : List Value), encR e.rs r = .p (.v (.v (.slice el) xs)) ∧ el.noSl = true ∧ w'.ownsRow w.heap.size te el.cells u xs.length cs ∧ (∀ u ∈ cs, u.oneCell' = true) ∧ repE w' N el xs cs
  outs : ∀ (j : Nat) (b : Blk), (encBs e.bs z)[j]? = some (some b) → own w' N (handIo gs) (fun _ => none) (1000 + j) b
/-- A function is entered, or done in place, and ends so. -/
def Doing (P : Program) (f : FuncId) (args : Array Value) (w : World) (R : Ending → World → Prop) : Prop :=
  (∃ fn, P.funcs[f]? = some fn ∧ fn.body.isSome = true ∧ (fn.name == "runtime.NumGoroutine") = false ∧ Calls P f args w R) ∨
  (∃ u, (callFunc f args).run P w = .ok (.value u) w ∧ R (.returned u) w)
theorem run_callFunc {P : Program} {f : FuncId} {args : Array Value} {w : World} {fn : Func} (g1 : P.funcs[f]? = some fn) (g2 : fn.body.isSome = true) (g3 : (fn.name == "runtime.NumGoroutine") = false) :
    (callFunc f args).run P w = .ok (.enter f args) w := by
  have hbn : fn.body ≠ none := fun e => by rw [e] at g2; cases g2
  have g3' : fn.name ≠ "runtime.NumGoroutine" := by simpa using g3
  unfold callFunc
  simp [g1, g3', hbn]
/-- What must be known of a function. -/
structure FeOk (P : Program) (e : Fe) : Prop where
  sl : e.own = none → e.sl = false → (e.rs.all Ty.noSl && (oTys e.bs).all Ty.noSl) = true
  calls : ∀ x y K, e.X x y K → ∃ r z, K r z ∧ ∀ w N gs vs, Enter w N gs e.bs (entry e.ps e.bs x y) vs → vs.length = e.ps.length →
    Doing P e.f vs.toArray w (fun en w' => ∃ u, en = .returned u ∧ Left e w w' N gs r z u)
section
variable {W W1 : World} {N N1 : Nat → Prop}
theorem rep_noSl : ∀ {t : Ty} {x : t.den} {cs}, t.noSl = true → rep W N t x cs → rep W1 N1 t x cs
  | .int _, _, _, _, h => h
  | .bool, _, _, _, h => h
  | .str, _, _, _, h => h
  | .slice _, _, _, hn, _ => by simp [Ty.noSl] at hn
  | .pair a b, _, _, hn, h => by
    simp only [Ty.noSl, Bool.and_eq_true] at hn
    simp only [rep] at h ⊢
    obtain ⟨c0, c1, h, h0, h1⟩ := h
    exact ⟨c0, c1, h, rep_noSl hn.1 h0, rep_noSl hn.2 h1⟩
  | .one a, _, _, hn, h => by
    simp only [Ty.noSl] at hn
    simp only [rep] at h ⊢
    exact rep_noSl (t := a) hn h
  | .unit, _, _, _, h => h
end
end Go.Proofs.YtieeiiibamkbmaaGreat.Am
