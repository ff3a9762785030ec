/- The abstract machine's runs tell what the program's code does. Conditions: what is known of the callees ('FeOk') and of the parts of the run ('OrcOk'). -/
import Derived.Test.YtieeiiibamkbmaaGreatAmWE
namespace Go.Proofs.YtieeiiibamkbmaaGreat.Am
open Go Go.RowKit
set_option linter.unusedVariables false
set_option linter.unusedSimpArgs false

/-- What stands to be done at a point. -/
def itemsAt (c : Code) (p : Path) : List Item := .code (sub c p) :: todoOf c p
section
variable {P : Program} {b : Frame} {a : Act} {cs : List Frame} {w : World} {c : Code}
theorem after_ok : ∀ (p : Path), (∀ q, after c p = some q → Steps P (lone (b.at a (todoOf c p)) cs w) (lone (b.at a (itemsAt c q)) cs w)) ∧
    (after c p = none → Steps P (lone (b.at a (todoOf c p)) cs w) (lone { b.at a [] with mode := .returning } cs w))
  | [] => ⟨fun q h => by simp [after] at h, fun _ => .one step_end⟩
  | d :: p => by
    have ih := after_ok p
    unfold after todoOf
    cases hs : sub c p with
    | seq x y =>
      cases d with
      | zero =>
        refine ⟨fun q h => ?_, fun h => by simp at h⟩
        simp only [Option.some.injEq] at h
        subst h
        have : itemsAt c (1 :: p) = .code y :: todoOf c p := by simp [itemsAt, sub, hs, child, todoOf]
        rw [this]
        exact .refl _ _
      | succ d => exact ih
    | loop x =>
      refine ⟨fun q h => ?_, fun h => by simp at h⟩
      simp only [Option.some.injEq] at h
      subst h
      have : itemsAt c (0 :: p) = .code x :: .inLoop x :: todoOf c p := by simp [itemsAt, sub, hs, child, todoOf]
      rw [this]
      exact .one step_inLoop
    | block id x => exact ⟨fun q h => .head step_inBlock (ih.1 q h), fun h => .head step_inBlock (ih.2 h)⟩
    | _ => exact ih
theorem outOf_ok {id : Nat} : ∀ (p : Path) (r : Option Path), outOf c id p = some r → ∃ p', exitTo id (todoOf c p) = some (todoOf c p') ∧ after c p' = r
  | [], r, h => by simp [outOf] at h
  | d :: p, r, h => by
    unfold outOf at h
    cases hs : sub c p with
    | block id' x =>
      rw [hs] at h
      simp only at h
      have et : todoOf c (d :: p) = .inBlock id' :: todoOf c p := by simp [todoOf, hs]
      rw [et]
      cases hb : Nat.beq id' id with
      | true =>
        rw [hb, cond_true] at h
        injection h with h
        have := Nat.eq_of_beq_eq_true hb
        exact ⟨p, by simp [exitTo, this], h⟩
      | false =>
        rw [hb, cond_false] at h
        have hne : id' ≠ id := fun e => by subst e; simp at hb
        obtain ⟨p', h1, h2⟩ := outOf_ok p r h
        exact ⟨p', by simpa [exitTo, hne] using h1, h2⟩
    | seq x y =>
      rw [hs] at h
      obtain ⟨p', h1, h2⟩ := outOf_ok p r h
      cases d with
      | zero =>
        have et : todoOf c (0 :: p) = .code y :: todoOf c p := by simp [todoOf, hs]
        rw [et]
        exact ⟨p', by simpa [exitTo] using h1, h2⟩
      | succ d =>
        have et : todoOf c ((d + 1) :: p) = todoOf c p := by simp [todoOf, hs]
        rw [et]
        exact ⟨p', h1, h2⟩
    | loop x =>
      rw [hs] at h
      obtain ⟨p', h1, h2⟩ := outOf_ok p r h
      have et : todoOf c (d :: p) = .inLoop x :: todoOf c p := by simp [todoOf, hs]
      rw [et]
      exact ⟨p', by simpa [exitTo] using h1, h2⟩
    | _ =>
      rw [hs] at h
      obtain ⟨p', h1, h2⟩ := outOf_ok p r h
      have et : todoOf c (d :: p) = todoOf c p := by simp [todoOf, hs]
      rw [et]
      exact ⟨p', h1, h2⟩
end
/-- The machine comes from m to what an outcome says. -/
def Done (P : Program) (c : Code) (D : Seat) (m : Machine) (b : Frame) (cs : List Frame) : Out → Prop
  | .stop p S => ∃ io a w, Rel D S.get S.hp io a w ∧ Steps P m (lone (b.at a (itemsAt c p)) cs w)
  | .ret S => ∃ io a w todo, Rel D S.get S.hp io a w ∧ Steps P m (lone { b.at a todo with mode := .returning } cs w)
theorem Done.head {P : Program} {c : Code} {D : Seat} {m m1 : Machine} {b : Frame} {cs : List Frame} {oc : Out} (h : Steps P m m1) (hd : Done P c D m1 b cs oc) : Done P c D m b cs oc := by
  cases oc with
  | stop p S => obtain ⟨io, a, w, h1, h2⟩ := hd; exact ⟨io, a, w, h1, h.trans h2⟩
  | ret S => obtain ⟨io, a, w, todo, h1, h2⟩ := hd; exact ⟨io, a, w, todo, h1, h.trans h2⟩
/-- From a point in a state the machine comes to what an outcome says. -/
def Goes (C : Ctx) (p : Path) (S : St) (oc : Out) : Prop := ∀ (D : Seat), D.nt = C.nt → ∀ (b : Frame) (cs : List Frame) (io : Nat → Value) (a : Act) (w : World), Rel D S.get S.hp io a w → Done C.P C.body D (lone (b.at a (itemsAt C.body p)) cs w) b cs oc
def OrcOk (C : Ctx) (o : Orc) : Prop := ∀ x Φ, o.X x Φ → ∃ oc, Φ oc ∧ Goes C o.p (encS o.sl x) oc
section
variable {C : Ctx}
theorem findOrc_mem {S : St} {p : Path} {o : Orc} : ∀ {Λ : List Orc}, findOrc S Λ p = some o → o ∈ Λ ∧ o.p = p
  | [], h => by simp [findOrc] at h
  | q :: Λ, h => by
    unfold findOrc at h
    cases hc : q.p == p && (decS q.sl S).isSome with
    | false =>
      rw [hc, cond_false] at h
      obtain ⟨h1, h2⟩ := findOrc_mem h
      exact ⟨List.mem_cons_of_mem _ h1, h2⟩
    | true =>
      rw [hc, cond_true] at h
      injection h with h
      subst h
      simp only [Bool.and_eq_true, beq_iff_eq] at hc
      exact ⟨by simp, hc.1⟩
/-- The machine comes from what is to be done behind a point. -/
def GoesB (C : Ctx) (p : Path) (S : St) (oc : Out) : Prop := ∀ (D : Seat), D.nt = C.nt → ∀ (b : Frame) (cs : List Frame) (io : Nat → Value) (a : Act) (w : World), Rel D S.get S.hp io a w → Done C.P C.body D (lone (b.at a (todoOf C.body p)) cs w) b cs oc
theorem fin_ok {S : St} {Φ : Out → Prop} (h : C.fin S Φ) : ∃ y, Φ (.ret (encS C.rsl y)) ∧ ∀ (D : Seat) (b : Frame) (cs : List Frame) (io : Nat → Value) (a : Act) (w : World) (m : Machine) (todo : List Item), Rel D S.get S.hp io a w →
    Steps C.P m (lone { b.at a todo with mode := .returning } cs w) → Done C.P C.body D m b cs (.ret (encS C.rsl y)) := by
  unfold Ctx.fin at h
  split at h
  · rename_i y hy
    refine ⟨y, h, fun D b cs io a w m todo R hs => ?_⟩
    obtain ⟨io', R'⟩ := decS_ok R hy
    exact ⟨io', a, w, todo, R', hs⟩
  · exact h.elim
theorem run_ok (hm : C.P.follows .mixedOrders = true) (hΓ : ∀ e ∈ C.Γ, FeOk C.P e) {Λ : List Orc} (hΛ : ∀ o ∈ Λ, OrcOk C o) {stops : List (Path × List Slot)} :
    ∀ (n : Nat) (first : Bool) (p : Path) (S : St) (Φ : Out → Prop), run C Λ stops n first p S Φ → ∃ oc, Φ oc ∧ Goes C p S oc := by
  intro n
  induction n with
  | zero => intro first p S Φ h; exact h.elim
  | succ n ih =>
    intro first p S Φ h
    unfold run at h
    split at h
    · -- a stop
      split at h
      · rename_i sl _ y hy
        refine ⟨_, h, fun D hn b cs io a w R => ?_⟩
        obtain ⟨io', R'⟩ := decS_ok R hy
        exact ⟨io', a, w, R', .refl _ _⟩
      · exact h.elim
    · split at h
      · -- an oracle
        rename_i o ho
        have hom : o ∈ Λ ∧ o.p = p := by
          cases first with
          | true => simp at ho
          | false => exact findOrc_mem (by simpa using ho)
        unfold Orc.run at h
        split at h
        · rename_i x hx
          obtain ⟨oc, h1, h2⟩ := hΛ o hom.1 x _ h
          have h3 : ∀ (D : Seat), D.nt = C.nt → ∀ (b : Frame) (cs : List Frame) (io : Nat → Value) (a : Act) (w : World), Rel D S.get S.hp io a w → Done C.P C.body D (lone (b.at a (itemsAt C.body p)) cs w) b cs oc := by
            intro D hn b cs io a w R
            obtain ⟨io', R'⟩ := decS_ok R hx
            have := h2 D hn b cs io' a w R'
            rw [hom.2] at this
            exact this
          cases oc with
          | ret S' => exact ⟨_, h1, h3⟩
          | stop q S' =>
            obtain ⟨oc', h4, h5⟩ := ih false q S' Φ h1
            refine ⟨oc', h4, fun D hn b cs io a w R => ?_⟩
            obtain ⟨io1, a1, w1, R1, hs⟩ := h3 D hn b cs io a w R
            exact (h5 D hn b cs io1 a1 w1 R1).head hs
        · exact h.elim
      · -- the code
        simp only at h
        have hnext : ∀ S', (match after C.body p with
            | some q => run C Λ stops n false q S' Φ
            | none => C.fin S' Φ) → ∃ oc, Φ oc ∧ GoesB C p S' oc := by
          intro S' h
          split at h
          · rename_i q hq
            obtain ⟨oc, h1, h2⟩ := ih false q S' Φ h
            exact ⟨oc, h1, fun D hn b cs io a w R => (h2 D hn b cs io a w R).head ((after_ok p).1 q hq)⟩
          · rename_i hq
            obtain ⟨y, h1, h2⟩ := fin_ok h
            exact ⟨_, h1, fun D hn b cs io a w R => h2 D b cs io a w _ [] R ((after_ok p).2 hq)⟩
        split at h
        · rename_i hs
          obtain ⟨oc, h1, h2⟩ := hnext S h
          refine ⟨oc, h1, fun D hn b cs io a w R => ?_⟩
          unfold itemsAt
          rw [hs]
          exact (h2 D hn b cs io a w R).head (.one step_skip)
        · rename_i l hs
          obtain ⟨oc, h1, h2⟩ := hnext S h
          refine ⟨oc, h1, fun D hn b cs io a w R => ?_⟩
          unfold itemsAt
          rw [hs]
          exact (h2 D hn b cs io a w R).head (.one step_label)
        · rename_i id ops draw hs
          obtain ⟨S', h1, h2⟩ := region_ok hm hΓ (id := id) h
          obtain ⟨oc, h3, h4⟩ := hnext S' h1
          refine ⟨oc, h3, fun D hn b cs io a w R => ?_⟩
          unfold itemsAt
          rw [hs]
          obtain ⟨e, a', w', ⟨rfl, io', R'⟩, harr⟩ := h2 D hn io a w R b (todoOf C.body p) cs
          exact (h4 D hn b cs io' a' w' R').head harr
        · rename_i x y hs
          obtain ⟨oc, h1, h2⟩ := ih false (0 :: p) S Φ h
          refine ⟨oc, h1, fun D hn b cs io a w R => ?_⟩
          have h3 := h2 D hn b cs io a w R
          have : itemsAt C.body (0 :: p) = .code x :: .code y :: todoOf C.body p := by simp [itemsAt, sub, hs, child, todoOf]
          rw [this] at h3
          unfold itemsAt
          rw [hs]
          exact h3.head (.one step_seq)
        · rename_i t x y hs
          split at h
          · rename_i v hv
            have hev : ∀ {D : Seat} {io : Nat → Value} {a : Act} {w : World}, Rel D S.get S.hp io a w → a.eval (.tmp t) = .bool v := by
              intro D io a w R
              have := R.regs t
              rw [hv] at this
              exact bool_of this
            split at h
            · rename_i hvt
              have hvt : v = true := hvt
              obtain ⟨oc, h1, h2⟩ := ih false (0 :: p) S Φ h
              refine ⟨oc, h1, fun D hn b cs io a w R => ?_⟩
              have h3 := h2 D hn b cs io a w R
              have : itemsAt C.body (0 :: p) = .code x :: todoOf C.body p := by simp [itemsAt, sub, hs, child, todoOf]
              rw [this] at h3
              unfold itemsAt
              rw [hs]
              have h4 := step_cond (P := C.P) (b := b) (k := todoOf C.body p) (cs := cs) (w := w) (x := x) (y := y) (hev R)
              rw [hvt, if_pos rfl] at h4
              exact h3.head (.one h4)
            · rename_i hvf
              have hvf : v = false := by simpa using hvf
              obtain ⟨oc, h1, h2⟩ := ih false (1 :: p) S Φ h
              refine ⟨oc, h1, fun D hn b cs io a w R => ?_⟩
              have h3 := h2 D hn b cs io a w R
              have : itemsAt C.body (1 :: p) = .code y :: todoOf C.body p := by simp [itemsAt, sub, hs, child, todoOf]
              rw [this] at h3
              unfold itemsAt
              rw [hs]
              have h4 := step_cond (P := C.P) (b := b) (k := todoOf C.body p) (cs := cs) (w := w) (x := x) (y := y) (hev R)
              rw [hvf, if_neg (by simp)] at h4
              exact h3.head (.one h4)
          · exact h.elim
        · rename_i id x hs
          obtain ⟨oc, h1, h2⟩ := ih false (0 :: p) S Φ h
          refine ⟨oc, h1, fun D hn b cs io a w R => ?_⟩
          have h3 := h2 D hn b cs io a w R
          have : itemsAt C.body (0 :: p) = .code x :: .inBlock id :: todoOf C.body p := by simp [itemsAt, sub, hs, child, todoOf]
          rw [this] at h3
          unfold itemsAt
          rw [hs]
          exact h3.head (.one step_block)
        · rename_i x hs
          obtain ⟨oc, h1, h2⟩ := ih false (0 :: p) S Φ h
          refine ⟨oc, h1, fun D hn b cs io a w R => ?_⟩
          have h3 := h2 D hn b cs io a w R
          have : itemsAt C.body (0 :: p) = .code x :: .inLoop x :: todoOf C.body p := by simp [itemsAt, sub, hs, child, todoOf]
          rw [this] at h3
          unfold itemsAt
          rw [hs]
          exact h3.head (.one step_loop)
        · rename_i id hs
          split at h
          · rename_i q hq
            obtain ⟨oc, h1, h2⟩ := ih false q S Φ h
            refine ⟨oc, h1, fun D hn b cs io a w R => ?_⟩
            obtain ⟨p', h3, h4⟩ := outOf_ok p _ hq
            unfold itemsAt
            rw [hs]
            exact (h2 D hn b cs io a w R).head (.head (step_exit h3) ((after_ok p').1 q h4))
          · rename_i hq
            obtain ⟨y, h1, h2⟩ := fin_ok h
            refine ⟨_, h1, fun D hn b cs io a w R => ?_⟩
            obtain ⟨p', h3, h4⟩ := outOf_ok p _ hq
            refine h2 D b cs io a w _ [] R ?_
            unfold itemsAt
            rw [hs]
            exact .head (step_exit h3) ((after_ok p').2 h4)
          · exact h.elim
        · rename_i hs
          obtain ⟨y, h1, h2⟩ := fin_ok h
          refine ⟨_, h1, fun D hn b cs io a w R => ?_⟩
          refine h2 D b cs io a w _ (.code .ret :: todoOf C.body p) R ?_
          unfold itemsAt
          rw [hs]
          exact .one step_ret
        · exact h.elim
/-- A part of the run. -/
theorem orc_of_run (hm : C.P.follows .mixedOrders = true) (hΓ : ∀ e ∈ C.Γ, FeOk C.P e) {o : Orc} {Λ : List Orc} (hΛ : ∀ o ∈ Λ, OrcOk C o) {stops : List (Path × List Slot)} {n : Nat}
    (he : ∀ x Φ, o.X x Φ = run C Λ stops n true o.p (encS o.sl x) Φ) : OrcOk C o := by
  intro x Φ h
  rw [he] at h
  exact run_ok hm hΓ hΛ n true o.p _ Φ h
/-- A loop. -/
theorem orc_loop (hm : C.P.follows .mixedOrders = true) (hΓ : ∀ e ∈ C.Γ, FeOk C.P e) {o : Orc} {on : Nat → Orc} {Λ : List Orc} (hΛ : ∀ o ∈ Λ, OrcOk C o) {stops : List (Path × List Slot)} {m : Nat}
    (h0 : ∀ x Φ, ¬ (on 0).X x Φ) (he : ∀ n x Φ, (on (n + 1)).X x Φ = run C (on n :: Λ) stops m true (on (n + 1)).p (encS (on (n + 1)).sl x) Φ)
    (ho : ∀ x Φ, o.X x Φ → ∃ (n : Nat) (x' : sden (on n).sl), (on n).X x' Φ ∧ (on n).p = o.p ∧ encS (on n).sl x' = encS o.sl x) : OrcOk C o := by
  have key : ∀ n, OrcOk C (on n) := by
    intro n
    induction n with
    | zero => intro x Φ h; exact absurd h (h0 x Φ)
    | succ n ih =>
      intro x Φ h
      rw [he] at h
      exact run_ok hm hΓ (fun o ho => by
        rcases List.mem_cons.1 ho with rfl | ho
        · exact ih
        · exact hΛ o ho) m true _ _ Φ h
  intro x Φ h
  obtain ⟨n, x', h1, h2, h3⟩ := ho x Φ h
  obtain ⟨oc, h4, h5⟩ := key n x' Φ h1
  rw [h2, h3] at h5
  exact ⟨oc, h4, h5⟩
end
end Go.Proofs.YtieeiiibamkbmaaGreat.Am
