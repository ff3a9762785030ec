/- The abstract machine's operations tell what the program's do: those that write nothing. Conditions: none; these are lemmas. -/
import Derived.Test.YtieeiiibamkbmaaGreatAmE
import Derived.Laws.Cells
import Derived.Laws.CopyRow
import Derived.Laws.Tables
import Derived.Laws.Entries
import Derived.Laws.StructEq
namespace Go.Proofs.YtieeiiibamkbmaaGreat.Am
open Go Go.RowKit
set_option linter.unusedVariables false
set_option linter.unusedSimpArgs false

/-- An operation does in the program what it does in the abstract machine. -/
def OpOk (P : Program) (nt : Nat) (o : Oper) (S : St) (e : Eff) : Prop :=
  ∀ (C : Seat) (Q : Exit → Act → World → Prop), C.nt = nt → ∀ (r : Nat → RV) (h : Hp), (∀ t ∈ opTmps o, r t = S.get t) → (∀ k, (k ∈ e.rd ∨ k ∈ e.hp.map (·.1)) → h k = S.hp k) → ∀ io a w, Rel C r h io a w →
    o.wp P a w (fun a' w' => ∃ io', Rel C (setR r o.dst e.v) (h.app e.hp) io' a' w') Q
section
variable {P : Program} {nt : Nat} {Γ : List Fe} {C : Seat} {Q : Exit → Act → World → Prop} {o : Oper} {S : St} {r : Nat → RV} {h : Hp} {io : Nat → Value} {a : Act} {w : World}
theorem mem_opTmps {t : Tmp} (hx : Operand.tmp t ∈ o.op.operands.toList) : t ∈ opTmps o := List.mem_filterMap.2 ⟨_, hx, rfl⟩
/-- An operand's value. -/
theorem ev_ok (R : Rel C r h io a w) {ty : TypeId} {x : Operand} (hx : ∀ t, x = .tmp t → r t = S.get t) : repR w (NN C.Nx io h) io h (ev P S ty x) (a.eval x) := by
  cases x with
  | tmp t =>
    have := R.regs t
    rw [hx t rfl] at this
    exact this
  | const v =>
    simp only [ev, Act.eval]
    unfold constRV
    split
    · exact ⟨rfl, rfl⟩
    · exact ⟨rfl, rfl⟩
    · exact ⟨rfl, rfl⟩
    · split
      · exact rfl
      · trivial
    · trivial
  | global g => trivial
  | func f => exact ⟨[], [], rfl, trivial, rfl, fun j k hj => by simp at hj⟩
theorem hp_nil (h : Hp) : h.app [] = h := rfl
theorem dst_lt (hd : dstOk nt o = true) (hn : C.nt = nt) : ∀ t, o.dst = some t → t < C.nt := by
  intro t ht
  rw [hn]
  simpa [dstOk, ht] using hd
/-- An operation that changes nothing but its register. -/
theorem OpOk.pure {v : RV} {rd : List Nat} (hd : dstOk nt o = true)
    (hrun : ∀ {C : Seat} (r : Nat → RV) (h : Hp), (∀ t ∈ opTmps o, r t = S.get t) → (∀ k ∈ rd, h k = S.hp k) → ∀ io a w, Rel C r h io a w → ∃ u, (execOp a.eval o).run P w = .ok (.value u) w ∧ repR w (NN C.Nx io h) io h v u) : OpOk P nt o S ⟨v, [], rd⟩ := by
  intro C Q hnt r h hr hh io a w R
  obtain ⟨u, h1, h2⟩ := hrun r h hr (fun k hk => hh k (.inl hk)) io a w R
  unfold Oper.wp
  rw [h1]
  exact ⟨io, R.pure o.dst v u (fun _ => h2) (dst_lt hd hnt)⟩
theorem ok_move {x : Operand} {K : Eff → Prop} (ho : o.op = .move x ∨ o.op = .assign x) (hd : dstOk nt o = true) (hk : K ⟨ev P S o.type x, [], []⟩) : ∃ e, K e ∧ OpOk P nt o S e :=
  ⟨_, hk, OpOk.pure hd (fun {C} r h hr hh io a w R => ⟨a.eval x, by rcases ho with ho | ho <;> simp [execOp, ho], ev_ok R (fun t ht => hr t (mem_opTmps (by rcases ho with ho | ho <;> simp [ho, Op.operands, ht])))⟩)⟩
theorem ok_pick {c x y : Operand} {K : Eff → Prop} (ho : o.op = .pick c x y) (hd : dstOk nt o = true) (hk : opK P Γ o S K) : ∃ e, K e ∧ OpOk P nt o S e := by
  simp only [opK, ho] at hk
  split at hk
  · rename_i b t hc
    have hb : ∀ {C : Seat} (r : Nat → RV) (h : Hp), (∀ t ∈ opTmps o, r t = S.get t) → ∀ io a w, Rel C r h io a w → a.eval (.tmp t) = .bool b := by
      intro C r h hr io a w R
      have h1 := R.regs t
      rw [hr t (mem_opTmps (by simp [ho, Op.operands]))] at h1
      simp only at hc
      rw [hc] at h1
      have h2 : rep w (NN C.Nx io h) .bool b [a.tmps.getD t undef] := h1.2
      simp only [rep, List.cons.injEq, and_true] at h2
      exact h2
    split at hk
    · rename_i e
      refine ⟨_, hk, OpOk.pure hd (fun {C} r h hr hh io a w R => ⟨a.eval x, ?_, ev_ok R (fun t ht => hr t (mem_opTmps (by simp [ho, Op.operands, ht])))⟩)⟩
      have := hb r h hr io a w R
      simp [execOp, ho, this, asBool, e]
    · rename_i e
      refine ⟨_, hk, OpOk.pure hd (fun {C} r h hr hh io a w R => ⟨a.eval y, ?_, ev_ok R (fun t ht => hr t (mem_opTmps (by simp [ho, Op.operands, ht])))⟩)⟩
      have := hb r h hr io a w R
      simp [execOp, ho, this, asBool, e]
  · exact hk.elim
theorem repVs_get {W : World} {N : Nat → Prop} : ∀ {l : List V1} {m : List Value} {j : Nat} {p : V1}, repVs W N l m → l[j]? = some p → ∃ u, m[j]? = some u ∧ repV1 W N p u
  | [], _, _, _, _, h => by simp at h
  | _ :: _, [], _, _, h, _ => h.elim
  | q :: l, u :: m, 0, p, h, hp => by
    simp only [List.getElem?_cons_zero, Option.some.injEq] at hp
    subst hp
    exact ⟨u, rfl, h.1⟩
  | q :: l, u :: m, j + 1, p, h, hp => by
    simp only [List.getElem?_cons_succ] at hp ⊢
    exact repVs_get h.2 hp
theorem ok_extract {x : Operand} {i : Nat} {K : Eff → Prop} (ho : o.op = .extract x i) (hd : dstOk nt o = true) (hk : opK P Γ o S K) : ∃ e, K e ∧ OpOk P nt o S e := by
  simp only [opK, ho] at hk
  split at hk
  · rename_i xs hx
    split at hk
    · rename_i y hy
      refine ⟨_, hk, OpOk.pure hd (fun {C} r h hr hh io a w R => ?_)⟩
      have h1 := ev_ok (P := P) (S := S) (ty := 0) (x := x) R (fun t ht => hr t (mem_opTmps (by simp [ho, Op.operands, ht])))
      rw [hx] at h1
      obtain ⟨us, h2, h3⟩ := h1
      obtain ⟨u, h4, h5⟩ := repVs_get h3 hy
      refine ⟨u, ?_, h5⟩
      simp [execOp, ho, h2, Instr.extract, h4]
    · exact hk.elim
  · exact hk.elim
theorem ok_nilCheck {x : Operand} {K : Eff → Prop} (ho : o.op = .nilCheck x) (hd : dstOk nt o = true) (hk : opK P Γ o S K) : ∃ e, K e ∧ OpOk P nt o S e := by
  simp only [opK, ho] at hk
  have hx : ∀ {C : Seat} (r : Nat → RV) (h : Hp), (∀ t ∈ opTmps o, r t = S.get t) → ∀ io a w, Rel C r h io a w → repR w (NN C.Nx io h) io h (ev P S 0 x) (a.eval x) :=
    fun r h hr io a w R => ev_ok R (fun t ht => hr t (mem_opTmps (by simp [ho, Op.operands, ht])))
  split at hk
  · rename_i k off he
    refine ⟨_, hk, OpOk.pure hd (fun {C} r h hr hh io a w R => ?_)⟩
    have h1 := hx r h hr io a w R
    rw [he] at h1
    refine ⟨a.eval x, ?_, h1⟩
    obtain ⟨_, g, _, h2⟩ := h1
    simp [execOp, ho, h2]
  · rename_i p off he
    refine ⟨_, hk, OpOk.pure hd (fun {C} r h hr hh io a w R => ?_)⟩
    have h1 := hx r h hr io a w R
    rw [he] at h1
    refine ⟨a.eval x, ?_, h1⟩
    obtain ⟨b, q, h2, _⟩ := h1
    simp [execOp, ho, h2]
  · rename_i f first cap he
    refine ⟨_, hk, OpOk.pure hd (fun {C} r h hr hh io a w R => ?_)⟩
    have h1 := hx r h hr io a w R
    rw [he] at h1
    refine ⟨a.eval x, ?_, h1⟩
    obtain ⟨b, q, h2, _⟩ := h1
    simp [execOp, ho, h2]
  · exact hk.elim
theorem int_of {k : IntKind} {n : Int} {W : World} {N : Nat → Prop} {u : Value} (hu : repV1 W N (.v (.v (.int k) n)) u) : u = .int k n := by
  have h2 : rep W N (.int k) n [u] := hu.2
  simpa [rep] using h2
theorem bool_of {b : Bool} {W : World} {N : Nat → Prop} {u : Value} (hu : repV1 W N (.v (.v .bool b)) u) : u = .bool b := by
  have h2 : rep W N .bool b [u] := hu.2
  simpa [rep] using h2
theorem str_of {b : ByteArray} {W : World} {N : Nat → Prop} {u : Value} (hu : repV1 W N (.v (.v .str b)) u) : u = .string b := by
  have h2 : rep W N .str b [u] := hu.2
  simpa [rep] using h2
theorem ok_unOp {op : UnOp} {xt : TypeId} {x : Operand} {K : Eff → Prop} (ho : o.op = .unOp op xt x) (hd : dstOk nt o = true) (hk : opK P Γ o S K) : ∃ e, K e ∧ OpOk P nt o S e := by
  simp only [opK, ho] at hk
  split at hk
  · rename_i p he
    unfold unK at hk
    split at hk
    · rename_i k n
      refine ⟨_, hk, OpOk.pure hd (fun {C} r h hr hh io a w R => ?_)⟩
      have h1 := ev_ok (P := P) (S := S) (ty := xt) (x := x) R (fun t ht => hr t (mem_opTmps (by simp [ho, Op.operands, ht])))
      rw [he] at h1
      have h2 := int_of h1
      exact ⟨_, by simp [execOp, ho, h2, Op.unary, Op.intArith], rfl, rfl⟩
    · rename_i b
      refine ⟨_, hk, OpOk.pure hd (fun {C} r h hr hh io a w R => ?_)⟩
      have h1 := ev_ok (P := P) (S := S) (ty := xt) (x := x) R (fun t ht => hr t (mem_opTmps (by simp [ho, Op.operands, ht])))
      rw [he] at h1
      have h2 := bool_of h1
      exact ⟨_, by simp [execOp, ho, h2, Op.unary], rfl, rfl⟩
    · exact hk.elim
  · exact hk.elim
theorem ok_convert {s d : TypeId} {x : Operand} {K : Eff → Prop} (ho : o.op = .convert s d x) (hd : dstOk nt o = true) (hk : opK P Γ o S K) : ∃ e, K e ∧ OpOk P nt o S e := by
  simp only [opK, ho] at hk
  split at hk
  · rename_i k1 k n hs hdd he
    refine ⟨_, hk, OpOk.pure hd (fun {C} r h hr hh io a w R => ?_)⟩
    have h1 := ev_ok (P := P) (S := S) (ty := s) (x := x) R (fun t ht => hr t (mem_opTmps (by simp [ho, Op.operands, ht])))
    rw [he] at h1
    have h2 := int_of h1
    exact ⟨_, by simp [execOp, ho, h2, convert, run_underlying hs, run_underlying hdd, Conv.intToInt], rfl, rfl⟩
  · exact hk.elim
theorem run_arith {op : BinOp} {k : IntKind} {m n : Int} {p : Pv} {xt : TypeId} {N : Nat → Prop} (hp : arith op k m n = some p) : ∃ u, (binOp op xt (.int k m) (.int k n)).run P w = .ok u w ∧ rep1 w N p u := by
  unfold arith at hp
  cases op <;> simp only [Option.some.injEq, reduceCtorEq] at hp <;> subst hp <;> exact ⟨_, by simp [binOp, Op.intArith, Op.intBits, Op.intCmp], rfl, rfl⟩
theorem eqGuard_ok {op : BinOp} {t : TypeId} {x y : Operand} {u v : Value} (hu : ∀ cs, u ≠ .agg cs) (hn : u ≠ .nilIface) : (eqGuard op t x y u v).run P w = .ok () w := by
  unfold eqGuard
  cases op <;> simp <;> (cases u <;> simp_all)
theorem info_of {t : TypeId} {d : TypeDesc} (hu : P.underlying t = some d) : ∃ i, P.info? t = some i := by
  unfold Program.underlying at hu
  cases hi : P.info? t with
  | none => simp [hi] at hu
  | some i => exact ⟨i, rfl⟩
theorem run_isAgg {t : TypeId} {d : TypeDesc} (hu : P.underlying t = some d) : (isAgg t).run P w = .ok (aggT P t) w := by
  unfold isAgg aggT
  simp only [Sem.run_bind, run_underlying hu, Result.andThen_ok, hu]
  cases d <;> simp
theorem run_sizeOf' {t : TypeId} {i : TypeInfo} (hi : P.info? t = some i) : (sizeOf t).run P w = .ok i.size w := by simp [sizeOf, typeInfo, hi]
theorem cutT_some {α : Type} {t : TypeId} {l m : List α} {off : Nat} (hc : cutT P t l off = some m) : ∃ d i, P.underlying t = some d ∧ P.info? t = some i ∧ off + i.size ≤ l.length ∧ m = (l.drop off).take i.size := by
  unfold cutT at hc
  split at hc
  · rename_i d i hd hi
    unfold cut at hc
    split at hc
    · rename_i hle
      exact ⟨d, i, hd, hi, hle, (Option.some.inj hc).symm⟩
    · cases hc
  · cases hc
section
variable {N : Nat → Prop}
theorem repC_cut {l : List Pv} {cs : List Value} {off n : Nat} (hr : repC w N l cs) (hle : off + n ≤ l.length) : repC w N ((l.drop off).take n) ((cs.drop off).take n) := by
  have hl := repC_len hr
  refine repC_of_get (by simp; omega) (fun j p u hp hu => ?_)
  rw [List.getElem?_take] at hp hu
  split at hp
  · rename_i hj
    simp only [hj, if_true, List.getElem?_drop] at hp hu
    obtain ⟨v, h1, h2⟩ := repC_get hr hp
    rw [h1] at hu
    injection hu with hu
    exact hu ▸ h2
  · cases hp
/-- A value out of cells. -/
theorem repV1_cut {agg : Bool} {l : List Pv} {cs : List Value} {v : RV} (hv : ofPvs agg l = some v) (hr : repC w N l cs) :
    ∃ x, v = .p x ∧ ((agg = true ∧ repV1 w N x (.agg cs.toArray)) ∨ (agg = false ∧ ∃ u, cs = [u] ∧ repV1 w N x u)) := by
  unfold ofPvs at hv
  cases agg
  · simp only [cond_false] at hv
    split at hv
    · rename_i p
      cases cs with
      | nil => exact hr.elim
      | cons u cs =>
        cases cs with
        | nil => exact ⟨.v p, (Option.some.inj hv).symm, .inr ⟨rfl, u, rfl, hr.1⟩⟩
        | cons _ _ => exact hr.2.elim
    · cases hv
  · simp only [cond_true, Option.some.injEq] at hv
    exact ⟨.agg l, hv.symm, .inl ⟨rfl, cs, rfl, hr⟩⟩
theorem part_ok {t : TypeId} {l : List Pv} {off : Nat} {x : V1} {cs : List Value} (hp : partV P t l off = some x) (hr : repC w N l cs) : ∃ u, (part t cs.toArray off).run P w = .ok u w ∧ repV1 w N x u := by
  unfold partV at hp
  split at hp
  · rename_i m hm
    obtain ⟨d, i, hd, hi, hle, rfl⟩ := cutT_some hm
    have hc := repC_cut hr hle
    have hl := repC_len hr
    cases ha : aggT P t
    · simp only [ha, cond_false] at hp
      split at hp
      · rename_i p hp'
        injection hp with hp
        subst hp
        have h1 : (l.drop off)[0]? = some p := by
          have : ((l.drop off).take i.size)[0]? = some p := by rw [hp']; rfl
          rw [List.getElem?_take] at this
          split at this
          · exact this
          · cases this
        rw [List.getElem?_drop, Nat.add_zero] at h1
        obtain ⟨u, h2, h3⟩ := repC_get hr h1
        exact ⟨u, by simp [part, run_isAgg hd, ha, h2], h3⟩
      · cases hp
    · simp only [ha, cond_true, Option.some.injEq] at hp
      subst hp
      refine ⟨.agg ((cs.drop off).take i.size).toArray, ?_, _, rfl, hc⟩
      simp only [part, Sem.run_bind, run_isAgg hd, ha, Result.andThen_ok, if_true, run_sizeOf' hi, Sem.run_pure]
      congr 2
      apply Array.ext'
      simp [List.drop_take]
  · cases hp
theorem eqV_ok : ∀ (n d : Nat) (t : TypeId) (x y : V1) (q : Bool) (u v : Value), n ≤ d → eqV P n t x y = some q → repV1 w N x u → repV1 w N y v → (Op.equalIn d t u v).run P w = .ok q w := by
  intro n
  induction n with
  | zero => intro d t x y q u v _ he; simp [eqV] at he
  | succ n ih =>
    intro d t x y q u v hd he hu hv
    obtain ⟨d, rfl⟩ : ∃ d', d = d' + 1 := ⟨d - 1, by omega⟩
    unfold eqV at he
    split at he
    · rename_i b1 b2 ht
      rw [bool_of hu, bool_of hv]
      injection he with he
      subst he
      exact run_equalIn_bool' w d t _ _ ht
    · rename_i k0 k1 m k2 m' ht
      split at he
      · rename_i hk
        subst hk
        rw [int_of hu, int_of hv]
        injection he with he
        subst he
        exact run_equalIn_int w d t _ _ _ _ ht
      · cases he
    · rename_i s1 s2 ht
      rw [str_of hu, str_of hv]
      injection he with he
      subst he
      exact run_equalIn_string w d t _ _ ht
    · rename_i fs xs ys ht
      cases hs : P.stoodInHeld t || P.eqGuardType P.depth t
      case true => simp [hs] at he
      simp only [hs, cond_false] at he
      obtain ⟨cs, rfl, hc⟩ := hu
      obtain ⟨ds, rfl, hdd⟩ := hv
      have hf : P.fieldsOf t = fs := by simp [Program.fieldsOf, ht]
      rw [run_equalIn_struct w d t _ _ (by rw [hf]; exact ht) (by simp at hs; exact hs.1), hf]
      generalize fs.toList = fl at he
      clear hf ht
      induction fl generalizing q with
      | nil => simp only [eqV.eqFs, Option.some.injEq] at he; subst he; simp [Op.eqFields]
      | cons f fl ihf =>
        have key : ∃ a b r q', partV P f.type xs f.offset = some a ∧ partV P f.type ys f.offset = some b ∧ (f.name == "_") = false ∧ eqV P n f.type a b = some r ∧ eqV.eqFs P (eqV P n) xs ys fl = some q' ∧ q = (r && q') := by
          cases fl with
          | nil =>
            simp only [eqV.eqFs] at he
            split at he
            · rename_i a b h1 h2
              cases hn : f.name == "_"
              · simp only [hn, cond_false] at he
                exact ⟨a, b, q, true, h1, h2, rfl, he, rfl, by simp⟩
              · simp [hn] at he
            · cases he
          | cons f2 fl2 =>
            simp only [eqV.eqFs] at he
            split at he
            · rename_i a b h1 h2
              cases hn : f.name == "_"
              · simp only [hn, cond_false] at he
                split at he
                · rename_i r q' h3 h4
                  exact ⟨a, b, r, q', h1, h2, rfl, h3, h4, (Option.some.inj he).symm⟩
                · cases he
              · simp [hn] at he
            · cases he
        obtain ⟨a, b, r, q', h1, h2, h3, h4, h5, rfl⟩ := key
        obtain ⟨u1, h6, h7⟩ := part_ok h1 hc
        obtain ⟨u2, h8, h9⟩ := part_ok h2 hdd
        have h10 := ih d f.type a b r u1 u2 (by omega) h4 h7 h9
        have hne : f.name ≠ "_" := by simpa using h3
        simp only [Op.eqFields, hne, ne_eq, not_false_eq_true, if_true, Sem.run_bind, h6, h8, h10, Result.andThen_ok]
        cases r
        · simp
        · simp only [Bool.not_true, Bool.false_eq_true, if_false, Bool.true_and]
          exact ihf q' h5
    · cases he
end
theorem ok_binOp {op : BinOp} {xt yt : TypeId} {x y : Operand} {K : Eff → Prop} (ho : o.op = .binOp op xt x y yt) (hd : dstOk nt o = true) (hk : opK P Γ o S K) : ∃ e, K e ∧ OpOk P nt o S e := by
  simp only [opK, ho] at hk
  have hx : ∀ {C : Seat} (r : Nat → RV) (h : Hp), (∀ t ∈ opTmps o, r t = S.get t) → ∀ io a w, Rel C r h io a w → repR w (NN C.Nx io h) io h (ev P S xt x) (a.eval x) :=
    fun r h hr io a w R => ev_ok R (fun t ht => hr t (mem_opTmps (by simp [ho, Op.operands, ht])))
  have hy : ∀ {C : Seat} (r : Nat → RV) (h : Hp), (∀ t ∈ opTmps o, r t = S.get t) → ∀ io a w, Rel C r h io a w → repR w (NN C.Nx io h) io h (ev P S yt y) (a.eval y) :=
    fun r h hr io a w R => ev_ok R (fun t ht => hr t (mem_opTmps (by simp [ho, Op.operands, ht])))
  split at hk
  · rename_i xs ys hex hey
    split at hk
    · rename_i q hq
      have hrun : ∀ {C : Seat} (r : Nat → RV) (h : Hp), (∀ t ∈ opTmps o, r t = S.get t) → ∀ io a w, Rel C r h io a w → ∀ (op' : BinOp), (op' = .eql ∨ op' = .neq) →
          (do eqGuard op' xt x y (a.eval x) (a.eval y); binOp op' xt (a.eval x) (a.eval y)).run P w = .ok (.bool (if op' = .eql then q else !q)) w := by
        intro C r h hr io a w R op' hop
        have h1 := hx r h hr io a w R
        have h2 := hy r h hr io a w R
        rw [hex] at h1
        rw [hey] at h2
        have h3 := eqV_ok (P := P) 8 Op.maxDepth xt _ _ q _ _ (by simp [Op.maxDepth]) hq h1 h2
        obtain ⟨cs, h4, _⟩ := h1
        obtain ⟨ds, h5, _⟩ := h2
        have hg : P.eqGuardType P.depth xt = false := by
          cases hg : P.eqGuardType P.depth xt
          · rfl
          · exfalso
            unfold eqV at hq
            rw [hg] at hq
            simp only [Bool.or_true, cond_true] at hq
            split at hq <;> simp_all
        rw [h4, h5] at h3 ⊢
        rcases hop with rfl | rfl
        · simp [eqGuard, hg, binOp, Op.equal, h3]
        · simp [eqGuard, hg, binOp, Op.equal, h3]
      split at hk
      · refine ⟨_, hk, OpOk.pure hd (fun {C} r h hr hh io a w R => ⟨.bool q, ?_, rfl, rfl⟩)⟩
        have := hrun r h hr io a w R .eql (.inl rfl)
        simp only [if_true] at this
        simp only [execOp, ho, Sem.run_bind] at this ⊢
        simp only [this, Result.andThen_ok, Sem.run_pure]
      · refine ⟨_, hk, OpOk.pure hd (fun {C} r h hr hh io a w R => ⟨.bool (!q), ?_, rfl, rfl⟩)⟩
        have := hrun r h hr io a w R .neq (.inr rfl)
        simp only [reduceCtorEq, if_false] at this
        simp only [execOp, ho, Sem.run_bind] at this ⊢
        simp only [this, Result.andThen_ok, Sem.run_pure]
      · exact hk.elim
    · exact hk.elim
  · rename_i xa ya hne hex hey
    have fin : ∀ (p : Pv), (∀ (w : World) (N : Nat → Prop) (u v : Value), repV1 w N xa u → repV1 w N ya v → (∀ cs, u ≠ .agg cs) ∧ u ≠ .nilIface ∧ ∃ z, (binOp op xt u v).run P w = .ok z w ∧ rep1 w N p z) →
        OpOk P nt o S ⟨.p (.v p), [], []⟩ := by
      intro p hp
      refine OpOk.pure hd (fun {C} r h hr hh io a w R => ?_)
      have h1 := hx r h hr io a w R
      have h2 := hy r h hr io a w R
      rw [hex] at h1
      rw [hey] at h2
      obtain ⟨h3, h4, z, h5, h6⟩ := hp w _ _ _ h1 h2
      refine ⟨z, ?_, h6⟩
      simp only [execOp, ho, Sem.run_bind, eqGuard_ok h3 h4, Result.andThen_ok, h5, Sem.run_pure]
    unfold binK at hk
    split at hk
    · rename_i k m k' n
      have int2 : ∀ {w : World} {N : Nat → Prop} {u v : Value}, repV1 w N (.v (.v (.int k) m)) u → repV1 w N (.v (.v (.int k') n)) v → u = .int k m ∧ v = .int k' n := fun h1 h2 => ⟨int_of h1, int_of h2⟩
      split at hk
      · split at hk
        · rename_i hkk
          subst hkk
          split at hk
          · exact hk.elim
          · rename_i hn
            refine ⟨_, hk, fin _ (fun w N u v hu hv => ?_)⟩
            obtain ⟨rfl, rfl⟩ := int2 hu hv
            exact ⟨by simp, by simp, _, by simp [binOp, Op.intDiv, hn], rfl, rfl⟩
        · exact hk.elim
      · split at hk
        · rename_i hkk
          subst hkk
          split at hk
          · exact hk.elim
          · rename_i hn
            refine ⟨_, hk, fin _ (fun w N u v hu hv => ?_)⟩
            obtain ⟨rfl, rfl⟩ := int2 hu hv
            exact ⟨by simp, by simp, _, by simp [binOp, Op.intDiv, hn], rfl, rfl⟩
        · exact hk.elim
      · split at hk
        · exact hk.elim
        · rename_i hn
          refine ⟨_, hk, fin _ (fun w N u v hu hv => ?_)⟩
          obtain ⟨rfl, rfl⟩ := int2 hu hv
          exact ⟨by simp, by simp, _, by simp [binOp, Op.shift, hn], rfl, rfl⟩
      · split at hk
        · exact hk.elim
        · rename_i hn
          refine ⟨_, hk, fin _ (fun w N u v hu hv => ?_)⟩
          obtain ⟨rfl, rfl⟩ := int2 hu hv
          exact ⟨by simp, by simp, _, by simp [binOp, Op.shift, hn], rfl, rfl⟩
      · split at hk
        · rename_i hkk
          subst hkk
          split at hk
          · rename_i p hp
            refine ⟨_, hk, fin _ (fun w N u v hu hv => ?_)⟩
            obtain ⟨rfl, rfl⟩ := int2 hu hv
            obtain ⟨z, h1, h2⟩ := run_arith (w := w) (xt := xt) (N := N) hp
            exact ⟨by simp, by simp, z, h1, h2⟩
          · exact hk.elim
        · exact hk.elim
    · rename_i s1 s2
      split at hk
      · refine ⟨_, hk, fin _ (fun w N u v hu hv => ?_)⟩
        rw [str_of hu, str_of hv]
        exact ⟨by simp, by simp, _, by simp [binOp, Op.stringOp], rfl, rfl⟩
      · refine ⟨_, hk, fin _ (fun w N u v hu hv => ?_)⟩
        rw [str_of hu, str_of hv]
        exact ⟨by simp, by simp, _, by simp [binOp, Op.stringOp], rfl, rfl⟩
      · exact hk.elim
    · rename_i b1 b2
      split at hk
      · rename_i ht
        split at hk
        · refine ⟨_, hk, fin _ (fun w N u v hu hv => ?_)⟩
          rw [bool_of hu, bool_of hv]
          exact ⟨by simp, by simp, _, by simp [binOp, Op.equal, Op.maxDepth, run_equalIn_bool' w 9999 xt _ _ ht], rfl, rfl⟩
        · refine ⟨_, hk, fin _ (fun w N u v hu hv => ?_)⟩
          rw [bool_of hu, bool_of hv]
          exact ⟨by simp, by simp, _, by simp [binOp, Op.equal, Op.maxDepth, run_equalIn_bool' w 9999 xt _ _ ht], rfl, rfl⟩
        · exact hk.elim
      · exact hk.elim
    · exact hk.elim
  · exact hk.elim
end
end Go.Proofs.YtieeiiibamkbmaaGreat.Am
