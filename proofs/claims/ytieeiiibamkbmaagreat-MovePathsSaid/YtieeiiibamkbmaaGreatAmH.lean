/- The abstract machine's operations that make memory or write it tell what the program's do. Conditions: none; these are lemmas. -/
import Derived.Test.YtieeiiibamkbmaaGreatAmG
namespace Go.Proofs.YtieeiiibamkbmaaGreat.Am
open Go Go.RowKit
set_option linter.unusedVariables false
set_option linter.unusedSimpArgs false

section
variable {P : Program} {nt : Nat} {Γ : List Fe} {C : Seat} {Q : Exit → Act → World → Prop} {o : Oper} {S : St} {r : Nat → RV} {h : Hp} {io : Nat → Value} {a : Act} {w : World}
theorem keep_alloc (G : Nat → Prop) (w : World) (x : Obj) : Keep G w (w.alloc x) := ⟨rfl, rfl, rfl, by simp, fun k hk _ => Below.heap_alloc w x k hk⟩
theorem kill_none (h : Hp) : h.kill none = h := by funext j; simp [Hp.kill]
theorem app_one (h : Hp) (k : Nat) (b : Blk) : h.app [(k, b)] = h.set k b := app_cons h k b []
/-- A new variable. -/
theorem newBox_ok {t : TypeId} {cs : List RV} {rd : List Nat} {K : Eff → Prop} (hd : dstOk nt o = true) (hk : newBox S o.dst t cs rd K)
    (hrun : ∀ {C : Seat} (r : Nat → RV) (h : Hp), (∀ t ∈ opTmps o, r t = S.get t) → (∀ k ∈ rd, h k = S.hp k) → ∀ io a w, Rel C r h io a w → ∃ vals : Array Value,
      (execOp a.eval o).run P w = .ok (.value (ptrTo w.heap.size)) (w.alloc (.cells vals t)) ∧ vals.size = cs.length ∧
      ∀ (j : Nat) (c : RV), cs[j]? = some c → ∃ v, vals[j]? = some v ∧ v.oneCell' = true ∧ repR w (NN C.Nx io h) io h c v) : ∃ e, K e ∧ OpOk P nt o S e := by
  unfold newBox at hk
  split at hk
  · rename_i d hdst
    split at hk
    · rename_i hn
      refine ⟨_, hk, ?_⟩
      intro C Q hnt r h hr hh io a w R
      obtain ⟨vals, h1, h2, h3⟩ := hrun r h hr (fun k hk => hh k (.inl (by simp [hk]))) io a w R
      have hhd : h d = none := (hh d (.inl (by simp))).trans hn
      have hdl := dst_lt hd hnt d hdst
      unfold Oper.wp
      rw [h1]
      have hnew : (w.alloc (.cells vals t)).heap[w.heap.size]? = some (.cells vals t (0, 0)) := heap_alloc_new w _
      obtain ⟨io1, R1⟩ := R.fresh hdl hhd none (fun k e => by cases e) (.box true t cs) (.inl ⟨t, cs, rfl⟩) (ptrTo w.heap.size) (w1 := w.alloc (.cells vals t)) (keep_alloc _ _ _)
        (fun g hg => by simp only [ptrTo, blkOf, Option.some.injEq] at hg; subst hg; exact .inl (Nat.le_refl _)) (.ptr d 0) (fun io1 h1' hio hiod hd1 hborn hM => by
          refine ⟨⟨w.heap.size, vals, hiod, hnew, h2, (fun e => by cases e), fun j c hc => ?_⟩, by simp [hd1], w.heap.size, hiod, rfl⟩
          obtain ⟨v, h4, h5, h6⟩ := h3 j c hc
          exact ⟨v, h4, h5, repR_step hM h6⟩)
      refine ⟨io1, ?_⟩
      rw [hdst, app_one]
      rw [kill_none] at R1
      exact R1
    · exact hk.elim
  · exact hk.elim
theorem isZ_ok {N : Nat → Prop} {p : Pv} {v : Value} (hz : isZ p v = true) : rep1 w N p v := by
  unfold isZ at hz
  split at hz
  · simp at hz
    obtain ⟨rfl, rfl⟩ := hz
    exact ⟨rfl, rfl⟩
  · simp at hz
    subst hz
    exact ⟨rfl, rfl⟩
  · rename_i s s'
    have : s = s' := by
      rcases s with ⟨⟨l⟩⟩
      rcases s' with ⟨⟨l'⟩⟩
      simpa using hz
    subst this
    exact ⟨rfl, rfl⟩
  · rfl
  · cases hz
theorem isZs_ok {N : Nat → Prop} : ∀ {l : List Pv} {m : List Value}, isZs l m = true → repC w N l m
  | [], [], _ => trivial
  | p :: l, v :: m, hz => by
    simp only [isZs, Bool.and_eq_true] at hz
    exact ⟨isZ_ok hz.1, isZs_ok hz.2⟩
  | [], _ :: _, hz => by simp [isZs] at hz
  | _ :: _, [], hz => by simp [isZs] at hz
theorem zeroOk_some {t : TypeId} {e : Ty} (hz : zeroOk P t e = true) : ∃ i z, P.info? t = some i ∧ i.zero = some z ∧ isZs (unpackZ e) z.cells.toList = true ∧ i.size = e.cells := by
  unfold zeroOk at hz
  split at hz
  · rename_i i hi
    split at hz
    · rename_i z hz'
      simp only [Bool.and_eq_true, decide_eq_true_eq] at hz
      exact ⟨i, z, hi, hz', hz.1, hz.2⟩
    · cases hz
  · cases hz
theorem repC_cells {N : Nat → Prop} {l : List Pv} {m : List Value} (hr : repC w N l m) (j : Nat) (c : RV) (hc : (l.map (fun p => RV.p (.v p)))[j]? = some c) :
    ∃ v, m.toArray[j]? = some v ∧ v.oneCell' = true ∧ repR w N io h c v := by
  simp only [List.getElem?_map, Option.map_eq_some_iff] at hc
  obtain ⟨p, h1, rfl⟩ := hc
  obtain ⟨u, h2, h3⟩ := repC_get hr h1
  exact ⟨u, by simpa using h2, rep1_one h3, h3⟩
theorem ok_alloc {t : TypeId} {K : Eff → Prop} (ho : o.op = .alloc t) (hd : dstOk nt o = true) (hk : opK P Γ o S K) : ∃ e, K e ∧ OpOk P nt o S e := by
  simp only [opK, ho] at hk
  split at hk
  · rename_i e he
    split at hk
    · rename_i hz
      obtain ⟨i, z, h1, h2, h3, h4⟩ := zeroOk_some hz
      refine newBox_ok hd hk (fun {C} r h hr hh io a w R => ⟨z.cells, ?_, ?_, ?_⟩)
      · simp [execOp, ho, Instr.alloc, zeroValue, typeInfo, h1, h2, newVar, Go.newRow, ptrTo]
      · have := repC_len (isZs_ok (w := w) (N := fun _ => False) h3)
        simpa using this.symm
      · intro j c hc
        have := repC_cells (io := io) (h := h) (isZs_ok (w := w) (N := NN C.Nx io h) h3) j c hc
        simpa using this
    · exact hk.elim
  · split at hk
    · rename_i hz
      obtain ⟨_, hz⟩ := hz
      cases hi : P.info? t with
      | none => simp [hi] at hz
      | some i =>
        cases hzz : i.zero with
        | none => simp [hi, hzz] at hz
        | some z =>
          simp only [hi, hzz, Option.any_some, decide_eq_true_eq, Bool.and_eq_true] at hz
          obtain ⟨hz, hone⟩ := hz
          refine newBox_ok hd hk (fun {C} r h hr hh io a w R => ⟨z.cells, ?_, by simpa using hz, ?_⟩)
          · simp [execOp, ho, Instr.alloc, zeroValue, typeInfo, hi, hzz, newVar, Go.newRow, ptrTo]
          · intro j c hc
            cases j with
            | zero =>
              simp only [List.getElem?_cons_zero, Option.some.injEq] at hc
              subst hc
              have h0 : z.cells[0]? = some (z.cells[0]'(by omega)) := Array.getElem?_eq_getElem _
              exact ⟨_, h0, by have := Array.all_eq_true_iff_forall_mem.1 hone _ (Array.getElem_mem (by omega : 0 < z.cells.size)); exact this, trivial⟩
            | succ j => simp at hc
    · exact hk.elim
theorem oneCell_cells {u : Value} (hu : u.oneCell' = true) : u.cells = #[u] := by cases u <;> first | rfl | simp [Value.oneCell'] at hu
theorem row_one {k : Nat} {p : Pv} (R : Rel C r h io a w) (hk : h k = S.hp k) (hp : asRow S (.row k) = some p) {u : Value} (hu : repR w (NN C.Nx io h) io h (.row k) u) : u.oneCell' = true := by
  obtain ⟨e, xs, _, A, c, rfl⟩ := asRow_ok R (fun k' e => by injection e with e; exact e ▸ hk) hp hu
  rfl
/-- The cells of what is stored. -/
theorem toCells_ok {x : RV} {cs : List RV} (R : Rel C r h io a w) (hl : ∀ k ∈ heapOf x, h k = S.hp k) (hc : toCells S x = some cs) {u : Value} (hu : repR w (NN C.Nx io h) io h x u) :
    u.cells.size = cs.length ∧ (∀ v ∈ u.cells.toList, v.oneCell' = true) ∧ ∀ (j : Nat) (c : RV), cs[j]? = some c → ∃ v, u.cells[j]? = some v ∧ v.oneCell' = true ∧ repR w (NN C.Nx io h) io h c v := by
  have one : ∀ y : RV, cs = [y] → u.oneCell' = true → repR w (NN C.Nx io h) io h y u → u.cells.size = cs.length ∧ (∀ v ∈ u.cells.toList, v.oneCell' = true) ∧ ∀ (j : Nat) (c : RV), cs[j]? = some c → ∃ v, u.cells[j]? = some v ∧ v.oneCell' = true ∧ repR w (NN C.Nx io h) io h c v := by
    intro y hy h1 h2
    subst hy
    rw [oneCell_cells h1]
    refine ⟨rfl, fun v hv => ?_, fun j c hj => ?_⟩
    · simp at hv; exact hv ▸ h1
    · cases j with
      | zero =>
        simp only [List.getElem?_cons_zero, Option.some.injEq] at hj
        subst hj
        exact ⟨u, rfl, h1, h2⟩
      | succ j => simp at hj
  unfold toCells at hc
  split at hc
  · rename_i y
    injection hc with hc
    subst hc
    have h1 := repV1_cells hu
    have h2 := repC_len h1
    refine ⟨by simpa using h2.symm, repC_one h1, fun j c hj => ?_⟩
    have := repC_cells (io := io) (h := h) h1 j c hj
    simpa using this
  · injection hc with hc
    obtain ⟨h1, g, h2, h3⟩ := hu
    exact one _ hc.symm (by rw [h3]; rfl) ⟨h1, g, h2, h3⟩
  · injection hc with hc
    have hu' := hu
    obtain ⟨b, q, h3, _⟩ := hu
    exact one _ hc.symm (by rw [h3]; rfl) hu'
  · injection hc with hc
    have hu' := hu
    obtain ⟨b, q, h3, _⟩ := hu
    exact one _ hc.symm (by rw [h3]; rfl) hu'
  · split at hc
    · rename_i k p hp
      injection hc with hc
      exact one _ hc.symm (row_one R (hl _ (by simp [heapOf])) hp hu) hu
    · cases hc
  · cases hc
theorem ok_box {t : TypeId} {x : Operand} {K : Eff → Prop} (ho : o.op = .box t x) (hd : dstOk nt o = true) (hk : opK P Γ o S K) : ∃ e, K e ∧ OpOk P nt o S e := by
  simp only [opK, ho] at hk
  split at hk
  · rename_i cs hc
    refine newBox_ok hd hk (fun {C} r h hr hh io a w R => ⟨(a.eval x).cells, ?_, ?_⟩)
    · simp [execOp, ho, Instr.box, newVar, Go.newRow, ptrTo]
    · have h4 := ev_ok (P := P) (S := S) (ty := t) (x := x) R (fun t ht => hr t (mem_opTmps (by simp [ho, Op.operands, ht])))
      obtain ⟨h1, _, h2⟩ := toCells_ok R hh hc h4
      exact ⟨h1, h2⟩
  · exact hk.elim
theorem ok_index {t : TypeId} {x y : Operand} {K : Eff → Prop} (ho : o.op = .index t x y) (hd : dstOk nt o = true) (hk : opK P Γ o S K) : ∃ e, K e ∧ OpOk P nt o S e := by
  simp only [opK, ho] at hk
  split at hk
  · rename_i s n ht he hn
    obtain ⟨⟨h0, h1⟩, hk⟩ := hk
    refine ⟨_, hk, OpOk.pure hd (fun {C} r h hr hh io a w R => ?_)⟩
    have h4 := ev_ok (P := P) (S := S) (ty := t) (x := x) R (fun t ht => hr t (mem_opTmps (by simp [ho, Op.operands, ht])))
    rw [he] at h4
    have h5 := str_of h4
    obtain ⟨k, hky⟩ := int_ev hn (fun t ht => hr t (mem_opTmps (by simp [ho, Op.operands, ht]))) R
    have hlt : n.toNat < s.size := by omega
    have hget : s[n.toNat]? = some s[n.toNat] := by simp [hlt]
    refine ⟨.int .u8 s[n.toNat].toNat, ?_, rfl, ?_⟩
    · simp [execOp, ho, h5, hky, Instr.index, run_underlying ht, asIntOf, h0, hget]
    · have hb : strByte s n = (s[n.toNat].toNat : Int) := by
        unfold strByte
        rcases s with ⟨d⟩
        have : (d.toList[n.toNat]?) = some d[n.toNat] := by
          rw [Array.getElem?_toList]
          exact Array.getElem?_eq_getElem _
        rw [this]
        rfl
      rw [hb]
      rfl
  · exact hk.elim
theorem allSome_ok {α : Type} : ∀ {l : List (Option α)} {m : List α}, allSome l = some m → l = m.map some
  | [], m, hm => by simp only [allSome, Option.some.injEq] at hm; subst hm; rfl
  | some x :: l, m, hm => by
    simp only [allSome] at hm
    split at hm
    · rename_i m' h1
      injection hm with hm
      subst hm
      rw [allSome_ok h1]; rfl
    · cases hm
  | none :: l, m, hm => by simp [allSome] at hm
theorem repVs_of_get {N : Nat → Prop} : ∀ {l : List V1} {m : List Value}, l.length = m.length → (∀ (j : Nat) (p : V1) (u : Value), l[j]? = some p → m[j]? = some u → repV1 w N p u) → repVs w N l m
  | [], [], _, _ => trivial
  | [], _ :: _, h, _ => by simp at h
  | _ :: _, [], h, _ => by simp at h
  | p :: l, u :: m, h, hg => ⟨hg 0 p u rfl rfl, repVs_of_get (by simpa using h) (fun j q v hq hv => hg (j + 1) q v (by simpa using hq) (by simpa using hv))⟩
theorem ok_makeFunc {f : FuncId} {first cap : Array Operand} {K : Eff → Prop} (ho : o.op = .makeFunc (.func f) first cap) (hd : dstOk nt o = true) (hk : opK P Γ o S K) : ∃ e, K e ∧ OpOk P nt o S e := by
  simp only [opK, ho] at hk
  split at hk
  · rename_i fs cs hfs hcs
    have h1 := allSome_ok hfs
    have h2 := allSome_ok hcs
    refine ⟨_, hk, OpOk.pure hd (fun {C} r h hr hh io a w R => ?_)⟩
    have hev : ∀ x, x ∈ first.toList ∨ x ∈ cap.toList → repR w (NN C.Nx io h) io h (ev P S 0 x) (a.eval x) := fun x hx =>
      ev_ok R (fun t ht => hr t (mem_opTmps (by subst ht; simp [ho, Op.operands]; simpa using hx)))
    refine ⟨.func (.func f) (first.map a.eval) (cap.map a.eval), by simp [execOp, ho, Instr.makeFunc], first.toList.map a.eval, cap.toList.map a.eval, by congr 1 <;> (apply Array.ext'; simp), ?_, ?_, ?_⟩
    · refine repVs_of_get ?_ (fun j p u hp hu => ?_)
      · have := congrArg List.length h1
        simpa using this.symm
      · simp only [List.getElem?_map, Option.map_eq_some_iff] at hu
        obtain ⟨x, hx, rfl⟩ := hu
        have h3 : (first.toList.map (fun x => firstV (ev P S 0 x)))[j]? = some (some p) := by rw [h1]; simp [hp]
        simp only [List.getElem?_map, hx, Option.map_some, Option.some.injEq] at h3
        have h4 := hev x (.inl (List.mem_of_getElem? hx))
        unfold firstV at h3
        split at h3
        · rename_i y hy
          injection h3 with h3
          subst h3
          rw [hy] at h4
          exact h4
        · cases h3
    · have := congrArg List.length h2
      simpa using this
    · intro j k hj
      have h3 : (cap.toList.map (fun x => capV (ev P S 0 x)))[j]? = some (some k) := by rw [h2]; simp [hj]
      simp only [List.getElem?_map, Option.map_eq_some_iff] at h3
      obtain ⟨x, hx, h5⟩ := h3
      have h4 := hev x (.inr (List.mem_of_getElem? hx))
      unfold capV at h5
      split at h5
      · rename_i k' hy
        injection h5 with h5
        subst h5
        rw [hy] at h4
        obtain ⟨h6, g, h7, h8⟩ := h4
        exact ⟨h6, g, h7, by simp [hx, h8, ptrTo]⟩
      · cases h5
  · exact hk.elim
end
end Go.Proofs.YtieeiiibamkbmaaGreat.Am
