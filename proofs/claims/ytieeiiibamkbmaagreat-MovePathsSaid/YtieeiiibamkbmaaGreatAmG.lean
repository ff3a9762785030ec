/- The abstract machine's operations on memory tell what the program's do. Conditions: none; these are lemmas. -/
import Derived.Test.YtieeiiibamkbmaaGreatAmF
import Derived.Great.BuildSlice
namespace Go.Proofs.YtieeiiibamkbmaaGreat.Am
open Go Go.RowKit
set_option linter.unusedVariables false
set_option linter.unusedSimpArgs false

theorem app_cons (h : Hp) (k : Nat) (b : Blk) (hs : List (Nat × Blk)) : h.app ((k, b) :: hs) = (h.app hs).set k b := by
  funext j
  simp only [Hp.app, List.map_cons, look, Hp.set]
  by_cases hj : j = k
  · subst hj; simp
  · simp [hj, beq_ne (Ne.symm hj)]
theorem app_append (h : Hp) (a b : List (Nat × Blk)) : h.app (a ++ b) = (h.app b).app a := by
  induction a with
  | nil => rfl
  | cons q a ih => rw [List.cons_append, app_cons, app_cons, ih]
section
variable {P : Program} {nt : Nat} {Γ : List Fe} {C : Seat} {Q : Exit → Act → World → Prop} {o : Oper} {S : St} {r : Nat → RV} {h : Hp} {io : Nat → Value} {a : Act} {w : World}
/-- An operation that seals rows, and changes its register. -/
theorem OpOk.sealed {v : RV} {rd : List Nat} {l : List RV} (hd : dstOk nt o = true) (hrd : ∀ k, RV.row k ∈ l → k ∈ rd)
    (hrun : ∀ {C : Seat} (r : Nat → RV) (h : Hp), (∀ t ∈ opTmps o, r t = S.get t) → (∀ k ∈ rd, h k = S.hp k) → ∀ io a w, Rel C r h io a w →
      ∃ u, (execOp a.eval o).run P w = .ok (.value u) w ∧ repR w (NN C.Nx io (h.app (seals S l))) io (h.app (seals S l)) v u) : OpOk P nt o S ⟨v, seals S l, rd⟩ := by
  intro C Q hnt r h hr hh io a w R
  obtain ⟨u, h1, h2⟩ := hrun r h hr (fun k hk => hh k (.inl hk)) io a w R
  unfold Oper.wp
  rw [h1]
  have hs : SealTo h (h.app (seals S l)) := SealTo.seals (fun k hk => hh k (.inl (hrd k hk)))
  exact ⟨io, (R.sealTo hs).pure o.dst v u (fun _ => h2) (dst_lt hd hnt)⟩
theorem mem_heapOf {l : List RV} {k : Nat} (hk : RV.row k ∈ l) : k ∈ l.flatMap heapOf := List.mem_flatMap.2 ⟨_, hk, by simp [heapOf]⟩
theorem pvs_ok {S : St} {L : List RV} (hl : ∀ k, RV.row k ∈ L → h k = S.hp k) (R : Rel C r h io a w) :
    ∀ {l : List RV} {ps : List Pv} {us : List Value}, (∀ x ∈ l, x ∈ L) → pvs S l = some ps → l.length = us.length → (∀ (j : Nat) (x : RV) (u : Value), l[j]? = some x → us[j]? = some u → repR w (NN C.Nx io h) io h x u) →
      repC w (NN C.Nx io (h.app (seals S L))) ps us
  | [], ps, us, _, hp, hlen, _ => by
    simp only [pvs, Option.some.injEq] at hp
    subst hp
    cases us with
    | nil => trivial
    | cons _ _ => simp at hlen
  | x :: l, ps, us, hin, hp, hlen, hg => by
    cases us with
    | nil => simp at hlen
    | cons u us =>
      have hx : ∃ p qs, pure1 S x = some (.v p) ∧ pvs S l = some qs ∧ ps = p :: qs := by
        unfold pvs at hp
        split at hp
        · simp at *
        · rename_i p m e
          simp only [List.cons.injEq] at e
          obtain ⟨rfl, rfl⟩ := e
          split at hp
          · rename_i qs hq
            exact ⟨p, qs, rfl, hq, (Option.some.inj hp).symm⟩
          · cases hp
        · rename_i k m e
          simp only [List.cons.injEq] at e
          obtain ⟨rfl, rfl⟩ := e
          split at hp
          · rename_i p qs h1 h2
            exact ⟨p, qs, by simp [pure1, h1], h2, (Option.some.inj hp).symm⟩
          · cases hp
        · cases hp
      obtain ⟨p, qs, h1, h2, rfl⟩ := hx
      exact ⟨pure1_ok hl R (hin x (by simp)) h1 (hg 0 x u rfl rfl), pvs_ok hl R (fun y hy => hin y (by simp [hy])) h2 (by simpa using hlen) (fun j y v hy hv => hg (j + 1) y v (by simpa using hy) (by simpa using hv))⟩
theorem addr_add (g off j : Nat) : (⟨g, off, none⟩ : Addr).add j = ⟨g, off + j, none⟩ := by
  unfold Addr.add
  split <;> simp_all
/-- A load, its cells being known. -/
theorem run_loadAt {t : TypeId} {d : TypeDesc} {i : TypeInfo} {g off : Nat} {cs : List Value} (hd : P.underlying t = some d) (hi : P.info? t = some i) (hl : cs.length = i.size)
    (hc : ∀ (j : Nat) (v : Value), cs[j]? = some v → w.cell? ⟨g, off + j, none⟩ = some v) :
    (aggT P t = true → (Instr.loadAt t (.pointer (some ⟨g, off, none⟩))).run P w = .ok (.agg cs.toArray) w) ∧
    (aggT P t = false → ∀ u, cs = [u] → (Instr.loadAt t (.pointer (some ⟨g, off, none⟩))).run P w = .ok u w) := by
  refine ⟨fun ha => ?_, fun ha u hu => ?_⟩
  · have := run_loadCells_list (P := P) w ⟨g, off, none⟩ cs (fun j v hj => by rw [addr_add]; exact hc j v hj)
    simp only [Instr.loadAt, Instr.sureAddr, Sem.run_bind, Sem.run_pure, Result.andThen_ok, loadVar, run_isAgg hd, ha, if_true, run_sizeOf' hi, ← hl, this]
  · have h0 := hc 0 u (by simp [hu])
    simp only [Nat.add_zero] at h0
    simp [Instr.loadAt, Instr.sureAddr, loadVar, run_isAgg hd, ha, h0]
theorem ok_load {t : TypeId} {x : Operand} {K : Eff → Prop} (ho : o.op = .load t x) (hd : dstOk nt o = true) (hk : opK P Γ o S K) : ∃ e, K e ∧ OpOk P nt o S e := by
  simp only [opK, ho] at hk
  have hx : ∀ {C : Seat} (r : Nat → RV) (h : Hp), (∀ t ∈ opTmps o, r t = S.get t) → ∀ io a w, Rel C r h io a w → repR w (NN C.Nx io h) io h (ev P S 0 x) (a.eval x) :=
    fun r h hr io a w R => ev_ok R (fun t ht => hr t (mem_opTmps (by simp [ho, Op.operands, ht])))
  have hexec : ∀ (a : Act) (w : World) (u : Value), (Instr.loadAt t (a.eval x)).run P w = .ok u w → (execOp a.eval o).run P w = .ok (.value u) w := by
    intro a w u hu
    simp only [execOp, ho, Sem.run_bind, hu, Result.andThen_ok, Sem.run_pure]
  unfold loadK at hk
  split at hk
  · rename_i k off he
    split at hk
    · rename_i wr tb cs hb
      split at hk
      · rename_i l hl
        obtain ⟨d, i, h1, h2, h3, rfl⟩ := cutT_some hl
        -- the cells of the block
        have cells : ∀ {C : Seat} (r : Nat → RV) (h : Hp), (∀ t ∈ opTmps o, r t = S.get t) → h k = S.hp k → ∀ io a w, Rel C r h io a w →
            ∃ g, ∃ us : List Value, a.eval x = .pointer (some ⟨g, off, none⟩) ∧ us.length = i.size ∧ (∀ (j : Nat) (v : Value), us[j]? = some v → w.cell? ⟨g, off + j, none⟩ = some v) ∧
              ∀ (j : Nat) (c : RV) (u : Value), ((cs.drop off).take i.size)[j]? = some c → us[j]? = some u → repR w (NN C.Nx io h) io h c u := by
          intro C r h hr hkk io a w R
          have h4 := hx r h hr io a w R
          rw [he] at h4
          obtain ⟨_, g, h5, h6⟩ := h4
          rw [hb] at hkk
          obtain ⟨g', vals, h7, h8, h9, _, h10⟩ := R.heap k _ hkk
          have hgg : g = g' := by rw [h5] at h7; simp only [ptrTo, Value.pointer.injEq, Option.some.injEq, Addr.mk.injEq, and_true] at h7; exact h7
          subst hgg
          refine ⟨g, (vals.toList.drop off).take i.size, h6, ?_, fun j v hj => ?_, fun j c u hc hu => ?_⟩
          · simp; omega
          · rw [List.getElem?_take] at hj
            split at hj
            · rw [List.getElem?_drop] at hj
              simp only [World.cell?, h8]
              simpa using hj
            · cases hj
          · rw [List.getElem?_take] at hc hu
            split at hc
            · rename_i hlt
              simp only [hlt, if_true, List.getElem?_drop] at hc hu
              obtain ⟨v, h11, _, h12⟩ := h10 (off + j) c hc
              rw [← Array.getElem?_toList] at h11
              rw [h11] at hu
              injection hu with hu
              exact hu ▸ h12
            · cases hc
        cases ha : aggT P t
        · simp only [ha, cond_false] at hk
          split at hk
          · rename_i c hc
            refine ⟨_, hk, OpOk.pure hd (fun {C} r h hr hh io a w R => ?_)⟩
            obtain ⟨g, us, h4, h5, h6, h7⟩ := cells r h hr (hh k (by simp)) io a w R
            have hlen : us.length = 1 := by
              have : ((cs.drop off).take i.size).length = i.size := by simp; omega
              rw [hc] at this
              simp at this
              omega
            obtain ⟨u, rfl⟩ := List.length_eq_one_iff.1 hlen
            exact ⟨u, hexec a w u (by rw [h4]; exact (run_loadAt h1 h2 h5 h6).2 ha u rfl), h7 0 c u (by rw [hc]; rfl) rfl⟩
          · exact hk.elim
        · simp only [ha, cond_true] at hk
          split at hk
          · rename_i ps hps
            refine ⟨_, hk, OpOk.sealed hd (fun j hj => List.mem_cons_of_mem _ (mem_heapOf hj)) (fun {C} r h hr hh io a w R => ?_)⟩
            obtain ⟨g, us, h4, h5, h6, h7⟩ := cells r h hr (hh k (by simp)) io a w R
            refine ⟨_, hexec a w _ (by rw [h4]; exact (run_loadAt h1 h2 h5 h6).1 ha), us, rfl, ?_⟩
            exact pvs_ok (fun j hj => hh j (List.mem_cons_of_mem _ (mem_heapOf hj))) R (fun y hy => hy) hps (by simp; omega) h7
          · exact hk.elim
      · exact hk.elim
    · exact hk.elim
  · rename_i p off he
    split at hk
    · rename_i l hl
      obtain ⟨d, i, h1, h2, h3, rfl⟩ := cutT_some hl
      split at hk
      · rename_i v hv
        refine ⟨_, hk, OpOk.pure hd (fun {C} r h hr hh io a w R => ?_)⟩
        have h4 := hx r h hr io a w R
        rw [he] at h4
        obtain ⟨b, q, h5, h6, h7, es, h8, h9⟩ := h4
        have hc := repC_cut (rep_unpack h8) h3
        have hlen := repC_len (rep_unpack h8)
        have hcells : ∀ (j : Nat) (v : Value), ((es.drop off).take i.size)[j]? = some v → w.cell? ⟨b, (q + off) + j, none⟩ = some v := by
          intro j v hj
          rw [List.getElem?_take] at hj
          split at hj
          · rw [List.getElem?_drop] at hj
            have := h9 (off + j) v hj
            rw [← Nat.add_assoc] at this
            exact this
          · cases hj
        obtain ⟨y, rfl, h10⟩ := repV1_cut hv hc
        rcases h10 with ⟨ha, h10⟩ | ⟨ha, u, hu, h10⟩
        · exact ⟨_, hexec a w _ (by rw [h5]; exact (run_loadAt h1 h2 (by simp; omega) hcells).1 ha), h10⟩
        · exact ⟨u, hexec a w u (by rw [h5]; exact (run_loadAt h1 h2 (by simp; omega) hcells).2 ha u hu), h10⟩
      · exact hk.elim
    · exact hk.elim
  · rename_i k ix off he
    split at hk
    · rename_i te e xs hb
      split at hk
      · rename_i l hl
        obtain ⟨d, i, h1, h2, h3, rfl⟩ := cutT_some hl
        split at hk
        · rename_i v hv
          refine ⟨_, hk, OpOk.pure hd (fun {C} r h hr hh io a w R => ?_)⟩
          have h4 := hx r h hr io a w R
          rw [he] at h4
          obtain ⟨_, h5⟩ := h4
          have hkk := hh k (by simp)
          rw [hb] at hkk
          obtain ⟨g, n, c, h6, h7, h8⟩ := h5 te e xs hkk
          obtain ⟨cs, h9, h10, h11⟩ := R.heap k _ hkk
          have hget : xs[ix]? = some (xs.getD ix e.zero) := by simp [List.getD, List.getElem?_eq_getElem h7]
          obtain ⟨es, h12, h13⟩ := h11 ix _ hget
          have hc := repC_cut (rep_unpack h12) h3
          have hlen := repC_len (rep_unpack h12)
          have hrow : ∃ cap cur, io k = .slice (some ⟨g, 0, none⟩) xs.length cap ∧ w.heap[g]? = some (.cells cur te (0, 0)) ∧ cur.toList.take (xs.length * e.cells) = cs := by
            rcases h9.2 with ⟨h14, _⟩ | ⟨g', cap, cur, h14, _, h15, _, _, _, h16⟩
            · rw [h6] at h14; simp at h14
            · rw [h6] at h14
              simp only [Value.slice.injEq, Option.some.injEq, Addr.mk.injEq, and_true] at h14
              obtain ⟨rfl, rfl, rfl⟩ := h14
              exact ⟨_, cur, h6, h15, h16⟩
          obtain ⟨cap, cur, _, h15, h16⟩ := hrow
          have hcells : ∀ (j : Nat) (v : Value), ((es.drop off).take i.size)[j]? = some v → w.cell? ⟨g, (ix * e.cells + off) + j, none⟩ = some v := by
            intro j v hj
            rw [List.getElem?_take] at hj
            split at hj
            · rw [List.getElem?_drop] at hj
              have := h13 (off + j) v hj
              rw [← h16, List.getElem?_take] at this
              split at this
              · simp only [World.cell?, h15]
                rw [← Nat.add_assoc] at this
                simpa using this
              · cases this
            · cases hj
          obtain ⟨y, rfl, h17⟩ := repV1_cut hv hc
          rcases h17 with ⟨ha, h17⟩ | ⟨ha, u, hu, h17⟩
          · exact ⟨_, hexec a w _ (by rw [h8]; exact (run_loadAt h1 h2 (by simp; omega) hcells).1 ha), h17⟩
          · exact ⟨u, hexec a w u (by rw [h8]; exact (run_loadAt h1 h2 (by simp; omega) hcells).2 ha u hu), h17⟩
        · exact hk.elim
      · exact hk.elim
    · exact hk.elim
  · exact hk.elim
theorem move_ok {x v : RV} {n : Nat} (hm : move S x n = some v) (hl : ∀ k ∈ melOf x, h k = S.hp k) {N : Nat → Prop} {u : Value} (hu : repR w N io h x u) : ∃ g q, u = .pointer (some ⟨g, q, none⟩) ∧ repR w N io h v (.pointer (some ⟨g, q + n, none⟩)) := by
  unfold move at hm
  split at hm
  · injection hm with hm
    subst hm
    obtain ⟨h1, g, h2, h3⟩ := hu
    exact ⟨g, _, h3, h1, g, h2, rfl⟩
  · injection hm with hm
    subst hm
    obtain ⟨b, q, h1, h2⟩ := hu
    exact ⟨b, _, h1, b, q, by rw [Nat.add_assoc], h2⟩
  · rename_i k i off
    split at hm
    · rename_i te e xs hs
      injection hm with hm
      subst hm
      obtain ⟨h1, h2⟩ := hu
      have hk := (hl k (by simp [melOf])).trans hs
      obtain ⟨g, n', c, h3, h4, h5⟩ := h2 te e xs hk
      refine ⟨g, _, h5, h1, fun te' e' ys hy => ?_⟩
      rw [hk] at hy
      injection hy with hy
      injection hy with q1 q2 q3
      subst q1 q2
      have q3 := eq_of_heq q3
      subst q3
      exact ⟨g, n', c, h3, h4, by rw [Nat.add_assoc]⟩
    · cases hm
  · cases hm
theorem ok_fieldAddr {t : TypeId} {x : Operand} {f : Nat} {K : Eff → Prop} (ho : o.op = .fieldAddr t x f) (hd : dstOk nt o = true) (hk : opK P Γ o S K) : ∃ e, K e ∧ OpOk P nt o S e := by
  simp only [opK, ho] at hk
  split at hk
  · rename_i fs ht
    split at hk
    · rename_i g hg
      split at hk
      · exact hk.elim
      · rename_i hsz
        split at hk
        · rename_i v hv
          refine ⟨_, hk, OpOk.pure hd (fun {C} r h hr hh io a w R => ?_)⟩
          have h4 := ev_ok (P := P) (S := S) (ty := 0) (x := x) R (fun t ht => hr t (mem_opTmps (by simp [ho, Op.operands, ht])))
          obtain ⟨b, q, h5, h6⟩ := move_ok hv hh h4
          refine ⟨_, ?_, h6⟩
          have hi : ∃ i, P.info? g.type = some i ∧ i.size ≠ 0 := by
            unfold sz at hsz
            split at hsz
            · rename_i i hi; exact ⟨i, hi, hsz⟩
            · simp at hsz
          obtain ⟨i, hi, hne⟩ := hi
          simp [execOp, ho, h5, Instr.fieldAt, Instr.sureAddr, run_underlying ht, hg, fieldPlace, run_sizeOf' hi, hne, addr_add]
        · exact hk.elim
    · exact hk.elim
  · exact hk.elim
theorem int_ev {x : Operand} {t : TypeId} {n : Int} (hn : intOfRV (ev P S t x) = some n) (hr : ∀ t, x = .tmp t → r t = S.get t) (R : Rel C r h io a w) : ∃ k, a.eval x = .int k n := by
  have h1 := ev_ok (P := P) (S := S) (ty := t) (x := x) R hr
  unfold intOfRV at hn
  split at hn
  · rename_i k m he
    rw [he] at h1
    injection hn with hn
    subst hn
    exact ⟨k, int_of h1⟩
  · cases hn
theorem sz_of {t : TypeId} {n : Nat} (hn : szIs P t n = true) : ∃ i, P.info? t = some i ∧ i.size = n := by
  unfold szIs at hn
  split at hn
  · rename_i i hi; exact ⟨i, hi, by simpa using hn⟩
  · cases hn
theorem ok_indexAddr {t : TypeId} {x y : Operand} {K : Eff → Prop} (ho : o.op = .indexAddr t x y) (hd : dstOk nt o = true) (hk : opK P Γ o S K) : ∃ e, K e ∧ OpOk P nt o S e := by
  simp only [opK, ho] at hk
  have hx : ∀ {C : Seat} (r : Nat → RV) (h : Hp), (∀ t ∈ opTmps o, r t = S.get t) → ∀ io a w, Rel C r h io a w → repR w (NN C.Nx io h) io h (ev P S 0 x) (a.eval x) :=
    fun r h hr io a w R => ev_ok R (fun t ht => hr t (mem_opTmps (by simp [ho, Op.operands, ht])))
  split at hk
  · rename_i n hn
    have hy : ∀ {C : Seat} (r : Nat → RV) (h : Hp), (∀ t ∈ opTmps o, r t = S.get t) → ∀ io a w, Rel C r h io a w → ∃ k, a.eval y = .int k n :=
      fun r h hr io a w R => int_ev hn (fun t ht => hr t (mem_opTmps (by simp [ho, Op.operands, ht]))) R
    unfold indexK at hk
    split at hk
    · rename_i te ht
      have hexec : ∀ (a : Act) (w : World) (b off : Nat) (s : Option Nat) (len c : Nat) (k : IntKind) (i : TypeInfo), P.info? te = some i → a.eval x = .slice (some ⟨b, off, s⟩) len c → a.eval y = .int k n → 0 ≤ n → n < (len : Int) →
          (execOp a.eval o).run P w = .ok (.value (.pointer (some ((⟨b, off, s⟩ : Addr).add (n.toNat * i.size))))) w := by
        intro a w b off s len c k i hi h1 h2 h3 h4
        simp [execOp, ho, h1, h2, Instr.indexAt, run_underlying ht, asIntOf, h3, h4, run_sizeOf' hi]
      have hmul : ∀ (b off : Nat) (s : Option Nat) (m : Nat), s = none → (⟨b, off, s⟩ : Addr).add m = ⟨b, off + m, none⟩ := by
        intro b off s m hs
        subst hs
        exact addr_add _ _ _
      have cel : ∀ (e : Ty) (xs : List e.den), szIs P te e.cells = true → 0 ≤ n → n < ((List.length xs : Nat) : Int) → ∀ {C : Seat} (r : Nat → RV) (h : Hp), (∀ t ∈ opTmps o, r t = S.get t) → ∀ io a w, Rel C r h io a w →
          rep w (NN C.Nx io h) (.slice e) xs [a.eval x] → ∃ u, (execOp a.eval o).run P w = .ok (.value u) w ∧ repR w (NN C.Nx io h) io h (.cel (.v e (xs.getD n.toNat e.zero)) 0) u := by
        intro e xs hs h0 h1 C r h hr io a w R hrep
        obtain ⟨k, hky⟩ := hy r h hr io a w R
        obtain ⟨v, h2, h3⟩ := hrep
        injection h2 with h2
        subst h2
        have hlt : n.toNat < xs.length := by omega
        have hget : xs[n.toNat]? = some (xs.getD n.toNat e.zero) := by simp [List.getD, List.getElem?_eq_getElem hlt]
        rcases h3 with ⟨_, h4⟩ | ⟨b, off, s, c, h4, h5, h6, h7⟩
        · rw [h4] at hlt; simp at hlt
        · obtain ⟨h8, h9, h10, es, h11, h12⟩ := h7 _ _ hget
          have hi := sz_of hs
          obtain ⟨i, hi, his⟩ := hi
          refine ⟨_, hexec a w b off s _ c k i hi h4 hky h0 h1, b, off + n.toNat * e.cells, ?_, h9, h10, es, h11, h12⟩
          rw [hmul b off s _ h8, his]
          rfl
      split at hk
      · rename_i e xs he
        split at hk
        · rename_i hs
          obtain ⟨⟨h0, h1⟩, hk⟩ := hk
          refine ⟨_, hk, OpOk.pure hd (fun {C} r h hr hh io a w R => ?_)⟩
          have h4 := hx r h hr io a w R
          rw [he] at h4
          exact cel e xs hs h0 h1 r h hr io a w R h4.2
        · exact hk.elim
      · rename_i k he
        split at hk
        · rename_i te' e xs hb
          split at hk
          · rename_i hs
            obtain ⟨⟨h0, h1⟩, hk⟩ := hk
            refine ⟨_, hk, OpOk.pure hd (fun {C} r h hr hh io a w R => ?_)⟩
            have h4 := hx r h hr io a w R
            rw [he] at h4
            have hkk := (hh k (by simp)).trans hb
            have h5 := h4.2 (by rw [hkk]; simp)
            obtain ⟨q, hky⟩ := hy r h hr io a w R
            have hlt : n.toNat < xs.length := by omega
            obtain ⟨cs, h6, h7, h8⟩ := R.heap k _ hkk
            rcases h6.2 with ⟨_, h9⟩ | ⟨g, cap, cur, h9, h10⟩
            · omega
            · rw [h9] at h5
              have hi := sz_of hs
              obtain ⟨i, hi, his⟩ := hi
              refine ⟨_, hexec a w g 0 none _ cap q i hi h5 hky h0 h1, h4.1, fun te2 e2 ys hy2 => ?_⟩
              rw [hkk] at hy2
              injection hy2 with hy2
              injection hy2 with q1 q2 q3
              subst q1 q2
              have q3 := eq_of_heq q3
              subst q3
              exact ⟨g, _, _, h9, hlt, by rw [hmul g 0 none _ rfl, his]; simp⟩
          · exact hk.elim
        · rename_i e xs hb
          split at hk
          · rename_i hs
            obtain ⟨⟨h0, h1⟩, hk⟩ := hk
            refine ⟨_, hk, OpOk.pure hd (fun {C} r h hr hh io a w R => ?_)⟩
            have h4 := hx r h hr io a w R
            rw [he] at h4
            have hkk := (hh k (by simp)).trans hb
            have h5 := h4.2 (by rw [hkk]; simp)
            have h6 := R.heap k _ hkk
            refine cel e xs hs h0 h1 r h hr io a w R ?_
            rw [h5]
            exact h6
          · exact hk.elim
        · exact hk.elim
      · exact hk.elim
    · rename_i len te ht
      split at hk
      · rename_i hlt
        split at hk
        · rename_i v hv
          refine ⟨_, hk, OpOk.pure hd (fun {C} r h hr hh io a w R => ?_)⟩
          have h4 := hx r h hr io a w R
          obtain ⟨b, q, h5, h6⟩ := move_ok hv hh h4
          obtain ⟨k, hky⟩ := hy r h hr io a w R
          obtain ⟨i, hi⟩ := Option.isSome_iff_exists.1 hlt.2
          refine ⟨_, ?_, h6⟩
          simp [execOp, ho, h5, hky, Instr.indexAt, Instr.sureAddr, run_underlying ht, asIntOf, hlt.1, run_sizeOf' hi, sz, hi, addr_add]
        · exact hk.elim
      · exact hk.elim
    · exact hk.elim
  · exact hk.elim
end
end Go.Proofs.YtieeiiibamkbmaaGreat.Am
