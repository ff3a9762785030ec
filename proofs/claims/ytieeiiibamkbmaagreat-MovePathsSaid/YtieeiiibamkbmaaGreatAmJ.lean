/- The abstract machine's stores, and rows that are made. Conditions: none; these are lemmas. -/
import Derived.Test.YtieeiiibamkbmaaGreatAmI
namespace Go.Proofs.YtieeiiibamkbmaaGreat.Am
open Go Go.RowKit
set_option linter.unusedVariables false
set_option linter.unusedSimpArgs false

section
variable {P : Program} {nt : Nat} {Γ : List Fe} {C : Seat} {Q : Exit → Act → World → Prop} {o : Oper} {S : St} {r : Nat → RV} {h : Hp} {io : Nat → Value} {a : Act} {w : World}
theorem keep_setRow (w : World) (g : Nat) (cs : Array Value) : Keep (fun x => x = g) w (w.setRow g cs) := ⟨rfl, rfl, rfl, by simp, fun k hk hn => setRow_other w g k _ hn⟩
/-- A store, done. -/
theorem run_storeAt {t tb : TypeId} {i : TypeInfo} {g off : Nat} {vals : Array Value} {u : Value} (hi : P.info? t = some i) (hg : w.heap[g]? = some (.cells vals tb (0, 0)))
    (hs : u.cells.size = i.size) (hle : off + i.size ≤ vals.size) (h1 : ∀ v ∈ u.cells.toList, v.oneCell' = true) :
    (Instr.storeAt t (.pointer (some ⟨g, off, none⟩)) u).run P w = .ok () (w.setRow g (splice vals.toList off u.cells.toList).toArray) := by
  have h2 := run_storeCells_at (P := P) g off tb u.cells.toList 0 vals w hg (by simpa [hs] using hle) h1
  have h3 : ¬ (u.cells.size ≠ i.size) := by simp [hs]
  simp only [Instr.storeAt, Instr.sureAddr, Sem.run_bind, Sem.run_pure, Result.andThen_ok, storeVar, run_sizeOf' hi, h3, if_false, h2, Nat.add_zero]
  rfl
theorem splice_get {α : Type} {l m : List α} {off j : Nat} (hle : off + m.length ≤ l.length) : (splice l off m)[j]? = if off ≤ j ∧ j < off + m.length then m[j - off]? else l[j]? := by
  unfold splice
  by_cases h1 : j < off
  · have : ¬ (off ≤ j ∧ j < off + m.length) := by omega
    rw [if_neg this, List.append_assoc, List.getElem?_append_left (by simp; omega), List.getElem?_take, if_pos h1]
  · by_cases h2 : j < off + m.length
    · rw [if_pos ⟨by omega, h2⟩, List.getElem?_append_left (by simp; omega), List.getElem?_append_right (by simp; omega)]
      congr 1
      simp; omega
    · have : ¬ (off ≤ j ∧ j < off + m.length) := by omega
      rw [if_neg this, List.getElem?_append_right (by simp; omega), List.getElem?_drop]
      congr 1
      simp; omega
theorem splice_len {α : Type} {l m : List α} {off : Nat} (hle : off + m.length ≤ l.length) : (splice l off m).length = l.length := by
  simp [splice]; omega
theorem repC_splice {N : Nat → Prop} {l m : List Pv} {cs ds : List Value} {off : Nat} (h1 : repC w N l cs) (h2 : repC w N m ds) (hle : off + m.length ≤ l.length) : repC w N (splice l off m) (splice cs off ds) := by
  have e1 := repC_len h1
  have e2 := repC_len h2
  refine repC_of_get (by rw [splice_len hle, splice_len (by omega)]; exact e1) (fun j p u hp hu => ?_)
  rw [splice_get hle] at hp
  rw [splice_get (by omega), ← e2] at hu
  split at hp
  · rename_i hj
    simp only [hj, and_self, if_true] at hu
    obtain ⟨v, h3, h4⟩ := repC_get h2 hp
    rw [h3] at hu
    injection hu with hu
    exact hu ▸ h4
  · rename_i hj
    rw [if_neg hj] at hu
    obtain ⟨v, h3, h4⟩ := repC_get h1 hp
    rw [h3] at hu
    injection hu with hu
    exact hu ▸ h4
theorem ok_store {t : TypeId} {x y : Operand} {K : Eff → Prop} (ho : o.op = .store t x y) (hd : dstOk nt o = true) (hk : opK P Γ o S K) : ∃ e, K e ∧ OpOk P nt o S e := by
  simp only [opK, ho] at hk
  cases hdst : o.dst with
  | some d => simp [hdst] at hk
  | none =>
  simp only [hdst, Option.isNone_none, cond_true] at hk
  have hx : ∀ {C : Seat} (r : Nat → RV) (h : Hp), (∀ t ∈ opTmps o, r t = S.get t) → ∀ io a w, Rel C r h io a w → repR w (NN C.Nx io h) io h (ev P S 0 x) (a.eval x) :=
    fun r h hr io a w R => ev_ok R (fun t ht => hr t (mem_opTmps (by simp [ho, Op.operands, ht])))
  have hy : ∀ {C : Seat} (r : Nat → RV) (h : Hp), (∀ t ∈ opTmps o, r t = S.get t) → ∀ io a w, Rel C r h io a w → repR w (NN C.Nx io h) io h (ev P S t y) (a.eval y) :=
    fun r h hr io a w R => ev_ok R (fun t ht => hr t (mem_opTmps (by simp [ho, Op.operands, ht])))
  have hexec : ∀ (a : Act) (w w1 : World), (Instr.storeAt t (a.eval x) (a.eval y)).run P w = .ok () w1 → (execOp a.eval o).run P w = .ok .skip w1 := by
    intro a w w1 hu
    simp only [execOp, ho, Sem.run_bind, hu, Result.andThen_ok, Sem.run_pure]
  have hnone : ∀ (r : Nat → RV) (v : RV), setR r o.dst v = r := fun r v => by funext t; simp [setR, hdst]
  have hput : ∀ (a : Act) (u : Value), a.put o.dst u = a := fun a u => by simp [hdst, Act.put]
  unfold storeK at hk
  split at hk
  · rename_i k off he
    split at hk
    · rename_i tb cs m hb hm
      split at hk
      · rename_i hlen
        refine ⟨_, hk, ?_⟩
        intro C Q hnt r h hr hh io a w R
        have h1 := hx r h hr io a w R
        rw [he] at h1
        obtain ⟨_, g, h2, h3⟩ := h1
        have hkk := (hh k (.inl (by simp))).trans hb
        obtain ⟨g', vals, h4, h5, h6, _, h7⟩ := R.heap k _ hkk
        have hgg : g = g' := by rw [h2] at h4; simp only [ptrTo, Value.pointer.injEq, Option.some.injEq, Addr.mk.injEq, and_true] at h4; exact h4
        subst hgg
        obtain ⟨h8, h9, h10⟩ := toCells_ok R (fun j hj => hh j (.inl (List.mem_cons_of_mem _ hj))) hm (hy r h hr io a w R)
        obtain ⟨i, hi, his⟩ := sz_of hlen.1
        have hle : off + m.length ≤ cs.length := hlen.2
        have hrun := run_storeAt (P := P) (u := a.eval y) (off := off) hi h5 (by omega) (by omega) h9
        unfold Oper.wp
        rw [hexec a w _ (by rw [h3]; exact hrun)]
        refine ⟨io, ?_⟩
        rw [hnone, hput, app_one]
        refine R.store hkk (g := g) (by simp [h2, ptrTo, blkOf]) (.inl ⟨tb, cs, _, rfl, rfl⟩) (keep_setRow _ _ _) (fun hM => ?_)
        refine ⟨g, _, h2, setRow_heap w g vals _ tb _ h5, ?_, (fun e => by cases e), fun j c hc => ?_⟩
        · simp only [List.size_toArray]
          rw [splice_len (by simp; omega), splice_len hle]
          simpa using h6
        · rw [splice_get hle] at hc
          have e8 : (a.eval y).cells.toList.length = m.length := by simpa using h8
          simp only [List.getElem?_toArray]
          rw [splice_get (by simp only [Array.length_toList] at *; omega), e8]
          split at hc
          · rename_i hj
            rw [if_pos hj]
            obtain ⟨v, q1, q2, q3⟩ := h10 _ c hc
            exact ⟨v, by rw [Array.getElem?_toList]; exact q1, q2, repR_step hM q3⟩
          · rename_i hj
            rw [if_neg hj]
            obtain ⟨v, q1, q2, q3⟩ := h7 j c hc
            exact ⟨v, by rw [Array.getElem?_toList]; exact q1, q2, repR_step hM q3⟩
      · exact hk.elim
    · exact hk.elim
  · rename_i k ix off he
    split at hk
    · rename_i te e xs v hb hv
      split at hk
      · rename_i hlen
        split at hk
        · rename_i z hz
          refine ⟨_, hk, ?_⟩
          intro C Q hnt r h hr hh io a w R
          have hkk := (hh k (.inl (by simp))).trans hb
          have hl : ∀ j, RV.row j ∈ [ev P S t y] → h j = S.hp j := fun j hj => by
            simp only [List.mem_singleton] at hj
            exact hh j (.inl (List.mem_cons_of_mem _ (by rw [← hj]; simp [heapOf])))
          have hs : SealTo h (h.app (seals S [ev P S t y])) := SealTo.seals hl
          have R1 := R.sealTo hs
          have hvr : repV1 w (NN C.Nx io (h.app (seals S [ev P S t y]))) v (a.eval y) := pure1_ok hl R (by simp) hv (hy r h hr io a w R)
          have h1 := hx r h hr io a w R
          rw [he] at h1
          obtain ⟨g, n, c, h2, h3, h4⟩ := h1.2 te e xs hkk
          have hk1 : (h.app (seals S [ev P S t y])) k = some (.row te e xs) := by
            rcases hs k with q | ⟨te', e', ys, q1, q2⟩
            · rw [q]; exact hkk
            · rcases seals_at S [ev P S t y] k (h k) with ⟨_, _, _, _, q3, _⟩ | ⟨_, q3⟩
              · simp only [List.mem_singleton] at q3
                have := hlen.2.2
                rw [← q3] at this
                simp [heapOf] at this
              · exact q3.trans hkk
          obtain ⟨cs, h5, h6, h7⟩ := R1.heap k _ hk1
          obtain ⟨i, hi, his⟩ := sz_of hlen.1
          have hus := repV1_cells hvr
          have hul := repC_len hus
          have hget : xs[ix]? = some (xs.getD ix e.zero) := by simp [List.getD, List.getElem?_eq_getElem h3]
          obtain ⟨es, h8, h9⟩ := h7 ix _ hget
          have hel := rep_len h8
          have hup := repC_len (rep_unpack h8)
          have hcells := hlen.2.1
          rcases h5.2 with ⟨q, _⟩ | ⟨g', cap, cur, q1, q2, q3, q4, q5, q6, q7⟩
          · rw [h2] at q; simp at q
          · have hgg : g = g' := by rw [h2] at q1; simp only [Value.slice.injEq, Option.some.injEq, Addr.mk.injEq, and_true] at q1; exact q1.1
            subst hgg
            have hb1 : (ix + 1) * e.cells ≤ xs.length * e.cells := Nat.mul_le_mul_right _ h3
            have hb2 : xs.length * e.cells ≤ cap * e.cells := Nat.mul_le_mul_right _ q4
            have hb3 : (ix + 1) * e.cells = ix * e.cells + e.cells := by rw [Nat.add_mul, Nat.one_mul]
            have husz : (a.eval y).cells.toList.length = v.cells.length := hul.symm
            have husz2 : (a.eval y).cells.size = v.cells.length := by simpa using husz
            have hcs2 : cur.toList.length = cap * e.cells := by simpa using q6
            have hrun := run_storeAt (P := P) (u := a.eval y) (off := ix * e.cells + off) hi q3 (by simpa [his] using husz) (by omega) (repC_one hus)
            unfold Oper.wp
            rw [hexec a w _ (by rw [h4]; exact hrun)]
            refine ⟨io, ?_⟩
            rw [hnone, hput, app_cons]
            refine R1.store hk1 (g := g) (by simp [h2, blkOf]) (.inr ⟨te, e, xs, _, rfl, rfl, by simp⟩) (keep_setRow _ _ _) (fun hM => ?_)
            have hcl : cs.length = xs.length * e.cells := h5.1
            refine ⟨splice cs (ix * e.cells + off) (a.eval y).cells.toList, ⟨by rw [splice_len (by omega)]; simpa using hcl, .inr ⟨g, cap, _, by simpa using q1, Nat.zero_le _, setRow_heap w g cur _ te _ q3, by simpa using q4, q5, ?_, ?_⟩⟩, ?_, ?_⟩
            · simp only [List.size_toArray]
              rw [splice_len (by omega)]
              simpa using q6
            · apply List.ext_getElem?
              intro j
              rw [List.getElem?_take]
              simp only [List.length_set]
              rw [splice_get (l := cs) (by omega)]
              by_cases hj : j < xs.length * e.cells
              · rw [if_pos hj, splice_get (by omega)]
                split
                · rfl
                · rw [← q7, List.getElem?_take, if_pos hj]
              · rw [if_neg hj, if_neg (by omega)]
                exact (List.getElem?_eq_none (by omega)).symm
            · intro x hx'
              obtain ⟨j, hj, rfl⟩ := List.mem_iff_getElem.1 hx'
              have := List.getElem?_eq_getElem hj
              rw [splice_get (by omega)] at this
              split at this
              · exact repC_one hus _ (List.mem_of_getElem? this)
              · exact h6 _ (List.mem_of_getElem? this)
            · intro p x hp
              rw [List.getElem?_set] at hp
              split at hp
              · rename_i hpi
                subst hpi
                first | rw [if_pos h3] at hp | skip
                injection hp with hp
                subst hp
                refine ⟨splice es off (a.eval y).cells.toList, rep_step hM.stays (rep_packAll hz (repC_splice (rep_unpack h8) hus (by omega))), fun j u hu => ?_⟩
                rw [splice_get (by omega)] at hu
                rw [splice_get (by omega)]
                split at hu
                · rename_i hj
                  rw [if_pos (by omega)]
                  rw [show ix * e.cells + j - (ix * e.cells + off) = j - off by omega]
                  exact hu
                · rename_i hj
                  rw [if_neg (by omega)]
                  exact h9 j u hu
              · rename_i hpi
                obtain ⟨fs, q8, q9⟩ := h7 p x hp
                refine ⟨fs, rep_step hM.stays q8, fun j u hu => ?_⟩
                have hjl : j < e.cells := by
                  have := rep_len q8
                  have := (List.getElem?_eq_some_iff.1 hu).1
                  omega
                rw [splice_get (by omega)]
                rw [if_neg ?_]
                · exact q9 j u hu
                · rintro ⟨q10, q11⟩
                  rcases Nat.lt_or_gt_of_ne hpi with hlt | hlt
                  · have := Nat.mul_le_mul_right e.cells (show ix + 1 ≤ p from hlt)
                    omega
                  · have := Nat.mul_le_mul_right e.cells (show p + 1 ≤ ix from hlt)
                    rw [Nat.add_mul, Nat.one_mul] at this
                    omega
        · exact hk.elim
      · exact hk.elim
    · exact hk.elim
  · exact hk.elim
end
end Go.Proofs.YtieeiiibamkbmaaGreat.Am
