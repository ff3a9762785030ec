/- The abstract machine's make and literals. Conditions: none; these are lemmas. -/
import Derived.Test.YtieeiiibamkbmaaGreatAmL
namespace Go.Proofs.YtieeiiibamkbmaaGreat.Am
open Go Go.RowKit
set_option linter.unusedVariables false
set_option linter.unusedSimpArgs false

section
variable {P : Program} {nt : Nat} {Γ : List Fe} {C : Seat} {Q : Exit → Act → World → Prop} {o : Oper} {S : St} {r : Nat → RV} {h : Hp} {io : Nat → Value} {a : Act} {w : World}
theorem zeros_get {z : Array Value} {m k i j : Nat} (hz : z.size = m) (hi : i < k) (hj : j < m) : (((Array.range (k * m)).map (z[· % z.size]!)).toList)[i * m + j]? = z[j]? := by
  have h1 : i * m + j < k * m := by
    have := Nat.mul_le_mul_right m (show i + 1 ≤ k from hi)
    rw [Nat.add_mul, Nat.one_mul] at this
    omega
  have h2 : (i * m + j) % m = j := by rw [Nat.add_comm, Nat.add_mul_mod_self_right]; exact Nat.mod_eq_of_lt hj
  simp only [Array.toList_map, List.getElem?_map, Array.getElem?_toList, Array.getElem?_range, h1, if_true, Option.map_some, hz, h2]
  rw [Array.getElem?_eq_getElem (by omega)]
  congr 1
  simp [getElem!_pos, hz, hj]
theorem zeros_rep {N : Nat → Prop} {e : Ty} {z : Value} {k : Nat} (hz : isZs (unpackZ e) z.cells.toList = true) : repE w N e (List.replicate k e.zero) ((Array.range (k * e.cells)).map (z.cells[· % z.cells.size]!)).toList ∧
    ∀ u ∈ ((Array.range (k * e.cells)).map (z.cells[· % z.cells.size]!)).toList, u.oneCell' = true := by
  have hc := isZs_ok (w := w) (N := N) hz
  have hl : z.cells.size = e.cells := by
    have := repC_len hc
    rw [unpackZ_len] at this
    simpa using this.symm
  have hr := repC_zero e hc
  have hone := repC_one hc
  refine ⟨fun i x hx => ?_, fun u hu => ?_⟩
  · rw [List.getElem?_replicate] at hx
    split at hx
    · rename_i hi
      injection hx with hx
      subst hx
      refine ⟨_, hr, fun j u hu => ?_⟩
      have hj := (List.getElem?_eq_some_iff.1 hu).1
      rw [zeros_get hl hi (by simpa [hl] using hj)]
      simpa using hu
    · cases hx
  · obtain ⟨q, hq, rfl⟩ := List.mem_iff_getElem.1 hu
    have hq' : q < k * e.cells := by simpa using hq
    have hpos : 0 < e.cells := by
      rcases Nat.eq_zero_or_pos e.cells with h0 | h0
      · rw [h0] at hq'; simp at hq'
      · exact h0
    have h1 : q / e.cells < k := (Nat.div_lt_iff_lt_mul hpos).2 hq'
    have h2 := zeros_get (z := z.cells) (m := e.cells) (k := k) (i := q / e.cells) (j := q % e.cells) hl h1 (Nat.mod_lt _ hpos)
    rw [Nat.div_add_mod'] at h2
    rw [List.getElem?_eq_getElem hq] at h2
    exact hone _ (List.mem_of_getElem? (by rw [Array.getElem?_toList]; exact h2.symm))
theorem ok_makeSlice {t : TypeId} {l c : Tmp} {K : Eff → Prop} (ho : o.op = .makeSlice t (.tmp l) (.tmp c)) (hd : dstOk nt o = true) (hk : opK P Γ o S K) : ∃ e, K e ∧ OpOk P nt o S e := by
  simp only [opK, ho] at hk
  split at hk
  · rename_i te n ht hn
    split at hk
    · rename_i e he
      split at hk
      · rename_i hcond
        obtain ⟨rfl, hz, hany⟩ := hcond
        obtain ⟨⟨h0, h1⟩, hk⟩ := hk
        obtain ⟨i, z, g1, g2, g3, g4⟩ := zeroOk_some hz
        refine newRow_ok hd hk (fun {C} r h hr hh hmore io a w R => ⟨?_⟩)
        have hbytes : i.bytes ≤ 65536 := by simpa [g1] using hany
        obtain ⟨k, hky⟩ : ∃ k, a.eval (.tmp l) = .int k n := int_ev (t := 3) (P := P) (S := S) (x := .tmp l) hn (fun t ht => hr t (mem_opTmps (by simp [ho, Op.operands, ht]))) R
        have hnn : ((n.toNat : Nat) : Int) = n := Int.toNat_of_nonneg h0
        have hn30 : n.toNat ≤ 1073741824 := by simp only [most] at h1; omega
        obtain ⟨w1, g5, g6, g7⟩ := run_make_full (P := P) w 0 t te i z e.cells ht g1 g2 g4 k k n.toNat (by have := Nat.mul_le_mul hbytes hn30; omega) (by simp only [maxLen]; omega) (Nat.zero_le _)
        rw [hnn] at g5
        have g8 := zeros_rep (w := w) (N := NN C.Nx io h) (k := n.toNat) g3
        refine ⟨h, none, w1, .slice (some ⟨w.heap.size, 0, none⟩) n.toNat n.toNat, _, R, (by rw [kill_none]; rfl), fun _ h => h, (fun k e => by cases e), ?_, (keep_grown g7).mono (fun g _ hg => by cases hg), (fun g hg => ?_), (by rw [List.length_replicate]; exact g6), g8.2, g8.1⟩
        · simp only [execOp, ho, hky, Sem.run_bind, g5, Result.andThen_ok, Sem.run_pure]
        · simp only [blkOf, Option.some.injEq] at hg
          exact .inl (by omega)
      · exact hk.elim
    · exact hk.elim
  · exact hk.elim
/-- What a run of stores leaves. -/
theorem foldl_splice : ∀ (m : List Value) (off k : Nat) (cs : Array Value), off + k + m.length ≤ cs.size → (m.zipIdx k).foldl (fun cs (c, j) => cs.setIfInBounds (off + j) c) cs = (splice cs.toList (off + k) m).toArray
  | [], off, k, cs, _ => by simp [splice]
  | v :: m, off, k, cs, hl => by
    simp only [List.length_cons] at hl
    simp only [List.zipIdx_cons, List.foldl_cons]
    rw [foldl_splice m off (k + 1) _ (by simp; omega)]
    apply Array.ext'
    simp only
    apply List.ext_getElem?
    intro j
    rw [splice_get (by simp; omega), splice_get (by simp; omega)]
    simp only [Array.toList_setIfInBounds, List.getElem?_set, List.length_cons]
    by_cases h1 : j = off + k
    · subst h1
      have e1 : ¬ (off + (k + 1) ≤ off + k ∧ off + k < off + (k + 1) + m.length) := by omega
      have e2 : off + k ≤ off + k ∧ off + k < off + k + (m.length + 1) := by omega
      rw [if_neg e1, if_pos e2]
      have : off + k < cs.size := by omega
      simp [this]
    · by_cases h2 : off + (k + 1) ≤ j ∧ j < off + (k + 1) + m.length
      · have e2 : off + k ≤ j ∧ j < off + k + (m.length + 1) := by omega
        rw [if_pos h2, if_pos e2, show j - (off + k) = (j - (off + (k + 1))) + 1 by omega, List.getElem?_cons_succ]
      · have e2 : ¬ (off + k ≤ j ∧ j < off + k + (m.length + 1)) := by omega
        rw [if_neg h2, if_neg e2, if_neg (Ne.symm h1)]
theorem fill_one (u : Value) (off : Nat) (cs : List Value) (hl : off + u.cells.size ≤ cs.length) : u.cells.zipIdx.foldl (fun cs (c, j) => cs.setIfInBounds (off + j) c) cs.toArray = (splice cs off u.cells.toList).toArray := by
  have h := foldl_splice u.cells.toList off 0 cs.toArray (by simpa using hl)
  rw [← Array.foldl_toList]
  have e : u.cells.zipIdx.toList = u.cells.toList.zipIdx := by simp [Array.toList_zipIdx]
  rw [e]
  simpa using h
theorem fillC_ok {N : Nat → Prop} {t : TypeId} {pl : Nat → Option (Nat × Nat)} (hpl : ∀ i p, place P t i = some p → pl i = some p) :
    ∀ (parts : List (Nat × Operand)) (ps qs : List Pv) (cs : List Value), fillC P S t ps parts = some qs → repC w N ps cs →
      (∀ q ∈ parts, ∀ v, pure1 S (ev P S (partType P t q.1) q.2) = some v → repV1 w N v (a.eval q.2)) →
      ∃ ds : List Value, Instr.fill pl cs.toArray (parts.map (fun q => (q.1, a.eval q.2))) = some ds.toArray ∧ repC w N qs ds
  | [], ps, qs, cs, hf, hr, _ => by
    simp only [fillC, Option.some.injEq] at hf
    subst hf
    exact ⟨cs, rfl, hr⟩
  | (i, x) :: parts, ps, qs, cs, hf, hr, hv => by
    simp only [fillC] at hf
    split at hf
    · rename_i off n v h1 h2
      split at hf
      · rename_i hc
        have h3 := hv (i, x) (by simp) v h2
        have h4 := repV1_cells h3
        have h5 := repC_len h4
        have h6 := repC_len hr
        have h7 : (a.eval x).cells.size = n := by simpa [hc.1] using h5.symm
        obtain ⟨ds, h8, h9⟩ := fillC_ok hpl parts _ qs _ hf (repC_splice hr h4 (by omega)) (fun q hq => hv q (by simp [hq]))
        refine ⟨ds, ?_, h9⟩
        have hsz : off + (a.eval x).cells.size ≤ cs.length := by omega
        simp only [List.map_cons, Instr.fill, hpl i _ h1, h7, List.size_toArray]
        rw [if_neg (by simp; omega)]
        have := fill_one (a.eval x) off cs hsz
        rw [this]
        exact h8
      · cases hf
    · cases hf
theorem tys1_some : ∀ {l : List (Option Ty)} {b : Ty}, tyOf.tys1 l = some b → ∀ x ∈ l, ∃ y, x = some y
  | [], b, h => by simp [tyOf.tys1] at h
  | [x], b, h => by
    simp only [tyOf.tys1] at h
    intro y hy
    simp only [List.mem_singleton] at hy
    exact ⟨b, hy.trans h⟩
  | some a :: y :: l, b, h => by
    simp only [tyOf.tys1] at h
    split at h
    · rename_i c hc
      intro x hx
      rcases List.mem_cons.1 hx with rfl | hx
      · exact ⟨a, rfl⟩
      · exact tys1_some hc x hx
    · cases h
  | none :: y :: l, b, h => by simp [tyOf.tys1] at h
theorem tys_some {l : List (Option Ty)} {b : Ty} (h : tyOf.tys l = some b) : ∀ x ∈ l, ∃ y, x = some y := by
  match l, h with
  | [some a], _ => intro x hx; simp only [List.mem_singleton] at hx; exact ⟨a, hx⟩
  | some a :: y :: m, h =>
    simp only [tyOf.tys] at h
    split at h
    · rename_i c hc
      intro x hx
      rcases List.mem_cons.1 hx with rfl | hx
      · exact ⟨a, rfl⟩
      · exact tys1_some hc x hx
    · cases h
  | none :: m, h => cases m <;> simp [tyOf.tys] at h
  | [], h => simp [tyOf.tys] at h
theorem tyOf_info {n : Nat} {t : TypeId} {e : Ty} (h : tyOf P n t = some e) : ∃ i, P.info? t = some i := by
  cases n with
  | zero => simp [tyOf] at h
  | succ n =>
    unfold tyOf at h
    cases hu : P.underlying t with
    | none => simp [hu] at h
    | some d => exact info_of hu
theorem ok_build {t : TypeId} {parts : Array (Nat × Operand)} {K : Eff → Prop} (ho : o.op = .build t parts) (hd : dstOk nt o = true) (hk : opK P Γ o S K) : ∃ e, K e ∧ OpOk P nt o S e := by
  simp only [opK, ho] at hk
  split at hk
  · rename_i e he
    split at hk
    · rename_i hcond
      obtain ⟨hz, hagg⟩ := hcond
      split at hk
      · rename_i cs hcs
        obtain ⟨i, z, g1, g2, g3, g4⟩ := zeroOk_some hz
        refine ⟨_, hk, OpOk.sealed hd (fun k hk => ?_) (fun {C} r h hr hh io a w R => ?_)⟩
        · obtain ⟨q, hq, hqe⟩ := List.mem_map.1 hk
          exact List.mem_flatMap.2 ⟨q, hq, by rw [hqe]; simp [heapOf]⟩
        · have hl : ∀ k, RV.row k ∈ parts.toList.map (fun q => ev P S (partType P t q.1) q.2) → h k = S.hp k := fun k hk => by
            obtain ⟨q, hq, hqe⟩ := List.mem_map.1 hk
            exact hh k (List.mem_flatMap.2 ⟨q, hq, by rw [hqe]; simp [heapOf]⟩)
          have hv : ∀ q ∈ parts.toList, ∀ v, pure1 S (ev P S (partType P t q.1) q.2) = some v → repV1 w (NN C.Nx io (h.app (seals S (parts.toList.map (fun q => ev P S (partType P t q.1) q.2))))) v (a.eval q.2) := by
            intro q hq v hv
            refine pure1_ok hl R (List.mem_map.2 ⟨q, hq, rfl⟩) hv (ev_ok R (fun t' ht => hr t' (mem_opTmps ?_)))
            simp only [ho, Op.operands, List.toList_toArray]
            exact List.mem_map.2 ⟨q, hq, ht⟩
          have hparts : (parts.map (fun (i, x) => (i, a.eval x))).toList = parts.toList.map (fun q => (q.1, a.eval q.2)) := by simp [Array.toList_map]
          have hz' := isZs_ok (w := w) (N := NN C.Nx io (h.app (seals S (parts.toList.map (fun q => ev P S (partType P t q.1) q.2))))) g3
          have hb : ∃ ds : List Value, P.built t (parts.map (fun (i, x) => (i, a.eval x))).toList = some ds.toArray ∧ repC w (NN C.Nx io (h.app (seals S (parts.toList.map (fun q => ev P S (partType P t q.1) q.2))))) cs ds := by
            rw [hparts]
            unfold ty tyOf at he
            split at he <;> try (simp at he; subst he; simp [Ty.isAgg] at hagg; done)
            · split at he
              · injection he with he; subst he; simp [Ty.isAgg] at hagg
              · cases he
            · rename_i fs hu
              have hf : ∀ f ∈ fs.toList, ∃ i, P.info? f.type = some i := fun f hf => by
                obtain ⟨y, hy⟩ := tys_some he (tyOf P 7 f.type) (List.mem_map.2 ⟨f, hf, rfl⟩)
                exact tyOf_info hy
              have hpl : ∀ (l : List Field), (∀ f ∈ l, ∃ i, P.info? f.type = some i) → l.mapM (fun f => (P.info? f.type).map fun i => (f.offset, i.size)) = some (l.map (fun f => (f.offset, sz P f.type))) := by
                intro l
                induction l with
                | nil => intro _; rfl
                | cons f l ih =>
                  intro hl
                  obtain ⟨i, hi⟩ := hl f (by simp)
                  simp [List.mapM_cons, hi, ih (fun g hg => hl g (by simp [hg])), sz]
              obtain ⟨ds, q1, q2⟩ := fillC_ok (w := w) (a := a) (pl := ((fs.toList.map (fun f => (f.offset, sz P f.type))).toArray[·]?)) (fun i p hp => by
                simp only [place, hu] at hp
                split at hp
                · rename_i f hf'
                  injection hp with hp
                  subst hp
                  simp [hf']
                · cases hp) parts.toList _ cs z.cells.toList hcs hz' hv
              refine ⟨ds, ?_, q2⟩
              simp only [Program.built, g1, hu, g2, hpl fs.toList hf]
              simpa using q1
            · rename_i m te hu
              have hte : ∃ ie, P.info? te = some ie := by
                cases m with
                | zero => simp [tyOf.tys] at he
                | succ m =>
                  obtain ⟨y, hy⟩ := tys_some he (tyOf P 7 te) (by simp [List.replicate_succ])
                  exact tyOf_info hy
              obtain ⟨ie, hie⟩ := hte
              obtain ⟨ds, q1, q2⟩ := fillC_ok (w := w) (a := a) (pl := fun i => some (i * ie.size, ie.size)) (fun i p hp => by
                simp only [place, hu, sz, hie] at hp
                exact hp) parts.toList _ cs z.cells.toList hcs hz' hv
              refine ⟨ds, ?_, q2⟩
              simp only [Program.built, g1, hu, g2, hie]
              simpa using q1
            · cases he
          obtain ⟨ds, q1, q2⟩ := hb
          refine ⟨.agg ds.toArray, ?_, ds, rfl, q2⟩
          have := run_build (P := P) w t _ _ q1
          simp only [execOp, ho, Sem.run_bind, this, Result.andThen_ok, Sem.run_pure]
      · exact hk.elim
    · exact hk.elim
  · exact hk.elim
theorem fillE_len {te : TypeId} {e : Ty} : ∀ {parts : List (Nat × Operand)} {xs ys : List e.den}, fillE P S te e xs parts = some ys → ys.length = xs.length
  | [], xs, ys, hf => by simp only [fillE, Option.some.injEq] at hf; rw [hf]
  | (i, x) :: parts, xs, ys, hf => by
    simp only [fillE] at hf
    split at hf
    · split at hf
      · split at hf
        · rw [fillE_len hf]; simp
        · cases hf
      · cases hf
    · cases hf
/-- One element of a row is written. -/
theorem repE_set {N : Nat → Prop} {e : Ty} {xs : List e.den} {cs us : List Value} {p : Nat} {x : e.den} (h1 : repE w N e xs cs) (hp : p < xs.length) (hl : cs.length = xs.length * e.cells) (hx : rep w N e x us) : repE w N e (xs.set p x) (splice cs (p * e.cells) us) := by
  have hu := rep_len hx
  have hb : (p + 1) * e.cells ≤ xs.length * e.cells := Nat.mul_le_mul_right _ hp
  rw [Nat.add_mul, Nat.one_mul] at hb
  intro i y hy
  rw [List.getElem?_set] at hy
  split at hy
  · rename_i hpi
    subst hpi
    first | rw [if_pos hp] at hy | skip
    injection hy with hy
    subst hy
    refine ⟨us, hx, fun j v hv => ?_⟩
    have := (List.getElem?_eq_some_iff.1 hv).1
    rw [splice_get (by omega), if_pos (by omega), show p * e.cells + j - p * e.cells = j by omega]
    exact hv
  · rename_i hpi
    obtain ⟨es, g1, g2⟩ := h1 i y hy
    refine ⟨es, g1, fun j v hv => ?_⟩
    have hj : j < e.cells := by
      have := rep_len g1
      have := (List.getElem?_eq_some_iff.1 hv).1
      omega
    rw [splice_get (by omega), if_neg ?_]
    · exact g2 j v hv
    · rintro ⟨q1, q2⟩
      rcases Nat.lt_or_gt_of_ne hpi with hlt | hlt
      · have := Nat.mul_le_mul_right e.cells (show p + 1 ≤ i from hlt)
        rw [Nat.add_mul, Nat.one_mul] at this
        omega
      · have := Nat.mul_le_mul_right e.cells (show i + 1 ≤ p from hlt)
        rw [Nat.add_mul, Nat.one_mul] at this
        omega
theorem fillE_ok {N : Nat → Prop} {te : TypeId} {e : Ty} : ∀ (parts : List (Nat × Operand)) (xs ys : List e.den) (cs : List Value), fillE P S te e xs parts = some ys → repE w N e xs cs → cs.length = xs.length * e.cells → (∀ u ∈ cs, u.oneCell' = true) →
    (∀ q ∈ parts, ∀ v, pure1 S (ev P S te q.2) = some v → repV1 w N v (a.eval q.2)) →
    ∃ ds : List Value, Instr.fill (fun i => some (i * e.cells, e.cells)) cs.toArray (parts.map (fun q => (q.1, a.eval q.2))) = some ds.toArray ∧ repE w N e ys ds ∧ ds.length = cs.length ∧ ∀ u ∈ ds, u.oneCell' = true
  | [], xs, ys, cs, hf, hr, hl, ho, _ => by
    simp only [fillE, Option.some.injEq] at hf
    subst hf
    exact ⟨cs, rfl, hr, rfl, ho⟩
  | (i, x) :: parts, xs, ys, cs, hf, hr, hl, ho, hv => by
    simp only [fillE] at hf
    split at hf
    · rename_i v h2
      split at hf
      · rename_i y hy
        split at hf
        · rename_i hi
          have h3 : repV1 w N v (a.eval x) := hv (i, x) (by simp) v h2
          have h4 := repV1_cells h3
          have h5 := rep_packAll hy h4
          have h6 := rep_len h5
          have hb : (i + 1) * e.cells ≤ xs.length * e.cells := Nat.mul_le_mul_right _ hi
          rw [Nat.add_mul, Nat.one_mul] at hb
          have h7 : (a.eval x).cells.size = e.cells := by simpa using h6
          have hone : ∀ u ∈ splice cs (i * e.cells) (a.eval x).cells.toList, u.oneCell' = true := by
            intro u hu
            obtain ⟨j, hj, rfl⟩ := List.mem_iff_getElem.1 hu
            have := List.getElem?_eq_getElem hj
            rw [splice_get (by omega)] at this
            split at this
            · exact rep_one h5 _ (List.mem_of_getElem? this)
            · exact ho _ (List.mem_of_getElem? this)
          obtain ⟨ds, h8, h9, h10, h11⟩ := fillE_ok parts _ ys _ hf (repE_set hr hi hl h5) (by rw [splice_len (by omega)]; simpa using hl) hone (fun q hq => hv q (by simp [hq]))
          refine ⟨ds, ?_, h9, by rw [h10, splice_len (by omega)], h11⟩
          simp only [List.map_cons, Instr.fill, h7, List.size_toArray]
          rw [if_neg (by simp; omega), fill_one (a.eval x) _ cs (by omega)]
          exact h8
        · cases hf
      · cases hf
    · cases hf
theorem ok_buildSlice {t : TypeId} {len : Nat} {parts : Array (Nat × Operand)} {K : Eff → Prop} (ho : o.op = .buildSlice t len parts) (hd : dstOk nt o = true) (hk : opK P Γ o S K) : ∃ e, K e ∧ OpOk P nt o S e := by
  simp only [opK, ho] at hk
  split at hk
  · rename_i te ht
    split at hk
    · rename_i e he
      split at hk
      · rename_i hcond
        obtain ⟨hz, hsmall, hlen⟩ := hcond
        split at hk
        · rename_i xs hxs
          obtain ⟨i, z, g1, g2, g3, g4⟩ := zeroOk_some hz
          refine newRow_ok hd hk (fun {C} r h hr hh hmore io a w R => ⟨?_⟩)
          have hl : ∀ k, RV.row k ∈ parts.toList.map (fun q => ev P S te q.2) → h k = S.hp k := fun k hk => by
            obtain ⟨q, hq, hqe⟩ := List.mem_map.1 hk
            exact hh k (List.mem_flatMap.2 ⟨q, hq, by rw [hqe]; simp [heapOf]⟩)
          have hs : SealTo h (h.app (seals S (parts.toList.map (fun q => ev P S te q.2)))) := SealTo.seals hl
          have R1 := R.sealTo hs
          have hv : ∀ q ∈ parts.toList, ∀ v, pure1 S (ev P S te q.2) = some v → repV1 w (NN C.Nx io (h.app (seals S (parts.toList.map (fun q => ev P S te q.2))))) v (a.eval q.2) := by
            intro q hq v hv
            refine pure1_ok hl R (List.mem_map.2 ⟨q, hq, rfl⟩) hv (ev_ok R (fun t' ht => hr t' (mem_opTmps ?_)))
            simp only [ho, Op.operands, List.toList_toArray]
            exact List.mem_map.2 ⟨q, hq, ht⟩
          have hzr := zeros_rep (w := w) (N := NN C.Nx io (h.app (seals S (parts.toList.map (fun q => ev P S te q.2))))) (k := len) g3
          obtain ⟨ds, q1, q2, q3, q4⟩ := fillE_ok (w := w) (a := a) parts.toList _ xs _ hxs hzr.1 (by simp) hzr.2 hv
          have hxl : xs.length = len := by rw [fillE_len hxs]; simp
          have hds : ds.length = len * e.cells := by rw [q3]; simp
          have hparts : (parts.map (fun (i, x) => (i, a.eval x))).toList = parts.toList.map (fun q => (q.1, a.eval q.2)) := by simp [Array.toList_map]
          have key : ∀ pp : Array (Nat × Value), Instr.fill (fun j => some (j * i.size, i.size)) ((Array.range (len * i.size)).map (z.cells[· % z.cells.size]!)) pp.toList = some ds.toArray →
              (Instr.buildSlice t len pp).run P w = .ok (.slice (some ⟨w.heap.size, 0, none⟩) len len) (w.alloc (.cells ds.toArray te)) := by
            intro pp hfill
            by_cases h0 : len * i.size = 0
            · rw [h0, show Array.range 0 = #[] from rfl, Array.map_empty] at hfill
              simp [Instr.buildSlice, run_underlying ht, sizeOf, typeInfo, g1, h0, hfill, Go.newRow, show Array.range 0 = #[] from rfl]
            · exact run_buildSlice w t te len _ _ i z ht g1 g2 (by rw [g4]; omega) h0 hfill
          have hrun : (Instr.buildSlice t len (parts.map (fun (i, x) => (i, a.eval x)))).run P w = .ok (.slice (some ⟨w.heap.size, 0, none⟩) len len) (w.alloc (.cells ds.toArray te)) := by
            have hfill : Instr.fill (fun j => some (j * i.size, i.size)) ((Array.range (len * i.size)).map (z.cells[· % z.cells.size]!)) (parts.map (fun (i, x) => (i, a.eval x))).toList = some ds.toArray := by
              rw [hparts, g4, ← q1, Array.toArray_toList]
            exact key _ hfill
          refine ⟨_, none, w.alloc (.cells ds.toArray te), .slice (some ⟨w.heap.size, 0, none⟩) len len, ds, R1, (by rw [kill_none]), ?_, (fun k e => by cases e), ?_, keep_alloc _ _ _, (fun g hg => ?_), ?_, q4, q2⟩
          · intro k hk
            rcases hs k with q | ⟨te', e', ys, q5, _⟩
            · rw [q]; exact hk
            · rw [hk] at q5; cases q5
          · simp only [execOp, ho, Sem.run_bind, hrun, Result.andThen_ok, Sem.run_pure]
          · simp only [blkOf, Option.some.injEq] at hg
            exact .inl (by omega)
          · rw [hxl]
            have := World.ownsRow_lit (base := 0) (e := te) (size := e.cells) w ds.toArray len (Nat.zero_le _) (by simp only [maxLen]; omega) (by simpa using hds)
            simpa using this
        · exact hk.elim
      · exact hk.elim
    · exact hk.elim
  · exact hk.elim
end
end Go.Proofs.YtieeiiibamkbmaaGreat.Am
