/- A statement's arguments, read as data, are values of the abstract machine's types; a function that is known gives the statement's ending. Conditions: none; these are lemmas. -/
import Derived.Test.YtieeiiibamkbmaaGreatAmWG
import Derived.OpenShut
import Derived.Carry
import Derived.DataReads
namespace Go.Proofs.YtieeiiibamkbmaaGreat.Am
open Go Go.RowKit Go.ChangeShapes
set_option linter.unusedVariables false
set_option linter.unusedSimpArgs false

/-- A value that the program's types allow. -/
def Wf : (c : Ty) → c.den → Prop
  | .int k, n => (Lit.int k n).wf = true
  | .bool, _ => True
  | .str, s => ByteArray.size s ≤ maxLen
  | .slice e, xs => List.length xs ≤ maxLen ∧ ∀ (i : Nat) (y : e.den), xs[i]? = some y → Wf e y
  | .pair a b, x => Wf a x.1 ∧ Wf b x.2
  | .one a, x => Wf a x
  | .unit, _ => True
section
variable (P : Program)
/-- The fields of a struct stand one after the other, each of its code. -/
def okFs (E : TypeId → Ty → Bool) : Nat → List Field → Ty → Bool
  | off, [f], c => Nat.beq f.offset off && E f.type c
  | off, f :: fs, .pair a b => Nat.beq f.offset off && E f.type a && okFs E (off + a.cells) fs b
  | _, _, _ => false
/-- So do the elements of an array. -/
def okAr (E : Ty → Bool) : Nat → Ty → Bool
  | 1, c => E c
  | m + 2, .pair a b => E a && okAr E (m + 1) b
  | _, _ => false
/-- The code of a type of the program's is right. -/
def okTy : Nat → TypeId → Ty → Bool
  | 0, _, _ => false
  | n + 1, t, c => Nat.beq (P.cellsOf t) c.cells && Nat.blt 0 c.cells && (match P.underlying t, c with
    | some .bool, .bool => true
    | some (.int k), .int k' => decide (k = k')
    | some .string, .str => true
    | some (.slice e), .slice c' => okTy n e c'
    | some (.struct fs), .one a => (match fs.toList with
      | [f] => Nat.beq f.offset 0 && okTy n f.type a
      | _ => false)
    | some (.struct fs), .pair a b => okFs (okTy n) 0 fs.toList (.pair a b)
    | some (.array m e), .pair a b => okAr (okTy n e) m (.pair a b)
    | _, _ => false)
end
section
variable {P : Program} {H : Type} {enc : TypeId × Value → H} {w : World}
abbrev Free : Nat → Prop := fun _ => False
def Reads (P : Program) (n : Nat) : Prop := ∀ (t : TypeId) (c : Ty), okTy P n t c = true → ∀ {H : Type} {enc : TypeId × Value → H} {w : World} {fuel : Nat} {cs : List Value} {x : DataW H × List MemPlace},
  DataW.trod enc P w 0 (fun _ => true) true fuel t cs = some x → ∃ y : c.den, rep w Free c y cs ∧ Wf c y
theorem okTy_cells {n : Nat} {t : TypeId} {c : Ty} (h : okTy P n t c = true) : P.cellsOf t = c.cells ∧ 0 < c.cells := by
  cases n with
  | zero => simp [okTy] at h
  | succ n =>
    simp only [okTy, Bool.and_eq_true] at h
    exact ⟨Nat.eq_of_beq_eq_true h.1.1, by simpa using h.1.2⟩
theorem fields_rep {n : Nat} (hn : Reads P n) {fuel : Nat} {cs : List Value} : ∀ (fs : List Field) (off : Nat) (c : Ty), okFs (okTy P n) off fs c = true → off + c.cells ≤ cs.length →
    (∀ f ∈ fs, ∃ x, DataW.trod enc P w 0 (fun _ => true) true fuel f.type ((cs.drop f.offset).take (P.cellsOf f.type)) = some x) → ∃ y : c.den, rep w Free c y ((cs.drop off).take c.cells) ∧ Wf c y
  | [], off, c, h, _, _ => by simp [okFs] at h
  | [f], off, c, h, hl, hx => by
    have h' : (Nat.beq f.offset off && okTy P n f.type c) = true := by
      cases c <;> simpa [okFs] using h
    simp only [Bool.and_eq_true] at h'
    have ho := Nat.eq_of_beq_eq_true h'.1
    obtain ⟨x, hx⟩ := hx f (by simp)
    rw [(okTy_cells h'.2).1, ho] at hx
    exact hn f.type c h'.2 hx
  | f :: f2 :: fs, off, c, h, hl, hx => by
    cases c with
    | pair a b =>
      simp only [okFs, Bool.and_eq_true] at h
      have ho := Nat.eq_of_beq_eq_true h.1.1
      obtain ⟨x, hx1⟩ := hx f (by simp)
      rw [(okTy_cells h.1.2).1, ho] at hx1
      obtain ⟨y, h1, h2⟩ := hn f.type a h.1.2 hx1
      simp only [Ty.cells] at hl
      obtain ⟨z, h3, h4⟩ := fields_rep hn (f2 :: fs) (off + a.cells) b h.2 (by omega) (fun g hg => hx g (List.mem_cons_of_mem _ hg))
      refine ⟨(y, z), ⟨_, _, ?_, h1, h3⟩, h2, h4⟩
      show (cs.drop off).take (a.cells + b.cells) = _
      rw [List.take_add, List.drop_drop]
    | _ => simp [okFs] at h
theorem array_rep {n : Nat} (hn : Reads P n) {fuel : Nat} {cs : List Value} {e : TypeId} : ∀ (m : Nat) (off : Nat) (c : Ty), okAr (okTy P n e) m c = true →
    (∀ i, i < m → ∃ x, DataW.trod enc P w 0 (fun _ => true) true fuel e ((cs.drop (off + i * P.cellsOf e)).take (P.cellsOf e)) = some x) → ∃ y : c.den, rep w Free c y ((cs.drop off).take c.cells) ∧ Wf c y
  | 0, off, c, h, _ => by simp [okAr] at h
  | 1, off, c, h, hx => by
    have h' : okTy P n e c = true := by
      cases c <;> simpa [okAr] using h
    obtain ⟨x, hx⟩ := hx 0 (by omega)
    rw [(okTy_cells h').1, Nat.zero_mul, Nat.add_zero] at hx
    exact hn e c h' hx
  | m + 2, off, c, h, hx => by
    cases c with
    | pair a b =>
      simp only [okAr, Bool.and_eq_true] at h
      obtain ⟨x, hx1⟩ := hx 0 (by omega)
      have hce := (okTy_cells h.1).1
      rw [hce, Nat.zero_mul, Nat.add_zero] at hx1
      obtain ⟨y, h1, h2⟩ := hn e a h.1 hx1
      obtain ⟨z, h3, h4⟩ := array_rep hn (m + 1) (off + a.cells) b h.2 (fun i hi => by
        obtain ⟨x, hx⟩ := hx (i + 1) (by omega)
        refine ⟨x, ?_⟩
        rw [← hce, show off + P.cellsOf e + i * P.cellsOf e = off + (i + 1) * P.cellsOf e by rw [Nat.add_mul]; omega]
        exact hx)
      refine ⟨(y, z), ⟨_, _, ?_, h1, h3⟩, h2, h4⟩
      show (cs.drop off).take (a.cells + b.cells) = _
      rw [List.take_add, List.drop_drop]
    | _ => simp [okAr] at h
theorem gather {α : Type} {Q : Nat → α → Prop} : ∀ n, (∀ i, i < n → ∃ y, Q i y) → ∃ ys : List α, ys.length = n ∧ ∀ (i : Nat) (y : α), ys[i]? = some y → Q i y
  | 0, _ => ⟨[], rfl, fun i y h => by simp at h⟩
  | n + 1, h => by
    obtain ⟨ys, hl, hy⟩ := gather n (fun i hi => h i (by omega))
    obtain ⟨y, hq⟩ := h n (by omega)
    refine ⟨ys ++ [y], by simp [hl], fun i z hz => ?_⟩
    rcases Nat.lt_or_ge i ys.length with hi | hi
    · rw [List.getElem?_append_left hi] at hz
      exact hy i z hz
    · have hin : i = ys.length := by
        have := (List.getElem?_eq_some_iff.1 hz).1
        simp at this
        omega
      subst hin
      have : y = z := by simpa using hz
      subst this
      rw [hl]; exact hq
/-- What reads as data of a type is a value of its code. -/
theorem trod_rep : ∀ n, Reads P n := by
  intro n
  induction n with
  | zero => intro t c h; simp [okTy] at h
  | succ n ih =>
    intro t c h H enc w fuel cs x hx
    obtain ⟨hcells, hpos⟩ := okTy_cells h
    simp only [okTy, Bool.and_eq_true] at h
    replace h := h.2
    split at h
    · rename_i hu
      obtain ⟨b, rfl, _⟩ := DataW.trod_bool hu hx
      exact ⟨b, rfl, trivial⟩
    · rename_i k k' hu
      have hk : k = k' := by simpa using h
      subst hk
      obtain ⟨m, rfl, _, hw⟩ := DataW.trod_int hu hx
      exact ⟨m, rfl, hw⟩
    · rename_i hu
      obtain ⟨s, rfl, _, hs⟩ := DataW.trod_string hu hx
      exact ⟨s, rfl, hs⟩
    · rename_i e c' hu
      rcases DataW.trod_slice hu hx with ⟨rfl, _⟩ | ⟨a, len, cap, elems, rest, m, _, rfl, _, hb, hl, hm, hel, hat, _, _⟩
      · exact ⟨[], ⟨_, rfl, .inl ⟨rfl, rfl⟩⟩, by simp, fun i y hi => by simp at hi⟩
      · obtain ⟨hce, hcp⟩ := okTy_cells h
        have hg : ∀ i, i < len → ∃ y : c'.den, Wf c' y ∧ a.spot = none ∧ a.block < w.heap.size ∧ ∃ es, rep w Free c' y es ∧ ∀ (j : Nat) (u : Value), es[j]? = some u → w.cell? ⟨a.block, a.off + i * c'.cells + j, none⟩ = some u := by
          intro i hi
          have h1 := hat i hi
          have hz : ∃ z, elems[i]? = some z := ⟨elems[i]'(by omega), List.getElem?_eq_getElem (by omega)⟩
          obtain ⟨z, hz⟩ := hz
          rw [hz] at h1
          obtain ⟨es, hc1, hc2⟩ := Option.bind_eq_some_iff.1 h1
          obtain ⟨_, hlen, hcell⟩ := World.cells?_some hc1
          obtain ⟨y, hk, hw⟩ := ih e c' h hc2
          have h0 := hcell 0 (by omega)
          have hes0 : ∃ u, es[0]? = some u := ⟨es[0]'(by omega), List.getElem?_eq_getElem (by omega)⟩
          obtain ⟨u0, hu0⟩ := hes0
          rw [hu0] at h0
          have hadd0 : (a.add (i * P.cellsOf e)).add 0 = a.add (i * P.cellsOf e) := by simp [Addr.add]
          rw [hadd0] at h0
          have hspot : (a.add (i * P.cellsOf e)).spot = none := by
            unfold World.cell? at h0
            split at h0
            · split at h0
              · cases h0
              · rename_i hs; simpa using hs
            · cases h0
          refine ⟨y, hw, ?_, ?_, es, hk, fun j u hj => ?_⟩
          · -- the first element's address bears the spot
            have h1' := hat 0 (by omega)
            have hz0 : ∃ z, elems[0]? = some z := ⟨elems[0]'(by omega), List.getElem?_eq_getElem (by omega)⟩
            obtain ⟨z0, hz0⟩ := hz0
            rw [hz0] at h1'
            obtain ⟨es1, hc1', _⟩ := Option.bind_eq_some_iff.1 h1'
            obtain ⟨_, hlen1, hcell1⟩ := World.cells?_some hc1'
            have h01 := hcell1 0 (by omega)
            have hes1 : ∃ u, es1[0]? = some u := ⟨es1[0]'(by omega), List.getElem?_eq_getElem (by omega)⟩
            obtain ⟨u1, hu1⟩ := hes1
            rw [hu1] at h01
            have hadd : (a.add (0 * P.cellsOf e)).add 0 = a := by simp [Addr.add]
            rw [hadd] at h01
            unfold World.cell? at h01
            split at h01
            · split at h01
              · cases h01
              · rename_i hs; simpa using hs
            · cases h01
          · unfold World.cell? at h0
            split at h0
            · rename_i hh
              have := (Array.getElem?_eq_some_iff.1 hh).1
              have hblk : (a.add (i * P.cellsOf e)).block = a.block := by unfold Addr.add; split <;> rfl
              rw [hblk] at this
              exact this
            · cases h0
          · have hjl : j < P.cellsOf e := by rw [← hlen]; exact (List.getElem?_eq_some_iff.1 hj).1
            have h2 := hcell j hjl
            rw [hj] at h2
            rw [← h2]
            have hblk : (a.add (i * P.cellsOf e)).block = a.block := by unfold Addr.add; split <;> rfl
            have hoff : (a.add (i * P.cellsOf e)).off = a.off + i * P.cellsOf e := by unfold Addr.add; split <;> simp_all
            have : a.add (i * P.cellsOf e) = ⟨a.block, a.off + i * P.cellsOf e, none⟩ := by
              cases hq : a.add (i * P.cellsOf e) with
              | mk b o s =>
                rw [hq] at hblk hoff hspot
                simp only at hblk hoff hspot
                rw [hblk, hoff, hspot]
            rw [this, addr_add, hce]
        obtain ⟨ys, hyl, hys⟩ := gather len hg
        refine ⟨ys, ⟨_, rfl, .inr ⟨a.block, a.off, a.spot, cap, ?_, by omega, hm, fun i y hi => ?_⟩⟩, by omega, fun i y hi => (hys i y hi).1⟩
        · rw [show List.length ys = len from hyl]
        · obtain ⟨_, h1, h2, es, h3, h4⟩ := hys i y hi
          exact ⟨h1, fun h => h, h2, es, h3, h4⟩
    · rename_i fs a hu
      split at h
      · rename_i f hfs
        simp only [Bool.and_eq_true] at h
        have ho := Nat.eq_of_beq_eq_true h.1
        obtain ⟨xs, m, _, _, hl, hxl, hall⟩ := DataW.trod_struct hu hx
        have hfsz : fs.size = 1 := by rw [← Array.length_toList, hfs]; rfl
        have h0 := hall 0 f (by rw [← Array.getElem?_toList, hfs]; rfl)
        rw [List.getElem?_eq_getElem (show 0 < xs.length by omega), ho, List.drop_zero, (okTy_cells h.2).1] at h0
        obtain ⟨y, h1, h2⟩ := ih f.type a h.2 h0
        have hca : a.cells = cs.length := by rw [hl, hcells]; rfl
        rw [hca, List.take_length] at h1
        exact ⟨y, h1, h2⟩
      · cases h
    · rename_i fs a b hu
      obtain ⟨xs, m, _, _, hl, hxl, hall⟩ := DataW.trod_struct hu hx
      obtain ⟨y, h1, h2⟩ := fields_rep (w := w) (enc := enc) ih (fuel := m) (cs := cs) fs.toList 0 (.pair a b) h (by rw [hl, hcells]; omega) (fun f hf => by
        obtain ⟨i, hi⟩ := List.mem_iff_getElem?.1 hf
        have := hall i f (by rw [← Array.getElem?_toList]; exact hi)
        have hi2 : i < xs.length := by rw [hxl]; simpa using (List.getElem?_eq_some_iff.1 hi).1
        rw [List.getElem?_eq_getElem hi2] at this
        exact ⟨_, this⟩)
      rw [List.drop_zero, List.take_of_length_le (by rw [hl, hcells]; exact Nat.le_refl _)] at h1
      exact ⟨y, h1, h2⟩
    · rename_i m e a b hu
      obtain ⟨xs, m', _, _, hl, hxl, hall⟩ := DataW.trod_array hu hx
      obtain ⟨y, h1, h2⟩ := array_rep (w := w) (enc := enc) ih (fuel := m') (cs := cs) (e := e) m 0 (.pair a b) h (fun i hi => by
        have := hall i hi
        rw [List.getElem?_eq_getElem (show i < xs.length by omega)] at this
        rw [Nat.zero_add]
        exact ⟨_, this⟩)
      rw [List.drop_zero, List.take_of_length_le (by rw [hl, hcells]; exact Nat.le_refl _)] at h1
      exact ⟨y, h1, h2⟩
    · cases h
theorem okTy_form {n : Nat} {t : TypeId} {c : Ty} (h : okTy P n t c = true) {r : Reach} {b0 : Nat} {v : Value} (hv : Value.okWide P w r b0 t v) : (c.isAgg = true → ∃ cs, v = .agg cs) ∧ (c.isAgg = false → ∀ cs, v ≠ .agg cs) := by
  cases n with
  | zero => simp [okTy] at h
  | succ n =>
    simp only [okTy, Bool.and_eq_true] at h
    replace h := h.2
    unfold Value.okWide at hv
    split at h
    · rename_i hu
      rw [hu] at hv
      refine ⟨fun h => by simp [Ty.isAgg] at h, fun _ cs e => ?_⟩
      subst e
      simp [Cell.okWide, Cell.ok, hu] at hv
    · rename_i hu
      rw [hu] at hv
      refine ⟨fun h => by simp [Ty.isAgg] at h, fun _ cs e => ?_⟩
      subst e
      simp [Cell.okWide, Cell.ok, hu] at hv
    · rename_i hu
      rw [hu] at hv
      refine ⟨fun h => by simp [Ty.isAgg] at h, fun _ cs e => ?_⟩
      subst e
      simp [Cell.okWide, Cell.ok, hu] at hv
    · rename_i hu
      rw [hu] at hv
      refine ⟨fun h => by simp [Ty.isAgg] at h, fun _ cs e => ?_⟩
      subst e
      simp [Cell.okWide, Cell.ok, hu] at hv
    · rename_i hu
      rw [hu] at hv
      obtain ⟨cs, h1, _⟩ := hv
      exact ⟨fun _ => ⟨cs, h1⟩, fun h => by simp [Ty.isAgg] at h⟩
    · rename_i hu
      rw [hu] at hv
      obtain ⟨cs, h1, _⟩ := hv
      exact ⟨fun _ => ⟨cs, h1⟩, fun h => by simp [Ty.isAgg] at h⟩
    · rename_i hu
      rw [hu] at hv
      obtain ⟨cs, h1, _⟩ := hv
      exact ⟨fun _ => ⟨cs, h1⟩, fun h => by simp [Ty.isAgg] at h⟩
    · cases h
/-- One argument. -/
theorem arg_rep {n : Nat} {t : TypeId} {c : Ty} (h : okTy P n t c = true) {r : Reach} {b0 : Nat} {v : Value} (hv : Value.okWide P w r b0 t v) {d : DataW H} {ps : List MemPlace} (hd : DataW.Trod enc P w 0 (fun _ => true) true t v d ps) :
    ∃ y : c.den, repV1 w Free (V1.of c y) v ∧ Wf c y := by
  obtain ⟨fuel, hx⟩ := hd
  obtain ⟨y, h1, h2⟩ := trod_rep n t c h hx
  obtain ⟨h3, h4⟩ := okTy_form h hv
  refine ⟨y, ?_, h2⟩
  cases ha : c.isAgg with
  | true =>
    obtain ⟨cs, rfl⟩ := h3 ha
    have := repV1_of h1 ha
    simpa [Value.cells] using this
  | false =>
    have hne := h4 ha
    have hcells : v.cells.toList = [v] := by
      cases v <;> first | rfl | exact absurd rfl (hne _)
    rw [hcells] at h1
    simp only [V1.of, ha, cond_false]
    refine ⟨?_, h1⟩
    cases c <;> first | rfl | (simp [Ty.isAgg] at ha; done) | (simp only [rep] at h1; cases h1)
/-- All arguments. -/
def ArgsRep (w : World) : (l : List Ty) → dens l → List Value → Prop
  | [], _, [] => True
  | t :: l, x, u :: us => repV1 w Free (V1.of t x.1) u ∧ ArgsRep w l x.2 us
  | _, _, _ => False
def WfArgs : (l : List Ty) → dens l → Prop
  | [], _ => True
  | t :: l, x => Wf t x.1 ∧ WfArgs l x.2
def okTys (P : Program) (n : Nat) : List TypeId → List Ty → Bool
  | [], [] => true
  | t :: ts, c :: cs => okTy P n t c && okTys P n ts cs
  | _, _ => false
theorem args_rep {n : Nat} {r : Reach} {b0 : Nat} : ∀ {ts : List TypeId} {cs : List Ty}, okTys P n ts cs = true → ∀ {vs : List Value} {ds : List (DataW H)} {ps : List MemPlace}, (∀ (j : Nat) (t : TypeId) (v : Value), ts[j]? = some t → vs[j]? = some v → Value.okWide P w r b0 t v) →
    DataW.TrodAll enc P w 0 (fun _ => true) true ts vs ds ps → ∃ x : dens cs, ArgsRep w cs x vs ∧ WfArgs cs x
  | [], [], _, vs, ds, ps, _, h => by
    cases vs with
    | nil => exact ⟨(), trivial, trivial⟩
    | cons _ _ => cases ds <;> simp [DataW.TrodAll] at h
  | [], _ :: _, h, _, _, _, _, _ => by simp [okTys] at h
  | _ :: _, [], h, _, _, _, _, _ => by simp [okTys] at h
  | t :: ts, c :: cs, h, vs, ds, ps, hv, hd => by
    simp only [okTys, Bool.and_eq_true] at h
    obtain ⟨v, vs', d, ds', p, q, rfl, rfl, rfl, h1, h2⟩ := trodAll_cons hd
    obtain ⟨y, h3, h4⟩ := arg_rep h.1 (hv 0 t v rfl rfl) h1
    obtain ⟨x, h5, h6⟩ := args_rep h.2 (fun j t v hj hu => hv (j + 1) t v (by simpa using hj) (by simpa using hu)) h2
    exact ⟨(y, x), ⟨h3, h5⟩, h4, h6⟩
theorem valTys_map : ∀ l : List Ty, valTys (l.map PS.val) = l
  | [] => rfl
  | t :: l => by simp [valTys, valTys_map l]
/-- The arguments as a function's entry wants them. -/
def vals : (l : List Ty) → dens l → dens (valTys (l.map PS.val))
  | [], _ => ()
  | _ :: l, x => (x.1, vals l x.2)
theorem args_entry {io : Nat → Value} {h : Hp} : ∀ (l : List Ty) (s : Nat) (x : dens l) (us : List Value), ArgsRep w l x us → (∀ i, repR w Free io h (look .unk (entryRegs (l.map PS.val) s (vals l x)) (s + i)) (us.getD i undef)) ∧ us.length = l.length
  | [], s, x, us, hr => by
    cases us with
    | nil => exact ⟨fun i => trivial, rfl⟩
    | cons _ _ => exact hr.elim
  | t :: l, s, x, us, hr => by
    cases us with
    | nil => exact hr.elim
    | cons u us =>
      obtain ⟨ih, hl⟩ := args_entry (io := io) (h := h) l (s + 1) x.2 us hr.2
      refine ⟨fun i => ?_, by simp [hl]⟩
      cases i with
      | zero =>
        show repR w Free io h (look .unk ((s, .p (V1.of t x.1)) :: entryRegs (l.map PS.val) (s + 1) (vals l x.2)) (s + 0)) u
        simp only [look, Nat.add_zero, Nat.beq_refl, cond_true]
        exact hr.1
      | succ i =>
        have hb : Nat.beq s (s + (i + 1)) = false := beq_ne (by omega)
        show repR w Free io h (look .unk ((s, .p (V1.of t x.1)) :: entryRegs (l.map PS.val) (s + 1) (vals l x.2)) (s + (i + 1))) ((u :: us).getD (i + 1) undef)
        simp only [look, hb, cond_false]
        rw [show s + (i + 1) = s + 1 + i by omega]
        simpa using ih i
/-- A law's call. -/
theorem law_calls {f : FuncId} {l : List Ty} {X : dens (valTys (l.map PS.val)) → dens (bTys []) → (rden [Ty.bool] → dens (oTys []) → Prop) → Prop} (hfe : FeOk P ⟨f, l.map PS.val, [], [.bool], false, none, X⟩) {fn : Func} (g1 : P.funcs[f]? = some fn) (g2 : fn.body.isSome = true) (g3 : (fn.name == "runtime.NumGoroutine") = false)
    {x : dens l} (hX : X (vals l x) () (fun r _ => r = true)) {us : List Value} (hr : ArgsRep w l x us) :
    Calls P f us.toArray w (fun en w' => en = .returned (.bool true) ∧ Below w.heap.size w w') := by
  obtain ⟨r, z, hK, hcalls⟩ := hfe.calls (vals l x) () _ hX
  have hent := args_entry (io := handIo []) (h := (entry (l.map PS.val) [] (vals l x) ()).hp) l 0 x us hr
  have hE : Enter w Free [] [] (entry (l.map PS.val) [] (vals l x) ()) us := by
    refine ⟨fun b h => h.elim, fun j j' t e g h => by simp at h, rfl, fun g hg => ?_, fun i => ?_, fun k b hb => ?_⟩
    · obtain ⟨j, t, e, h1, _⟩ := hg
      simp at h1
    · have := hent.1 i
      rw [Nat.zero_add] at this
      exact this
    · simp [entry, entryHeap, St.hp, look] at hb
  have hdo := hcalls w Free [] us hE (by simpa using hent.2)
  rcases hdo with ⟨_, _, _, _, hdo⟩ | ⟨u, h1, _⟩
  case inr => rw [run_callFunc g1 g2 g3] at h1; cases h1
  refine hdo.mono ?_
  rintro en w' ⟨u, rfl, hL⟩
  have hres : rep1 w' Free (.v .bool r) u := hL.res rfl
  have hu := bool_of hres
  have hK : r = true := hK
  refine ⟨by rw [hu, hK], hL.keep.os, hL.keep.tape, hL.keep.output, hL.keep.size, fun k hk => hL.keep.block k hk (fun hg => ?_)⟩
  obtain ⟨j, t, e, h1, _⟩ := hg
  simp at h1
/-- The arguments read behind the call as they did. -/
theorem trodAll_below (hl : laidOutB P = true) {W' : World} (hb : Below w.heap.size w W') : ∀ {ts : List TypeId} {vs : List Value} {ds : List (DataW H)} {ps : List MemPlace}, (ts.all (fun t => P.readableRec t && decide (t < P.types.size))) = true →
    (∀ x ∈ ps, x.block < w.heap.size) → DataW.TrodAll enc P w 0 (fun _ => true) true ts vs ds ps → DataW.TrodAll enc P W' 0 (fun b => decide (b < w.heap.size)) true ts vs ds ps
  | [], vs, ds, ps, _, _, h => by
    cases vs <;> cases ds <;> simp [DataW.TrodAll] at h ⊢
    exact h
  | t :: ts, vs, ds, ps, ht, hlt, h => by
    obtain ⟨v, vs', d, ds', p, q, rfl, rfl, rfl, h1, h2⟩ := trodAll_cons h
    simp only [List.all_cons, Bool.and_eq_true, decide_eq_true_eq] at ht
    exact ⟨p, q, Below.trod hl ht.1.1 ht.1.2 h1 hb (fun x hx => hlt x (by simp [hx])), trodAll_below hl hb (by simpa using ht.2) (fun x hx => hlt x (by simp [hx])) h2, rfl⟩
end
end Go.Proofs.YtieeiiibamkbmaaGreat.Am
