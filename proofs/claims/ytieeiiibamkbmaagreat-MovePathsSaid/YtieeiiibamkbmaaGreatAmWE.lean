/- A state read by slots says what the state said: the whole. Conditions: none; these are lemmas. -/
import Derived.Test.YtieeiiibamkbmaaGreatAmWD
namespace Go.Proofs.YtieeiiibamkbmaaGreat.Am
open Go Go.RowKit
set_option linter.unusedVariables false
set_option linter.unusedSimpArgs false

theorem far_ok {n : Nat} : ∀ {l : List Slot}, far l = true → n ∈ rowNames l → n < 1000 ∨ 2000 ≤ n := by
  intro l
  induction l with
  | nil => intro _ h; simp [rowNames] at h
  | cons s l ih =>
    intro hf h
    cases s with
    | row t _ _ =>
      simp only [far, Bool.and_eq_true] at hf
      simp only [rowNames, List.mem_cons] at h
      rcases h with rfl | h
      · exact .inl (by simpa using hf.1)
      · exact ih hf.2 h
    | boxm _ _ _ r _ _ _ =>
      simp only [far, Bool.and_eq_true] at hf
      simp only [rowNames, List.mem_cons] at h
      rcases h with rfl | h
      · exact .inr (Nat.le_of_ble_eq_true hf.1)
      · exact ih hf.2 h
    | reg _ _ => exact ih hf h
    | ref _ _ => exact ih hf h
    | fn _ _ _ => exact ih hf h
    | box _ _ _ _ => exact ih hf h
    | boxr _ _ _ _ => exact ih hf h
theorem boxNames_names {l : List Slot} {n : Nat} (h : n ∈ boxNames l) : n ∈ names l := by
  induction l with
  | nil => simp [boxNames] at h
  | cons s l ih => cases s <;> simp only [boxNames, names, List.mem_cons] at h ⊢ <;> first | exact ih h | exact .inr (ih h) | exact h.imp id ih | exact h.imp id (fun h => .inr (ih h))
theorem mem_box {w : Bool} {k : Nat} {t : TypeId} {e : Ty} {l : List Slot} (h : Slot.box w k t e ∈ l) : k ∈ boxNames l := by
  induction l with
  | nil => simp at h
  | cons s l ih =>
    rcases List.mem_cons.1 h with rfl | h
    · simp [boxNames]
    · have := ih h
      cases s <;> simp [boxNames, this]
theorem mem_boxr {w : Bool} {k : Nat} {t : TypeId} {cs : List RV} {l : List Slot} (h : Slot.boxr w k t cs ∈ l) : k ∈ boxNames l ∧ ∀ j ∈ cs.flatMap refs1, j ∈ slotRefs l := by
  induction l with
  | nil => simp at h
  | cons s l ih =>
    rcases List.mem_cons.1 h with rfl | h
    · exact ⟨by simp [boxNames], fun j hj => by simp only [slotRefs, List.mem_append]; exact .inl hj⟩
    · obtain ⟨h1, h2⟩ := ih h
      refine ⟨?_, fun j hj => ?_⟩
      · cases s <;> simp [boxNames, h1]
      · have := h2 j hj
        cases s <;> simp only [slotRefs, List.mem_append] <;> first | exact this | exact .inr this
theorem mem_boxm {k r : Nat} {t te : TypeId} {a e b : Ty} {l : List Slot} (h : Slot.boxm k t a r te e b ∈ l) : k ∈ boxNames l ∧ r ∈ names l := by
  induction l with
  | nil => simp at h
  | cons s l ih =>
    rcases List.mem_cons.1 h with rfl | h
    · simp [boxNames, names]
    · obtain ⟨h1, h2⟩ := ih h
      refine ⟨?_, ?_⟩
      · cases s <;> simp [boxNames, h1]
      · cases s <;> simp [names, h2]
theorem mem_row {t : Nat} {te : TypeId} {e : Ty} {l : List Slot} (h : Slot.row t te e ∈ l) : t ∈ names l := by
  induction l with
  | nil => simp at h
  | cons s l ih =>
    rcases List.mem_cons.1 h with rfl | h
    · simp [names]
    · have := ih h
      cases s <;> simp [names, this]
theorem mem_ref {t : Nat} {r : RV} {l : List Slot} (h : Slot.ref t r ∈ l) : ∀ j ∈ refs1 r, j ∈ slotRefs l := by
  induction l with
  | nil => simp at h
  | cons s l ih =>
    intro j hj
    rcases List.mem_cons.1 h with rfl | h
    · simp only [slotRefs, List.mem_append]; exact .inl hj
    · have := ih h j hj
      cases s <;> simp only [slotRefs, List.mem_append] <;> first | exact this | exact .inr this
section
variable {C : Seat} {S : St} {io : Nat → Value} {a : Act} {w : World} {sl : List Slot} {y : sden sl}
theorem decS_parts (hd : decS sl S = some y) : (keeps S sl).Nodup ∧ (names sl).Nodup ∧ (∀ k ∈ keeps S sl, k ∉ reads S sl ++ boxRows S sl) ∧ (∀ k ∈ slotRefs sl, k ∈ boxNames sl) ∧ far sl = true ∧ decS1 S sl = some y := by
  unfold decS at hd
  cases hc : nodupB (keeps S sl) && nodupB (names sl) && disj (keeps S sl) (reads S sl ++ boxRows S sl) && (slotRefs sl).all (fun k => (boxNames sl).contains k) && nodupB (regsOf sl) && far sl with
  | false => rw [hc] at hd; cases hd
  | true =>
    rw [hc, cond_true] at hd
    simp only [Bool.and_eq_true] at hc
    obtain ⟨⟨⟨⟨⟨h1, h2⟩, h3⟩, h4⟩, h5⟩, h6⟩ := hc
    exact ⟨nodupB_ok h1, nodupB_ok h2, fun k hk hk' => disj_not h3 hk hk', fun k hk => by simpa using List.all_eq_true.1 h4 k hk, h6, hd⟩
theorem sameRef_kind {r r' : RV} (h : sameRef r r' = true) : (∃ k p, r = .ptr k p) ∨ (∃ f c, r = .clos f [] c) :=
  sameRefs_kind (l := [r]) (m := [r']) (by simp [sameRefs, h]) r (by simp)
theorem decS_ok (R : Rel C S.get S.hp io a w) (hd : decS sl S = some y) : ∃ io', Rel C (encS sl y).get (encS sl y).hp io' a w := by
  obtain ⟨hk, hn, hdisj, hrefs, hfar, hd1⟩ := decS_parts hd
  have hl : ∀ k, RV.row k ∈ purL S sl → S.hp k = S.hp k := fun _ _ => rfl
  have hseal := SealTo.seals (S := S) (l := purL S sl) hl
  have R1 := R.sealTo hseal
  have hkept : ∀ k n, (k, n) ∈ kn S sl → (Hp.app S.hp (seals S (purL S sl))) k = S.hp k := by
    intro k n hq
    rcases seals_at S (purL S sl) k (S.hp k) with ⟨te, e, xs, h1, h2, _⟩ | ⟨_, h2⟩
    · refine absurd (purL_rows h2) (hdisj k ?_)
      rw [← kn_keeps]
      exact List.mem_map.2 ⟨_, hq, rfl⟩
    · exact h2
  have hpure : ∀ {x : RV}, x ∈ purL S sl → ∀ {v : V1}, pure1 S x = some v → ∀ {u : Value}, repR w (NN C.Nx io S.hp) io S.hp x u → repV1 w (NN C.Nx io (Hp.app S.hp (seals S (purL S sl)))) v u :=
    fun hx _ hv _ hu => pure1_ok hl R hx hv hu
  have hpvs : ∀ {l : List RV} {ps : List Pv} {us : List Value}, (∀ x ∈ l, x ∈ purL S sl) → pvs S l = some ps → l.length = us.length → (∀ (j : Nat) (x : RV) (u : Value), l[j]? = some x → us[j]? = some u → repR w (NN C.Nx io S.hp) io S.hp x u) →
      repC w (NN C.Nx io (Hp.app S.hp (seals S (purL S sl)))) ps us := fun h1 h2 h3 h4 => pvs_ok hl R h1 h2 h3 h4
  have hsub : ∀ j g, ownedB io (Hp.app S.hp (seals S (purL S sl))) j g → ownedB io S.hp j g := fun j g h => (hseal.sub h).1
  generalize Hp.app S.hp (seals S (purL S sl)) = h1 at R1 hkept hpure hpvs hsub
  have hgets : ∀ t, RegIs S sl t ((encS sl y).get t) := encS_get hd1
  have hhps : ∀ n b, (encS sl y).hp n = some b → HpIs S sl n b := encS_hp hd1
  have hborn : ∀ n, n ∈ names sl → (encS sl y).hp n ≠ none := fun n h => encS_born h
  generalize encS sl y = S' at hgets hhps hborn ⊢
  have hbox : ∀ n, n ∈ boxNames sl → ioN S io sl n = io n := fun n h => ioN_other (row_box hn h)
  have src : ∀ n g, ownedB (ioN S io sl) S'.hp n g → ∃ k, (k, n) ∈ kn S sl ∧ ownedB io h1 k g ∧ ((∃ t cs, S'.hp n = some (.box true t cs)) ∨ (∃ te e xs, h1 k = some (.row te e xs))) := by
    rintro n g ⟨hkind, hblk⟩
    rcases hkind with ⟨t, cs, hb⟩ | ⟨te, e, xs, hb⟩
    · have hi := hhps n _ hb
      have key : (n, n) ∈ kn S sl → n ∈ boxNames sl → (∃ t cs, S.hp n = some (.box true t cs)) → ∃ k, (k, n) ∈ kn S sl ∧ ownedB io h1 k g ∧ ((∃ t cs, S'.hp n = some (.box true t cs)) ∨ (∃ te e xs, h1 k = some (.row te e xs))) := by
        rintro h2 h3 ⟨t', cs', h4⟩
        refine ⟨n, h2, ⟨.inl ⟨t', cs', (hkept n n h2).trans h4⟩, ?_⟩, .inl ⟨t, cs, hb⟩⟩
        rw [← hbox n h3]; exact hblk
      cases hi with
      | box w t e x cs ps h2 h3 h4 h5 h6 => exact key h6 (mem_box h2) ⟨_, _, h3⟩
      | boxr w t cs h2 h3 h4 h5 => exact key h5 (mem_boxr h2).1 ⟨_, _, h3⟩
      | boxm t a r te e b cs ps qs u v h2 h3 h4 h5 h6 h7 h8 h9 => exact key h9 (mem_boxm h2).1 ⟨_, _, h3⟩
    · have hi := hhps n _ hb
      cases hi with
      | row _ _ _ h2 h3 =>
        have hio := ioN_row (S := S) (io := io) hn h2
        rcases h3 with ⟨k, h4, h5, h6⟩ | ⟨_, h4⟩
        · rw [h4] at hio
          refine ⟨k, h6, ⟨.inr ⟨te, e, xs, (hkept k n h6).trans h5⟩, ?_⟩, .inr ⟨te, e, xs, (hkept k n h6).trans h5⟩⟩
          rw [hio] at hblk; exact hblk
        · rw [h4] at hio
          rw [hio] at hblk
          simp [nilV, blkOf] at hblk
      | boxmr k t a _ _ b cs _ h2 h3 h4 =>
        have hio := ioN_boxm (S := S) (io := io) hn h2
        rw [h3] at hio
        simp only at hio
        rcases h4 with ⟨j, h5, h6, h7⟩ | ⟨_, h5⟩
        · rw [h5] at hio
          refine ⟨j, h7, ⟨.inr ⟨te, e, xs, (hkept j n h7).trans h6⟩, ?_⟩, .inr ⟨te, e, xs, (hkept j n h7).trans h6⟩⟩
          rw [hio] at hblk; exact hblk
        · rw [h5] at hio
          rw [hio] at hblk
          simp [nilV, blkOf] at hblk
  have hNN : ∀ g, NN C.Nx (ioN S io sl) S'.hp g → NN C.Nx io h1 g := by
    rintro g (hx | ⟨n, hx⟩)
    · exact .inl hx
    · obtain ⟨k, _, h2, _⟩ := src n g hx
      exact .inr ⟨k, h2⟩
  have hst : Stays w w (NN C.Nx io h1) (NN C.Nx (ioN S io sl) S'.hp) := fun b hb hnb => ⟨hb, rfl, fun hx => hnb (hNN b hx)⟩
  have href : ∀ (r : RV), ((∃ k p, r = .ptr k p) ∨ (∃ f c, r = .clos f [] c)) → (∀ k ∈ refs1 r, k ∈ boxNames sl) → ∀ u, repR w (NN C.Nx io h1) io h1 r u → repR w (NN C.Nx (ioN S io sl) S'.hp) (ioN S io sl) S'.hp r u := by
    rintro r (⟨k, p, rfl⟩ | ⟨f, c, rfl⟩) hr u hu
    · have hkb := hr k (by simp [refs1])
      obtain ⟨_, g, h2, h3⟩ := hu
      exact ⟨hborn k (boxNames_names hkb), g, (hbox k hkb).trans h2, h3⟩
    · obtain ⟨fa, ca, h2, h3, h4, h5⟩ := hu
      refine ⟨fa, ca, h2, repVs_step hst h3, h4, fun j k hj => ?_⟩
      have hkb := hr k (by simp only [refs1]; exact List.mem_of_getElem? hj)
      obtain ⟨_, g, h6, h7⟩ := h5 j k hj
      exact ⟨hborn k (boxNames_names hkb), g, (hbox k hkb).trans h6, h7⟩
  have hfree : ∀ (n g : Nat), (¬ ∃ k, ownedB io S.hp k g) → ¬ ∃ n', ownedB (ioN S io sl) S'.hp n' g := by
    rintro n g h2 ⟨n', h3⟩
    obtain ⟨k, _, h4, _⟩ := src n' g h3
    exact h2 ⟨k, hsub k g h4⟩
  refine ⟨ioN S io sl, R.small, R.size, R.defers, R.keep, R.nx, fun t => ?_, fun n b hb => ?_, fun n n' g h2 h3 => ?_, fun n g h2 => ?_, fun j g hj => ?_⟩
  · have hR := R.regs t
    have hR1 := R1.regs t
    have hi := hgets t
    generalize S'.get t = rv at hi ⊢
    cases hi with
    | unk => trivial
    | reg e x v h2 h3 h4 => exact repV1_step hst (rep_to h4 (hpure (purL_reg h2) h3 hR)).1
    | ref _ h2 h3 =>
      have h4 := sameRef_eq h3
      rw [← h4] at hR1
      exact href _ (sameRef_kind h3) (fun k hk => hrefs k (mem_ref h2 k hk)) _ hR1
    | row te e h2 h3 =>
      refine ⟨hborn t (mem_row h2), fun _ => ?_⟩
      have hio := ioN_row (S := S) (io := io) hn h2
      rcases h3 with ⟨k, xs, h4, h5⟩ | h4
      · rw [h4] at hio hR
        rw [hio]
        exact hR.2 (by rw [h5]; simp)
      · rw [h4] at hio hR
        rw [hio]
        exact hR
    | fn f e x v h2 h3 h4 =>
      rw [h3] at hR1
      obtain ⟨fa, ca, h5, h6, h7, h8⟩ := hR1
      refine ⟨fa, ca, h5, ?_, h7, fun j k hj => by simp at hj⟩
      match fa, h6 with
      | [u1], h6 => exact ⟨repV1_step hst (rep_to h4 h6.1).1, trivial⟩
      | [], h6 => exact h6.elim
      | _ :: _ :: _, h6 => exact h6.2.elim
  · have hi := hhps n b hb
    cases hi with
    | row te e xs h2 h3 =>
      have hio := ioN_row (S := S) (io := io) hn h2
      rcases h3 with ⟨k, h4, h5, h6⟩ | ⟨rfl, h4⟩
      · rw [h4] at hio
        obtain ⟨cs, h7, h8, h9⟩ := R1.heap k _ ((hkept k n h6).trans h5)
        refine ⟨cs, by rw [hio]; exact h7, h8, fun i x hx => ?_⟩
        obtain ⟨es, h10, h11⟩ := h9 i x hx
        exact ⟨es, rep_step hst h10, h11⟩
      · rw [h4] at hio
        exact ⟨[], by rw [hio]; exact World.ownsRow_nil _ _ _ _, by simp, repE_nil⟩
    | boxmr k t a te e b cs xs h2 h3 h4 =>
      have hio := ioN_boxm (S := S) (io := io) hn h2
      rw [h3] at hio
      simp only at hio
      rcases h4 with ⟨j, h5, h6, h7⟩ | ⟨rfl, h5⟩
      · rw [h5] at hio
        obtain ⟨cs, h8, h9, h10⟩ := R1.heap j _ ((hkept j n h7).trans h6)
        refine ⟨cs, by rw [hio]; exact h8, h9, fun i x hx => ?_⟩
        obtain ⟨es, h11, h12⟩ := h10 i x hx
        exact ⟨es, rep_step hst h11, h12⟩
      · rw [h5] at hio
        exact ⟨[], by rw [hio]; exact World.ownsRow_nil _ _ _ _, by simp, repE_nil⟩
    | box wr t e x cs ps h2 h3 h4 h5 h6 =>
      obtain ⟨g, vals, h7, h8, h9, h10, h11⟩ := R.heap n _ h3
      have hrc := hpvs (us := vals.toList) (purL_box h3 h2) h4 (by simpa using h9.symm) (fun j x u hj hu => by
        obtain ⟨v, h12, _, h13⟩ := h11 j x hj
        rw [Array.getElem?_toList, h12] at hu
        injection hu with hu
        exact hu ▸ h13)
      have hrep := repC_step hst (rep_unpack (rep_packAll h5 hrc))
      refine ⟨g, vals, (hbox n (mem_box h2)).trans h7, h8, ?_, fun hw => hfree n g (h10 hw), fun j c hj => ?_⟩
      · have := repC_len hrep
        simpa using this.symm
      · have := repC_cells (h := S'.hp) (io := ioN S io sl) hrep j c hj
        simpa using this
    | boxr wr t cs h2 h3 h4 h5 =>
      obtain ⟨g, vals, h7, h8, h9, h10, h11⟩ := R.heap n _ h3
      obtain ⟨_, _, _, _, _, _, h11'⟩ := R1.heap n _ ((hkept n n h5).trans h3)
      obtain ⟨g', vals', h7', h8', _, _, h11'⟩ := R1.heap n _ ((hkept n n h5).trans h3)
      have hgg : g = g' := by
        rw [h7] at h7'
        simp only [ptrTo, Value.pointer.injEq, Option.some.injEq, Addr.mk.injEq, and_true] at h7'
        exact h7'
      subst hgg
      have hvv : vals = vals' := by
        rw [h8] at h8'
        simpa using h8'
      subst hvv
      refine ⟨g, vals, (hbox n (mem_boxr h2).1).trans h7, h8, h9, fun hw => hfree n g (h10 hw), fun j c hj => ?_⟩
      obtain ⟨v, h12, h13, h14⟩ := h11' j c hj
      refine ⟨v, h12, h13, href c (sameRefs_kind h4 c (List.mem_of_getElem? hj)) (fun k hk => hrefs k ((mem_boxr h2).2 k (List.mem_flatMap.2 ⟨c, List.mem_of_getElem? hj, hk⟩))) v h14⟩
    | boxm t ta rr te e tb cs ps qs u v h2 h3 h4 h5 h6 h7 h8 h9 =>
      obtain ⟨g, vals, g1, g2, g3, g4, g5⟩ := R.heap n _ h3
      have hmid : ta.cells < cs.length := by
        rcases h8 with ⟨j, h10, _⟩ | h10 <;> exact (List.getElem?_eq_some_iff.1 h10).1
      have hvl : vals.toList.length = cs.length := by simpa using g3
      have hpt : ∀ (j : Nat) (x : RV) (u : Value), cs[j]? = some x → vals.toList[j]? = some u → repR w (NN C.Nx io S.hp) io S.hp x u := fun j x u hj hu => by
        obtain ⟨v, h12, _, h13⟩ := g5 j x hj
        rw [Array.getElem?_toList, h12] at hu
        injection hu with hu
        exact hu ▸ h13
      have hr1 := hpvs (l := cs.take ta.cells) (us := vals.toList.take ta.cells) (fun x hx => purL_boxm h3 h2 x (List.mem_append_left _ hx)) h4 (by simp only [List.length_take]; omega) (fun j x u hj hu => by
        rw [List.getElem?_take] at hj hu
        split at hj
        · rename_i hlt
          rw [if_pos hlt] at hu
          exact hpt j x u hj hu
        · cases hj)
      have hr2 := hpvs (l := cs.drop (ta.cells + 1)) (us := vals.toList.drop (ta.cells + 1)) (fun x hx => purL_boxm h3 h2 x (List.mem_append_right _ hx)) h6 (by simp only [List.length_drop]; omega) (fun j x u hj hu => by
        rw [List.getElem?_drop] at hj hu
        exact hpt _ x u hj hu)
      have hq1 := rep_packAll h5 hr1
      have hq2 := rep_packAll h7 hr2
      have hp1 := repC_step hst (rep_unpack hq1)
      have hp2 := repC_step hst (rep_unpack hq2)
      have hl1 := repC_len hp1
      have hl2 := repC_len hp2
      simp only [List.length_take, List.length_drop] at hl1 hl2
      refine ⟨g, vals, (hbox n (mem_boxm h2).1).trans g1, g2, ?_, (fun hw => by cases hw), fun j c hj => ?_⟩
      · have : vals.size = cs.length := g3
        simp only [List.length_append, List.length_map, List.length_cons]
        omega
      · by_cases hja : j < ta.cells
        · rw [List.getElem?_append_left (by simp only [List.length_map]; omega)] at hj
          obtain ⟨v', h12, h13, h14⟩ := repC_cells (h := S'.hp) (io := ioN S io sl) hp1 j c hj
          refine ⟨v', ?_, h13, h14⟩
          simp only [List.getElem?_toArray, List.getElem?_take, if_pos hja, Array.getElem?_toList] at h12
          exact h12
        · rw [List.getElem?_append_right (by simp only [List.length_map]; omega)] at hj
          simp only [List.length_map] at hj
          have hjl : j - (unpack ta u).length = j - ta.cells := by omega
          rw [hjl] at hj
          by_cases hje : j = ta.cells
          · subst hje
            rw [Nat.sub_self, List.getElem?_cons_zero, Option.some.injEq] at hj
            subst hj
            have hio := ioN_boxm (S := S) (io := io) hn h2
            rw [h3] at hio
            simp only at hio
            rcases h8 with ⟨jj, h10, xs, h11⟩ | h10
            · obtain ⟨v', h12, h13, h14⟩ := g5 _ _ h10
              refine ⟨v', h12, h13, hborn rr (mem_boxm h2).2, fun _ => ?_⟩
              rw [h10] at hio
              rw [hio]
              exact h14.2 (by rw [h11]; simp)
            · obtain ⟨v', h12, h13, h14⟩ := g5 _ _ h10
              refine ⟨v', h12, h13, hborn rr (mem_boxm h2).2, fun _ => ?_⟩
              rw [h10] at hio
              rw [hio]
              exact h14
          · rw [show j - ta.cells = (j - ta.cells - 1) + 1 by omega, List.getElem?_cons_succ] at hj
            obtain ⟨v', h12, h13, h14⟩ := repC_cells (h := S'.hp) (io := ioN S io sl) hp2 _ c hj
            refine ⟨v', ?_, h13, h14⟩
            simp only [List.getElem?_toArray, List.getElem?_drop, Array.getElem?_toList] at h12
            rw [show ta.cells + 1 + (j - ta.cells - 1) = j by omega] at h12
            exact h12
  · obtain ⟨k, q1, q2, _⟩ := src n g h2
    obtain ⟨k', q3, q4, _⟩ := src n' g h3
    have := R1.inj k k' g q2 q4
    subst this
    exact fst_inj (by rw [kn_keeps]; exact hk) q1 q3
  · obtain ⟨k, _, q2, q3⟩ := src n g h2
    rcases R1.mine k g q2 with h3 | ⟨h3, t, cs, h4⟩
    · exact .inl h3
    · rcases q3 with q3 | ⟨te, e, xs, q3⟩
      · exact .inr ⟨h3, q3⟩
      · rw [h4] at q3; cases q3
  · have h2 := R.small.2
    have h3 : j < C.gs.length := (List.getElem?_eq_some_iff.1 hj).1
    rw [ioN_other]
    · exact R.hand j g hj
    · intro h4
      have := far_ok hfar h4
      omega
end
end Go.Proofs.YtieeiiibamkbmaaGreat.Am
