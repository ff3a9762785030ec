/- A call of the abstract machine tells what the program's call does: the entry. Conditions: what is known of the callees ('FeOk'). -/
import Derived.Test.YtieeiiibamkbmaaGreatAmQ
namespace Go.Proofs.YtieeiiibamkbmaaGreat.Am
open Go Go.RowKit
set_option linter.unusedVariables false
set_option linter.unusedSimpArgs false

section
variable {P : Program} {Γ : List Fe} {C : Seat} {Q : Exit → Act → World → Prop} {o : Oper} {S : St} {r : Nat → RV} {h : Hp} {io : Nat → Value} {a : Act} {w : World}
theorem decBs_box : ∀ {bs : List BS} {bks : List Blk} {y : dens (bTys bs)}, decBs bs bks = some y → bks.length = bs.length ∧ ∀ b ∈ bks, ∃ w t cs, b = .box w t cs
  | [], [], y, hd => ⟨rfl, by simp⟩
  | [], _ :: _, y, hd => by simp [decBs] at hd
  | .val wr t ty :: bs, bks, y, hd => by
    cases bks with
    | nil => simp [decBs] at hd
    | cons bk bks =>
      cases bk with
      | box w' t' cs =>
        simp only [decBs] at hd
        split at hd
        · split at hd
          · rename_i a b1 h1 h2
            have ih := decBs_box h2
            refine ⟨by simp [ih.1], fun b hb => ?_⟩
            rcases List.mem_cons.1 hb with rfl | hb
            · exact ⟨_, _, _, rfl⟩
            · exact ih.2 b hb
          · cases hd
        · cases hd
      | _ => simp [decBs] at hd
  | .lit t cs0 :: bs, bks, y, hd => by
    cases bks with
    | nil => simp [decBs] at hd
    | cons bk bks =>
      cases bk with
      | box w' t' cs =>
        simp only [decBs] at hd
        cases hc : Nat.beq t t' && sameRefs cs0 cs
        · rw [hc] at hd; cases hd
        · rw [hc] at hd
          have ih := decBs_box (show decBs bs bks = some y from hd)
          refine ⟨by simp [ih.1], fun b hb => ?_⟩
          rcases List.mem_cons.1 hb with rfl | hb
          · exact ⟨_, _, _, rfl⟩
          · exact ih.2 b hb
      | _ => simp [decBs] at hd
theorem sameRefs_kind : ∀ {l m : List RV}, sameRefs l m = true → ∀ q ∈ l, (∃ k p, q = .ptr k p) ∨ (∃ f c, q = .clos f [] c)
  | [], _, _, q, hq => by simp at hq
  | a :: l, [], hs, q, hq => by simp [sameRefs] at hs
  | a :: l, b :: m, hs, q, hq => by
    simp only [sameRefs, Bool.and_eq_true] at hs
    rcases List.mem_cons.1 hq with rfl | hq
    · have h1 := hs.1
      unfold sameRef at h1
      split at h1
      · exact .inl ⟨_, _, rfl⟩
      · exact .inr ⟨_, _, rfl⟩
      · cases h1
    · exact sameRefs_kind hs.2 q hq
theorem asPvs_ren {f : Nat → Nat} : ∀ {cs : List RV} {ps : List Pv}, asPvs (cs.map (renRV f)) = some ps → asPvs cs = some ps
  | [], ps, hp => hp
  | c :: cs, ps, hp => by
    simp only [List.map_cons] at hp
    unfold asPvs at hp
    split at hp
    · rename_i e; simp at e
    · rename_i p m e
      simp only [List.cons.injEq] at e
      obtain ⟨e1, e2⟩ := e
      split at hp
      · rename_i qs hq
        rw [← e2] at hq
        have ih := asPvs_ren hq
        have : c = .p (.v p) := by
          cases c <;> simp only [renRV, reduceCtorEq] at e1 <;> exact e1
        subst this
        simpa [asPvs, ih] using hp
      · cases hp
    · cases hp
theorem decBs_at : ∀ {bs : List BS} {bks : List Blk} {y : dens (bTys bs)}, decBs bs bks = some y → ∀ (j : Nat), (∀ (t : TypeId) (e : Ty), bs[j]? = some (BS.val true t e) → ∃ cs, bks[j]? = some (.box true t cs)) ∧
    (∀ (t : TypeId) (cs : List RV), bs[j]? = some (BS.lit t cs) → ∀ q ∈ cs, (∃ k p, q = .ptr k p) ∨ (∃ f c, q = .clos f [] c))
  | [], [], y, hd, j => by simp
  | [], _ :: _, y, hd, j => by simp [decBs] at hd
  | .val wr t ty :: bs, bks, y, hd, j => by
    cases bks with
    | nil => simp [decBs] at hd
    | cons bk bks =>
      cases bk with
      | box w' t' cs =>
        simp only [decBs] at hd
        split at hd
        · split at hd
          · rename_i a b1 h1 h2
            cases hc : Nat.beq t t' && (w' || !wr)
            · rw [hc] at hd; cases hd
            · simp only [Bool.and_eq_true] at hc
              have ht := Nat.eq_of_beq_eq_true hc.1
              subst ht
              cases j with
              | zero =>
                refine ⟨fun t1 e1 he => ?_, fun t1 cs1 he => ?_⟩
                · simp only [List.getElem?_cons_zero, Option.some.injEq, BS.val.injEq] at he
                  obtain ⟨rfl, rfl, rfl⟩ := he
                  have : w' = true := by simpa using hc.2
                  subst this
                  exact ⟨cs, rfl⟩
                · simp at he
              | succ j => simpa using decBs_at h2 j
          · cases hd
        · cases hd
      | _ => simp [decBs] at hd
  | .lit t cs0 :: bs, bks, y, hd, j => by
    cases bks with
    | nil => simp [decBs] at hd
    | cons bk bks =>
      cases bk with
      | box w' t' cs =>
        simp only [decBs] at hd
        cases hc : Nat.beq t t' && sameRefs cs0 cs
        · rw [hc] at hd; cases hd
        · rw [hc] at hd
          simp only [Bool.and_eq_true] at hc
          cases j with
          | zero =>
            refine ⟨fun t1 e1 he => ?_, fun t1 cs1 he => ?_⟩
            · simp at he
            · simp only [List.getElem?_cons_zero, Option.some.injEq, BS.lit.injEq] at he
              obtain ⟨rfl, rfl⟩ := he
              exact sameRefs_kind hc.2
          | succ j => simpa using decBs_at (show decBs bs bks = some y from hd) j
      | _ => simp [decBs] at hd
/-- The world in which a callee is entered. -/
theorem enter_ok (R : Rel C r h io a w) {as : List RV} {us : List Value} {ids : List Nat} {bks : List Blk} {e : Fe} {x : dens (valTys e.ps)} {y : dens (bTys e.bs)}
    (hkind : ∀ q ∈ as, (∃ v, q = .p v) ∨ (∃ k p, q = .ptr k p) ∨ (∃ f a c, q = .clos f a c)) (hlen : as.length = us.length)
    (hus : ∀ (j : Nat) (q : RV) (u : Value), as[j]? = some q → us[j]? = some u → repR w (NN C.Nx io h) io h q u)
    (hb : ∀ (j k : Nat), ids[j]? = some k → ∃ b, bks[j]? = some b ∧ h k = some b) (hbl : bks.length = ids.length) (hn : ids.Nodup)
    (hin : ∀ k ∈ as.flatMap refs1 ++ bks.flatMap refsIn, k ∈ ids)
    (hx : decPs e.ps (as.map (renRV (ren ids))) = some x) (hy : decBs e.bs (bks.map (renBlk (ren ids))) = some y) :
    Enter w (NN C.Nx io h) (gsOf io ids) e.bs (entry e.ps e.bs x y) us ∧ us.length = e.ps.length := by
  obtain ⟨hb1, hb2⟩ := decBs_box hy
  simp only [List.length_map] at hb1
  have hbox : ∀ (j k : Nat), ids[j]? = some k → ∃ wr t cs, bks[j]? = some (.box wr t cs) ∧ h k = some (.box wr t cs) := by
    intro j k hj
    obtain ⟨b, h1, h2⟩ := hb j k hj
    obtain ⟨wr, t, cs, h3⟩ := hb2 (renBlk (ren ids) b) (List.mem_map.2 ⟨b, List.mem_of_getElem? h1, rfl⟩)
    cases b with
    | box wr t cs => exact ⟨wr, t, cs, h1, h2⟩
    | _ => simp [renBlk] at h3
  have hptr : ∀ (j k : Nat), ids[j]? = some k → ∃ g, io k = ptrTo g ∧ (gsOf io ids)[j]? = some g := by
    intro j k hj
    obtain ⟨wr, t, cs, _, h2⟩ := hbox j k hj
    obtain ⟨g, vals, h3, _⟩ := R.heap k _ h2
    exact ⟨g, h3, by simp [gsOf, hj, h3, ptrTo, blkOf]⟩
  have hidx : ∀ k ∈ ids, ids[ids.idxOf k]? = some k := fun k hk => by
    have hlt := List.idxOf_lt_length_of_mem hk
    rw [List.getElem?_eq_getElem hlt, List.getElem_idxOf hlt]
  have hren : ∀ k ∈ ids, ∃ g, (gsOf io ids)[ids.idxOf k]? = some g ∧ io k = ptrTo g ∧ (entry e.ps e.bs x y).hp (ren ids k) ≠ none := by
    intro k hk
    obtain ⟨g, h1, h2⟩ := hptr _ k (hidx k hk)
    refine ⟨g, h2, h1, ?_⟩
    have hlt := List.idxOf_lt_length_of_mem hk
    exact entry_born e.bs 1000 y _ (by omega)
  have hregs := entry_regs (io := handIo (gsOf io ids)) (h := (entry e.ps e.bs x y).hp) (w := w) (N := NN C.Nx io h) e.ps 0 _ x us hx (by simpa using hlen) (fun j q u hj hu => by
    simp only [List.getElem?_map, Option.map_eq_some_iff] at hj
    obtain ⟨q0, h1, rfl⟩ := hj
    refine repR_ren (hkind q0 (List.mem_of_getElem? h1)) (hus j q0 u h1 hu) (fun k hk => hren k (hin k ?_))
    exact List.mem_append_left _ (List.mem_flatMap.2 ⟨q0, List.mem_of_getElem? h1, hk⟩))
  have hget : ∀ (j : Nat) (wr : Bool) (t : TypeId) (cs : List RV), (bks.map (renBlk (ren ids)))[j]? = some (.box wr t cs) → ∃ k cs0, ids[j]? = some k ∧ h k = some (.box wr t cs0) ∧ cs = cs0.map (renRV (ren ids)) ∧ ∀ q ∈ cs0, ∀ k' ∈ refs1 q, k' ∈ ids := by
    intro j wr t cs hj
    simp only [List.getElem?_map, Option.map_eq_some_iff] at hj
    obtain ⟨b, h1, h2⟩ := hj
    have hlt : j < ids.length := by
      have := (List.getElem?_eq_some_iff.1 h1).1
      omega
    obtain ⟨wr', t', cs0, h3, h4⟩ := hbox j ids[j] (List.getElem?_eq_getElem hlt)
    rw [h1] at h3
    injection h3 with h3
    subst h3
    simp only [renBlk, Blk.box.injEq] at h2
    obtain ⟨rfl, rfl, rfl⟩ := h2
    refine ⟨ids[j], cs0, List.getElem?_eq_getElem hlt, h4, rfl, fun q hq k' hk' => hin k' ?_⟩
    exact List.mem_append_right _ (List.mem_flatMap.2 ⟨_, List.mem_of_getElem? h1, List.mem_flatMap.2 ⟨q, hq, hk'⟩⟩)
  have hio : ∀ (j g : Nat), (gsOf io ids)[j]? = some g → handIo (gsOf io ids) (1000 + j) = ptrTo g := by
    intro j g hg
    unfold handIo
    rw [Nat.add_sub_cancel_left]
    simp [List.getD, hg]
  have hwrit : ∀ (j g : Nat) (t : TypeId) (e' : Ty), e.bs[j]? = some (BS.val true t e') → (gsOf io ids)[j]? = some g → ∃ k cs, ids[j]? = some k ∧ h k = some (.box true t cs) ∧ io k = ptrTo g := by
    intro j g t e' hj hg
    obtain ⟨cs, h1⟩ := (decBs_at hy j).1 t e' hj
    obtain ⟨k, cs0, h2, h3, _, _⟩ := hget j _ _ _ h1
    obtain ⟨g', h4, h5⟩ := hptr j k h2
    rw [hg] at h5
    injection h5 with h5
    exact ⟨k, cs0, h2, h3, h5 ▸ h4⟩
  have hone : ∀ (j j' : Nat) (t : TypeId) (e' : Ty) (g : Nat), e.bs[j]? = some (BS.val true t e') → (gsOf io ids)[j]? = some g → (gsOf io ids)[j']? = some g → j = j' := by
    intro j j' t e' g h1 h2 h3
    obtain ⟨k, cs, h4, h5, h6⟩ := hwrit j g t e' h1 h2
    have hko : ownedB io h k g := ⟨.inl ⟨t, cs, h5⟩, by simp [h6, ptrTo, blkOf]⟩
    have hlt : j' < ids.length := by
      have := (List.getElem?_eq_some_iff.1 h3).1
      simpa [gsOf] using this
    obtain ⟨wr, t', cs', h7, h8⟩ := hbox j' ids[j'] (List.getElem?_eq_getElem hlt)
    obtain ⟨g', h9, h10⟩ := hptr j' ids[j'] (List.getElem?_eq_getElem hlt)
    rw [h3] at h10
    injection h10 with h10
    subst h10
    have hkk : k = ids[j'] := by
      cases wr with
      | true => exact R.inj k _ g hko ⟨.inl ⟨t', cs', h8⟩, by simp [h9, ptrTo, blkOf]⟩
      | false =>
        obtain ⟨g2, vals, q1, _, _, q2, _⟩ := R.heap _ _ h8
        rw [h9] at q1
        simp only [ptrTo, Value.pointer.injEq, Option.some.injEq, Addr.mk.injEq, and_true] at q1
        subst q1
        exact absurd ⟨k, hko⟩ (q2 rfl)
    have hj : j < ids.length := (List.getElem?_eq_some_iff.1 h4).1
    rw [List.getElem?_eq_getElem hj, Option.some.injEq] at h4
    exact (List.getElem_inj hn).1 (h4.trans hkk)
  have hfree : ∀ (j g : Nat), (gsOf io ids)[j]? = some g → (∀ t e', e.bs[j]? ≠ some (BS.val true t e')) → ¬ ∃ k', ownedB (handIo (gsOf io ids)) (entry e.ps e.bs x y).hp k' g := by
    rintro j g hg hj ⟨k', hk1, hk2⟩
    have hk1 : ∃ t cs, (entry e.ps e.bs x y).hp k' = some (.box true t cs) := by
      rcases hk1 with h1 | ⟨te, e1, xs, h1⟩
      · exact h1
      · obtain ⟨j1, w1, t1, cs1, _, _, _, h2⟩ := entry_heap e.bs 1000 _ y hy k' _ h1
        rcases h2 with ⟨_, _, _, _, h2, _⟩ | ⟨h2, _⟩ <;> cases h2
    obtain ⟨t, cs, hk1⟩ := hk1
    obtain ⟨j1, w1, t1, cs1, h1, h2, h3, h4⟩ := entry_heap e.bs 1000 _ y hy k' _ hk1
    rcases h4 with ⟨wr, ty, ps, xx, h4, _, _, h5, _⟩ | ⟨h4, _⟩
    · injection h4 with h4 h6
      subst h4
      have hlt : j1 < (gsOf io ids).length := by simp [gsOf]; omega
      have hgj := List.getElem?_eq_getElem hlt
      have h7 := hio j1 _ hgj
      rw [h1, h7] at hk2
      simp only [ptrTo, blkOf, Option.some.injEq] at hk2
      rw [hk2] at hgj
      have := hone j1 j _ _ g h5 hgj hg
      subst this
      exact hj _ _ h5
    · injection h4 with h4; cases h4
  refine ⟨⟨?_, hone, ?_, ?_, fun i => ?_, ?_⟩, (hregs 0).2⟩
  · rintro b (hx' | ⟨k, hk⟩)
    · exact Nat.lt_of_lt_of_le (R.nx b hx') R.keep.size
    · exact R.lt hk
  · simp [gsOf]; omega
  · rintro g ⟨j, t, e', h1, h2⟩
    obtain ⟨k, cs, _, h3, h4⟩ := hwrit j g t e' h1 h2
    exact .inr ⟨k, .inl ⟨t, cs, h3⟩, by simp [h4, ptrTo, blkOf]⟩
  · have := (hregs i).1
    rw [Nat.zero_add] at this
    exact this
  · intro k b hkb
    obtain ⟨j, w', t, cs, h1, h2, h3, h4⟩ := entry_heap e.bs 1000 _ y hy k b hkb
    subst h1
    obtain ⟨k0, cs0, h5, h6, h7, h8⟩ := hget j _ _ _ h3
    obtain ⟨g, h9, h10⟩ := hptr j k0 h5
    obtain ⟨g', vals, q1, q2, q3, q4, q5⟩ := R.heap _ _ h6
    rw [h9] at q1
    simp only [ptrTo, Value.pointer.injEq, Option.some.injEq, Addr.mk.injEq, and_true] at q1
    subst q1
    rcases h4 with ⟨wr, ty, ps, xx, rfl, h11, h12, h13, h14⟩ | ⟨rfl, h13⟩
    · have hps : asPvs cs0 = some ps := asPvs_ren (h7 ▸ h11)
      have hrc : repC w (NN C.Nx io h) ps vals.toList := asPvs_ok hps (by simpa using q3.symm) (fun j' c u hc hu => by
        obtain ⟨v, q6, _, q7⟩ := q5 j' c hc
        rw [Array.getElem?_toList, q6] at hu
        injection hu with hu
        exact hu ▸ q7)
      have hrep := rep_unpack (rep_packAll h12 hrc)
      refine ⟨g, vals, hio j g h10, q2, ?_, ?_, ?_⟩
      · have := repC_len hrep
        simpa using this.symm
      · rintro rfl
        refine hfree j g h10 (fun t1 e1 h => ?_)
        rw [h13] at h
        simp at h
      · intro j' c hc
        have := repC_cells (h := (entry e.ps e.bs x y).hp) (io := handIo (gsOf io ids)) hrep j' c hc
        simpa using this
    · refine ⟨g, vals, hio j g h10, q2, by rw [q3, h7, List.length_map], fun _ => hfree j g h10 (fun t1 e1 h => by rw [h13] at h; simp at h), ?_⟩
      intro j' c hc
      have hkd := (decBs_at hy j).2 t _ h13 c (List.mem_of_getElem? hc)
      rw [h7, List.getElem?_map, Option.map_eq_some_iff] at hc
      obtain ⟨c0, q6, rfl⟩ := hc
      obtain ⟨v, q7, q8, q9⟩ := q5 j' c0 q6
      refine ⟨v, q7, q8, repR_ren ?_ q9 (fun k' hk' => hren k' (h8 c0 (List.mem_of_getElem? q6) k' hk'))⟩
      cases c0 <;> simp [renRV] at hkd ⊢
end
end Go.Proofs.YtieeiiibamkbmaaGreat.Am
