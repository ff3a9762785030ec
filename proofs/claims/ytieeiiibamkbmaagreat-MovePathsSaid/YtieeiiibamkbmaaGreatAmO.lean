/- A call of the abstract machine: what is handed over. Conditions: none; these are lemmas. -/
import Derived.Test.YtieeiiibamkbmaaGreatAmN
namespace Go.Proofs.YtieeiiibamkbmaaGreat.Am
open Go Go.RowKit
set_option linter.unusedVariables false
set_option linter.unusedSimpArgs false

section
variable {P : Program} {w : World} {N : Nat → Prop} {io : Nat → Value} {h h' : Hp} {ids gs : List Nat}
theorem handIo_ren {k g : Nat} (hg : gs[ids.idxOf k]? = some g) : handIo gs (ren ids k) = ptrTo g := by
  unfold handIo ren
  rw [Nat.add_sub_cancel_left]
  simp [List.getD, hg]
/-- A value that is handed over, under its new names. -/
theorem repR_ren {r : RV} {u : Value} (hr : (∃ x, r = .p x) ∨ (∃ k q, r = .ptr k q) ∨ (∃ f a c, r = .clos f a c)) (hu : repR w N io h r u)
    (hk : ∀ k ∈ refs1 r, ∃ g, gs[ids.idxOf k]? = some g ∧ io k = ptrTo g ∧ h' (ren ids k) ≠ none) : repR w N (handIo gs) h' (renRV (ren ids) r) u := by
  rcases hr with ⟨x, rfl⟩ | ⟨k, q, rfl⟩ | ⟨f, a, c, rfl⟩
  · exact hu
  · obtain ⟨g, h1, h2, h3⟩ := hk k (by simp [refs1])
    obtain ⟨_, g', h4, h5⟩ := hu
    have : g = g' := by
      rw [h2] at h4
      simp only [ptrTo, Value.pointer.injEq, Option.some.injEq, Addr.mk.injEq, and_true] at h4
      exact h4
    subst this
    exact ⟨h3, g, handIo_ren h1, h5⟩
  · obtain ⟨as, cs, h1, h2, h3, h4⟩ := hu
    refine ⟨as, cs, h1, h2, by simpa using h3, fun j k hj => ?_⟩
    simp only [List.getElem?_map, Option.map_eq_some_iff] at hj
    obtain ⟨k', h5, rfl⟩ := hj
    obtain ⟨g, h6, h7, h8⟩ := hk k' (by simp only [refs1]; exact List.mem_of_getElem? h5)
    obtain ⟨_, g', h9, h10⟩ := h4 j k' h5
    have : g = g' := by
      rw [h7] at h9
      simp only [ptrTo, Value.pointer.injEq, Option.some.injEq, Addr.mk.injEq, and_true] at h9
      exact h9
    subst this
    exact ⟨h8, g, handIo_ren h6, h10⟩
theorem sameRef_eq {a b : RV} (hs : sameRef a b = true) : a = b := by
  unfold sameRef at hs
  split at hs
  · simp only [Bool.and_eq_true] at hs
    rw [Nat.eq_of_beq_eq_true hs.1, Nat.eq_of_beq_eq_true hs.2]
  · simp only [Bool.and_eq_true, beq_iff_eq] at hs
    rw [Nat.eq_of_beq_eq_true hs.1, hs.2]
  · cases hs
theorem sameRefs_eq : ∀ {l m : List RV}, sameRefs l m = true → l = m
  | [], [], _ => rfl
  | a :: l, b :: m, hs => by
    simp only [sameRefs, Bool.and_eq_true] at hs
    rw [sameRef_eq hs.1, sameRefs_eq hs.2]
  | [], _ :: _, hs => by simp [sameRefs] at hs
  | _ :: _, [], hs => by simp [sameRefs] at hs
/-- The registers at entry. -/
theorem entry_regs {io : Nat → Value} {h : Hp} : ∀ (ps : List PS) (s : Nat) (as : List RV) (x : dens (valTys ps)) (us : List Value), decPs ps as = some x → as.length = us.length →
    (∀ (j : Nat) (r : RV) (u : Value), as[j]? = some r → us[j]? = some u → repR w N io h r u) → ∀ i, repR w N io h (look .unk (entryRegs ps s x) (s + i)) (us.getD i undef) ∧ (us.length = ps.length)
  | [], s, as, x, us, hd, hl, hr, i => by
    cases as with
    | nil => exact ⟨trivial, by simpa using hl.symm⟩
    | cons _ _ => simp [decPs] at hd
  | .val t :: ps, s, as, x, us, hd, hl, hr, i => by
    cases as with
    | nil => simp [decPs] at hd
    | cons r as =>
      cases us with
      | nil => simp at hl
      | cons u us =>
        cases r with
        | p v =>
          simp only [decPs] at hd
          split at hd
          · rename_i a b h1 h2
            injection hd with hd
            subst hd
            have ih := entry_regs ps (s + 1) as b us h2 (by simpa using hl) (fun j r u hj hu => hr (j + 1) r u (by simpa using hj) (by simpa using hu))
            cases i with
            | zero =>
              refine ⟨?_, by simp [(ih 0).2]⟩
              have h3 : repV1 w N v u := hr 0 _ u rfl rfl
              simp only [entryRegs, look, Nat.add_zero, Nat.beq_refl, cond_true]
              exact (rep_to h1 h3).1
            | succ i =>
              refine ⟨?_, by simp [(ih 0).2]⟩
              have := (ih i).1
              have hb : Nat.beq s (s + (i + 1)) = false := beq_ne (by omega)
              simp only [entryRegs, look, hb, cond_false]
              rw [show s + (i + 1) = s + 1 + i by omega]
              simpa using this
          · cases hd
        | _ => simp [decPs] at hd
  | .lit r0 :: ps, s, as, x, us, hd, hl, hr, i => by
    cases as with
    | nil => simp [decPs] at hd
    | cons r as =>
      cases us with
      | nil => simp at hl
      | cons u us =>
        simp only [decPs] at hd
        cases hs : sameRef r0 r
        · rw [hs] at hd
          cases hd
        · rw [hs] at hd
          replace hd : decPs ps as = some x := hd
          have he := sameRef_eq hs
          subst he
          have ih := entry_regs ps (s + 1) as x us hd (by simpa using hl) (fun j r u hj hu => hr (j + 1) r u (by simpa using hj) (by simpa using hu))
          cases i with
          | zero =>
            refine ⟨?_, by simp [(ih 0).2]⟩
            simp only [entryRegs, look, Nat.add_zero, Nat.beq_refl, cond_true]
            exact hr 0 _ u rfl rfl
          | succ i =>
            refine ⟨?_, by simp [(ih 0).2]⟩
            have := (ih i).1
            have hb : Nat.beq s (s + (i + 1)) = false := beq_ne (by omega)
            simp only [entryRegs, look, hb, cond_false]
            rw [show s + (i + 1) = s + 1 + i by omega]
            simpa using this
/-- The blocks at entry. -/
theorem entry_heap : ∀ (bs : List BS) (s : Nat) (bks : List Blk) (y : dens (bTys bs)), decBs bs bks = some y → ∀ (k : Nat) (b : Blk), look none (entryHeap bs s y) k = some b →
    ∃ j w' t cs, k = s + j ∧ j < bs.length ∧ bks[j]? = some (.box w' t cs) ∧
      ((∃ wr ty ps x, b = .box wr t ((unpack ty x).map (fun p => .p (.v p))) ∧ asPvs cs = some ps ∧ packAll ty ps = some x ∧ bs[j]? = some (.val wr t ty) ∧ (w' || !wr) = true) ∨ (b = .box false t cs ∧ bs[j]? = some (.lit t cs)))
  | [], s, bks, y, hd, k, b, hb => by simp [entryHeap, look] at hb
  | .val wr t ty :: bs, s, bks, y, hd, k, b, hb => by
    cases bks with
    | nil => simp [decBs] at hd
    | cons bk bks =>
      cases bk with
      | box w' t' cs =>
        simp only [decBs] at hd
        split at hd
        · rename_i ps hps
          split at hd
          · rename_i a b1 h1 h2
            cases hc : Nat.beq t t' && (w' || !wr)
            · rw [hc] at hd; cases hd
            · rw [hc] at hd
              replace hd := Option.some.inj hd
              subst hd
              simp only [Bool.and_eq_true] at hc
              have ht := Nat.eq_of_beq_eq_true hc.1
              subst ht
              simp only [entryHeap, look] at hb
              cases hk : Nat.beq s k
              · rw [hk] at hb
                obtain ⟨j, w2, t2, cs2, g1, g2, g3, g4⟩ := entry_heap bs (s + 1) bks b1 h2 k b hb
                exact ⟨j + 1, w2, t2, cs2, by omega, by simp; omega, by simpa using g3, by simpa using g4⟩
              · rw [hk] at hb
                replace hb := Option.some.inj hb
                exact ⟨0, w', t, cs, by have := Nat.eq_of_beq_eq_true hk; omega, by simp, rfl, .inl ⟨wr, ty, ps, a, hb.symm, hps, h1, rfl, hc.2⟩⟩
          · cases hd
        · cases hd
      | _ => simp [decBs] at hd
  | .lit t cs0 :: bs, s, bks, y, hd, k, b, hb => by
    cases bks with
    | nil => simp [decBs] at hd
    | cons bk bks =>
      cases bk with
      | box w' t' cs =>
        simp only [decBs] at hd
        cases hc : Nat.beq t t' && sameRefs cs0 cs
        · rw [hc] at hd; cases hd
        · rw [hc] at hd
          replace hd : decBs bs bks = some y := hd
          simp only [Bool.and_eq_true] at hc
          have ht := Nat.eq_of_beq_eq_true hc.1
          have hcs := sameRefs_eq hc.2
          subst ht hcs
          simp only [entryHeap, look] at hb
          cases hk : Nat.beq s k
          · rw [hk] at hb
            obtain ⟨j, w2, t2, cs2, g1, g2, g3, g4⟩ := entry_heap bs (s + 1) bks y hd k b hb
            exact ⟨j + 1, w2, t2, cs2, by omega, by simp; omega, by simpa using g3, by simpa using g4⟩
          · rw [hk] at hb
            replace hb := Option.some.inj hb
            exact ⟨0, w', t, cs0, by have := Nat.eq_of_beq_eq_true hk; omega, by simp, rfl, .inr ⟨hb.symm, rfl⟩⟩
      | _ => simp [decBs] at hd
theorem entry_born : ∀ (bs : List BS) (s : Nat) (y : dens (bTys bs)) (j : Nat), j < bs.length → look none (entryHeap bs s y) (s + j) ≠ none
  | [], s, y, j, hj => by simp at hj
  | .val wr t ty :: bs, s, y, j, hj => by
    cases j with
    | zero => simp [entryHeap, look]
    | succ j =>
      have hb : Nat.beq s (s + (j + 1)) = false := beq_ne (by omega)
      have := entry_born bs (s + 1) y.2 j (by simpa using hj)
      rw [show s + 1 + j = s + (j + 1) by omega] at this
      simpa [entryHeap, look, hb] using this
  | .lit t cs :: bs, s, y, j, hj => by
    cases j with
    | zero => simp [entryHeap, look]
    | succ j =>
      have hb : Nat.beq s (s + (j + 1)) = false := beq_ne (by omega)
      have := entry_born bs (s + 1) y j (by simpa using hj)
      rw [show s + 1 + j = s + (j + 1) by omega] at this
      simpa [entryHeap, look, hb] using this
theorem addNew_nodup : ∀ (m l : List Nat), l.Nodup → (addNew l m).Nodup
  | [], l, hl => hl
  | k :: m, l, hl => by
    simp only [addNew]
    cases hc : l.contains k
    · simp only [cond_false]
      refine addNew_nodup m _ ?_
      rw [List.nodup_append]
      refine ⟨hl, by simp, fun a ha b hb => ?_⟩
      simp only [List.mem_singleton] at hb
      subst hb
      intro e
      subst e
      have : l.contains a = true := by simpa using ha
      rw [hc] at this; cases this
    · simp only [cond_true]
      exact addNew_nodup m l hl
theorem addNew_sub : ∀ (m l : List Nat) (k : Nat), k ∈ l → k ∈ addNew l m
  | [], l, k, hk => hk
  | j :: m, l, k, hk => by
    simp only [addNew]
    cases hc : l.contains j
    · exact addNew_sub m _ k (by simp [hk])
    · exact addNew_sub m l k hk
theorem reach_nodup {S : St} : ∀ (n : Nat) (l : List Nat), l.Nodup → (reach S n l).Nodup
  | 0, l, hl => hl
  | n + 1, l, hl => reach_nodup n _ (addNew_nodup _ _ hl)
end
end Go.Proofs.YtieeiiibamkbmaaGreat.Am
