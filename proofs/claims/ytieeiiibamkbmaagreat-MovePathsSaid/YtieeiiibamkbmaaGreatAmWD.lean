/- A state read by slots says what the state said. Conditions: none; these are lemmas. -/
import Derived.Test.YtieeiiibamkbmaaGreatAmWC
namespace Go.Proofs.YtieeiiibamkbmaaGreat.Am
open Go Go.RowKit
set_option linter.unusedVariables false
set_option linter.unusedSimpArgs false

theorem kn_more {S : St} {q : Nat × Nat} {s : Slot} {l : List Slot} (h : q ∈ kn S l) : q ∈ kn S (s :: l) := by
  cases s with
  | reg _ _ => exact h
  | ref _ _ => exact h
  | fn _ _ _ => exact h
  | row t _ _ => simp only [kn]; split <;> simp [h]
  | box _ _ _ _ => simp [kn, h]
  | boxr _ _ _ _ => simp [kn, h]
  | boxm _ _ _ _ _ _ _ =>
    simp only [kn]
    split
    · split <;> simp [h]
    · simp [h]
/-- What the blocks of a state read by slots are. -/
inductive HpIs (S : St) (sl : List Slot) (n : Nat) : Blk → Prop
  | row (te : TypeId) (e : Ty) (xs : List e.den) : Slot.row n te e ∈ sl → ((∃ k, S.get n = .row k ∧ S.hp k = some (.row te e xs) ∧ (k, n) ∈ kn S sl) ∨ (xs = [] ∧ S.get n = .p (.v (.nil e)))) → HpIs S sl n (.row te e xs)
  | box (w : Bool) (t : TypeId) (e : Ty) (x : e.den) (cs : List RV) (ps : List Pv) : Slot.box w n t e ∈ sl → S.hp n = some (.box w t cs) → pvs S cs = some ps → packAll e ps = some x → (n, n) ∈ kn S sl → HpIs S sl n (.box w t ((unpack e x).map (fun p => .p (.v p))))
  | boxr (w : Bool) (t : TypeId) (cs : List RV) : Slot.boxr w n t cs ∈ sl → S.hp n = some (.box w t cs) → sameRefs cs cs = true → (n, n) ∈ kn S sl → HpIs S sl n (.box w t cs)
  | boxm (t : TypeId) (a : Ty) (r : Nat) (te : TypeId) (e b : Ty) (cs : List RV) (ps qs : List Pv) (u : a.den) (v : b.den) : Slot.boxm n t a r te e b ∈ sl → S.hp n = some (.box true t cs) → pvs S (cs.take a.cells) = some ps → packAll a ps = some u →
      pvs S (cs.drop (a.cells + 1)) = some qs → packAll b qs = some v → ((∃ j, cs[a.cells]? = some (.row j) ∧ ∃ xs : List e.den, S.hp j = some (.row te e xs)) ∨ cs[a.cells]? = some (.p (.v (.nil e)))) → (n, n) ∈ kn S sl →
      HpIs S sl n (.box true t ((unpack a u).map (fun p => .p (.v p)) ++ .row r :: (unpack b v).map (fun p => .p (.v p))))
  | boxmr (k : Nat) (t : TypeId) (a : Ty) (te : TypeId) (e b : Ty) (cs : List RV) (xs : List e.den) : Slot.boxm k t a n te e b ∈ sl → S.hp k = some (.box true t cs) →
      ((∃ j, cs[a.cells]? = some (.row j) ∧ S.hp j = some (.row te e xs) ∧ (j, n) ∈ kn S sl) ∨ (xs = [] ∧ cs[a.cells]? = some (.p (.v (.nil e))))) → HpIs S sl n (.row te e xs)
theorem HpIs.more {S : St} {sl : List Slot} {n : Nat} {s : Slot} {b : Blk} (h : HpIs S sl n b) : HpIs S (s :: sl) n b := by
  cases h with
  | row te e xs h1 h2 => exact .row te e xs (by simp [h1]) (h2.imp (fun ⟨k, h3, h4, h5⟩ => ⟨k, h3, h4, kn_more h5⟩) id)
  | box w t e x cs ps h1 h2 h3 h4 h5 => exact .box w t e x cs ps (by simp [h1]) h2 h3 h4 (kn_more h5)
  | boxr w t cs h1 h2 h3 h4 => exact .boxr w t cs (by simp [h1]) h2 h3 (kn_more h4)
  | boxm t a r te e b cs ps qs u v h1 h2 h3 h4 h5 h6 h7 h8 => exact .boxm t a r te e b cs ps qs u v (by simp [h1]) h2 h3 h4 h5 h6 h7 (kn_more h8)
  | boxmr k t a te e b cs xs h1 h2 h3 => exact .boxmr k t a te e b cs xs (by simp [h1]) h2 (h3.imp (fun ⟨j, h4, h5, h6⟩ => ⟨j, h4, h5, kn_more h6⟩) id)
theorem encS_hp {S : St} : ∀ {sl : List Slot} {y : sden sl}, decS1 S sl = some y → ∀ n b, (encS sl y).hp n = some b → HpIs S sl n b
  | [], y, _, n, b, h => by simp [encS, St.hp, look] at h
  | .reg t0 e :: l, y, hd, n, b, h => by
    simp only [decS1] at hd
    split at hd
    · split at hd
      · rename_i x z hx hz
        injection hd with hd
        subst hd
        exact (encS_hp hz n b h).more
      · cases hd
    · cases hd
  | .ref t0 r :: l, y, hd, n, b, h => by
    simp only [decS1] at hd
    cases hs : sameRef r (S.get t0) with
    | false => rw [hs] at hd; cases hd
    | true =>
      rw [hs, cond_true] at hd
      exact (encS_hp hd n b h).more
  | .row t0 te e :: l, y, hd, n, b, h => by
    simp only [decS1] at hd
    split at hd
    · rename_i k hk
      split at hd
      · rename_i te' e' xs hxs
        split at hd
        · rename_i x z hx hz
          cases hb : Nat.beq te te' with
          | false => rw [hb] at hd; cases hd
          | true =>
            rw [hb, cond_true] at hd
            injection hd with hd
            subst hd
            have hte := Nat.eq_of_beq_eq_true hb
            subst hte
            obtain ⟨rfl, hxe⟩ := cast_slice hx
            have hxe := eq_of_heq hxe
            subst hxe
            by_cases ht : t0 = n
            · subst ht
              simp only [encS, St.set, St.put, St.hp, look, Nat.beq_refl, cond_true, Option.some.injEq] at h
              subst h
              exact .row te e' xs (by simp) (.inl ⟨k, hk, hxs, by simp [kn, hk]⟩)
            · have h' : (encS l z).hp n = some b := by simpa [encS, St.set, St.put, St.hp, look, beq_ne ht] using h
              exact (encS_hp hz n b h').more
        · cases hd
      · cases hd
    · rename_i e' hk
      split at hd
      · rename_i z hz
        cases hb : decide (e = e') with
        | false => rw [hb] at hd; cases hd
        | true =>
          rw [hb, cond_true] at hd
          injection hd with hd
          subst hd
          have he := of_decide_eq_true hb
          subst he
          by_cases ht : t0 = n
          · subst ht
            simp only [encS, St.set, St.put, St.hp, look, Nat.beq_refl, cond_true, Option.some.injEq] at h
            subst h
            exact .row te e [] (by simp) (.inr ⟨rfl, hk⟩)
          · have h' : (encS l z).hp n = some b := by simpa [encS, St.set, St.put, St.hp, look, beq_ne ht] using h
            exact (encS_hp hz n b h').more
      · cases hd
    · cases hd
  | .box w k t0 e :: l, y, hd, n, b, h => by
    simp only [decS1] at hd
    split at hd
    · rename_i w' t' cs hcs
      split at hd
      · rename_i ps hps
        split at hd
        · rename_i x z hx hz
          cases hb : Nat.beq t0 t' && w == w' with
          | false => rw [hb] at hd; cases hd
          | true =>
            rw [hb, cond_true] at hd
            injection hd with hd
            subst hd
            simp only [Bool.and_eq_true, beq_iff_eq] at hb
            have ht := Nat.eq_of_beq_eq_true hb.1
            have hw := hb.2
            subst ht hw
            by_cases hn : k = n
            · subst hn
              simp only [encS, St.put, St.hp, look, Nat.beq_refl, cond_true, Option.some.injEq] at h
              subst h
              exact .box w t0 e x cs ps (by simp) hcs hps hx (by simp [kn])
            · have h' : (encS l z).hp n = some b := by simpa [encS, St.put, St.hp, look, beq_ne hn] using h
              exact (encS_hp hz n b h').more
        · cases hd
      · cases hd
    · cases hd
  | .boxr w k t0 cs :: l, y, hd, n, b, h => by
    simp only [decS1] at hd
    split at hd
    · rename_i w' t' cs' hcs
      cases hb : Nat.beq t0 t' && w == w' && sameRefs cs cs' with
      | false => rw [hb] at hd; cases hd
      | true =>
        rw [hb, cond_true] at hd
        simp only [Bool.and_eq_true, beq_iff_eq] at hb
        have ht := Nat.eq_of_beq_eq_true hb.1.1
        have hw := hb.1.2
        have hc := sameRefs_eq hb.2
        subst ht hw hc
        by_cases hn : k = n
        · subst hn
          simp only [encS, St.put, St.hp, look, Nat.beq_refl, cond_true, Option.some.injEq] at h
          subst h
          exact .boxr w t0 cs (by simp) hcs hb.2 (by simp [kn])
        · have h' : (encS l y).hp n = some b := by simpa [encS, St.put, St.hp, look, beq_ne hn] using h
          exact (encS_hp hd n b h').more
    · cases hd
  | .boxm k t0 a r te e b0 :: l, y, hd, n, b, h => by
    simp only [decS1] at hd
    split at hd
    · rename_i t' cs hcs
      split at hd
      · rename_i ps xs qs z hps hxs hqs hz
        split at hd
        · rename_i u v hu hv
          cases hb : Nat.beq t0 t' with
          | false => rw [hb] at hd; cases hd
          | true =>
            rw [hb, cond_true] at hd
            injection hd with hd
            subst hd
            have ht := Nat.eq_of_beq_eq_true hb
            subst ht
            have hmid : (∃ j, cs[a.cells]? = some (.row j) ∧ S.hp j = some (.row te e xs)) ∨ (xs = [] ∧ cs[a.cells]? = some (.p (.v (.nil e)))) := by
              unfold decS1.rowAt at hxs
              split at hxs
              · rename_i j hj
                split at hxs
                · rename_i te' e' ys hys
                  split at hxs
                  · rename_i x hx
                    cases hb : Nat.beq te te' with
                    | false => rw [hb] at hxs; cases hxs
                    | true =>
                      rw [hb, cond_true] at hxs
                      injection hxs with hxs
                      subst hxs
                      have hte := Nat.eq_of_beq_eq_true hb
                      subst hte
                      obtain ⟨rfl, hxe⟩ := cast_slice hx
                      have hxe := eq_of_heq hxe
                      subst hxe
                      exact .inl ⟨j, hj, hys⟩
                  · cases hxs
                · cases hxs
              · rename_i e' hj
                cases hb : decide (e = e') with
                | false => rw [hb] at hxs; cases hxs
                | true =>
                  rw [hb, cond_true] at hxs
                  injection hxs with hxs
                  have he := of_decide_eq_true hb
                  subst he
                  exact .inr ⟨hxs.symm, hj⟩
              · cases hxs
            have hknn : (k, k) ∈ kn S (.boxm k t0 a r te e b0 :: l) := by
              simp only [kn]
              split
              · split <;> simp
              · simp
            by_cases hr : r = n
            · subst hr
              simp only [encS, St.put, St.hp, look, Nat.beq_refl, cond_true, Option.some.injEq] at h
              subst h
              refine .boxmr k t0 a te e b0 cs xs (by simp) hcs (hmid.imp (fun ⟨j, h1, h2⟩ => ⟨j, h1, h2, ?_⟩) id)
              simp [kn, hcs, h1]
            · by_cases hn : k = n
              · subst hn
                simp only [encS, St.put, St.hp, look, Nat.beq_refl, beq_ne hr, cond_true, cond_false, Option.some.injEq] at h
                subst h
                exact .boxm t0 a r te e b0 cs ps qs u v (by simp) hcs hps hu hqs hv (hmid.imp (fun ⟨j, h1, h2⟩ => ⟨j, h1, xs, h2⟩) (fun h => h.2)) hknn
              · have h' : (encS l z).hp n = some b := by simpa [encS, St.put, St.hp, look, beq_ne hn, beq_ne hr] using h
                exact (encS_hp hz n b h').more
        · cases hd
      · cases hd
    · cases hd
  | .fn t0 f e :: l, y, hd, n, b, h => by
    simp only [decS1] at hd
    split at hd
    · split at hd
      · rename_i x z hx hz
        cases hb : Nat.beq f _ with
        | false => rw [hb] at hd; cases hd
        | true =>
          rw [hb, cond_true] at hd
          injection hd with hd
          subst hd
          exact (encS_hp hz n b h).more
      · cases hd
    · cases hd
/-- What slots read as pure values. -/
def purL (S : St) : List Slot → List RV
  | [] => []
  | .reg t _ :: l => S.get t :: purL S l
  | .box _ k _ _ :: l => (match S.hp k with
    | some (.box _ _ cs) => cs
    | _ => []) ++ purL S l
  | .boxm k _ a _ _ _ _ :: l => (match S.hp k with
    | some (.box _ _ cs) => cs.take a.cells ++ cs.drop (a.cells + 1)
    | _ => []) ++ purL S l
  | _ :: l => purL S l
theorem purL_rows {S : St} {k : Nat} : ∀ {l : List Slot}, RV.row k ∈ purL S l → k ∈ reads S l ++ boxRows S l
  | [], h => by simp [purL] at h
  | .ref _ _ :: l, h => purL_rows (l := l) h
  | .fn _ _ _ :: l, h => purL_rows (l := l) h
  | .row _ _ _ :: l, h => purL_rows (l := l) h
  | .boxr _ _ _ _ :: l, h => purL_rows (l := l) h
  | .reg t _ :: l, h => by
    simp only [purL, List.mem_cons] at h
    simp only [reads, boxRows]
    rcases h with h | h
    · rw [← h]; simp
    · have := purL_rows (l := l) h
      split
      · simp only [List.cons_append, List.mem_cons]; exact .inr this
      · exact this
  | .box _ k0 _ _ :: l, h => by
    simp only [purL, List.mem_append] at h
    simp only [reads, boxRows]
    rcases h with h | h
    · split at h
      · rename_i cs hcs
        have : k ∈ cs.flatMap heapOf := List.mem_flatMap.2 ⟨_, h, by simp [heapOf]⟩
        rw [List.mem_append]
        right
        rw [hcs]
        exact List.mem_append_left _ this
      · simp at h
    · have := purL_rows (l := l) h
      rw [List.mem_append] at this ⊢
      refine this.imp id (fun h => ?_)
      split <;> simp [h]
  | .boxm k0 _ a _ _ _ _ :: l, h => by
    simp only [purL, List.mem_append] at h
    simp only [reads, boxRows]
    rcases h with h | h
    · split at h
      · rename_i cs hcs
        have : k ∈ (cs.take a.cells).flatMap heapOf ++ (cs.drop (a.cells + 1)).flatMap heapOf := by
          rw [List.mem_append] at h ⊢
          exact h.imp (fun h => List.mem_flatMap.2 ⟨_, h, by simp [heapOf]⟩) (fun h => List.mem_flatMap.2 ⟨_, h, by simp [heapOf]⟩)
        rw [List.mem_append]
        right
        rw [hcs]
        exact List.mem_append_left _ this
      · simp at h
    · have := purL_rows (l := l) h
      rw [List.mem_append] at this ⊢
      refine this.imp id (fun h => ?_)
      split
      · exact List.mem_append_right _ h
      · exact h
theorem purL_reg {S : St} {t : Nat} {e : Ty} : ∀ {l : List Slot}, Slot.reg t e ∈ l → S.get t ∈ purL S l := by
  intro l
  induction l with
  | nil => simp
  | cons s l ih =>
    intro h
    rcases List.mem_cons.1 h with rfl | h
    · simp [purL]
    · have := ih h
      cases s <;> simp [purL, this]
theorem purL_box {S : St} {w w' : Bool} {k : Nat} {t t' : TypeId} {e : Ty} {cs : List RV} (hk : S.hp k = some (.box w' t' cs)) : ∀ {l : List Slot}, Slot.box w k t e ∈ l → ∀ c ∈ cs, c ∈ purL S l := by
  intro l
  induction l with
  | nil => simp
  | cons s l ih =>
    intro h c hc
    rcases List.mem_cons.1 h with rfl | h
    · simp [purL, hk, hc]
    · have := ih h c hc
      cases s <;> simp [purL, this]
theorem purL_boxm {S : St} {w' : Bool} {k r : Nat} {t t' te : TypeId} {a e b : Ty} {cs : List RV} (hk : S.hp k = some (.box w' t' cs)) : ∀ {l : List Slot}, Slot.boxm k t a r te e b ∈ l → ∀ c ∈ cs.take a.cells ++ cs.drop (a.cells + 1), c ∈ purL S l := by
  intro l
  induction l with
  | nil => simp
  | cons s l ih =>
    intro h c hc
    rcases List.mem_cons.1 h with rfl | h
    · simp only [purL, hk, List.mem_append]
      rw [List.mem_append] at hc
      exact .inl hc
    · have := ih h c hc
      cases s <;> simp [purL, this]
end Go.Proofs.YtieeiiibamkbmaaGreat.Am
