/- How a step keeps what a state of the abstract machine says. Conditions: none; these are the laws of the relation. -/
import Derived.Test.YtieeiiibamkbmaaGreatAmD
namespace Go.Proofs.YtieeiiibamkbmaaGreat.Am
open Go Go.RowKit
set_option linter.unusedVariables false

theorem Keep.refl (G : Nat → Prop) (w : World) : Keep G w w := ⟨rfl, rfl, rfl, Nat.le_refl _, fun _ _ _ => rfl⟩
theorem Keep.trans {G : Nat → Prop} {a b c : World} (h : Keep G a b) (k : Keep (fun g => G g ∨ a.heap.size ≤ g) b c) : Keep G a c :=
  ⟨k.os.trans h.os, k.tape.trans h.tape, k.output.trans h.output, Nat.le_trans h.size k.size, fun i hi hg => (k.block i (Nat.lt_of_lt_of_le hi h.size) (fun hx => hx.elim hg (fun h => by omega))).trans (h.block i hi hg)⟩
theorem Keep.mono {G G' : Nat → Prop} {a b : World} (h : Keep G a b) (hg : ∀ g, g < a.heap.size → G g → G' g) : Keep G' a b :=
  ⟨h.os, h.tape, h.output, h.size, fun i hi hn => h.block i hi (fun hx => hn (hg i hi hx))⟩
/-- From one state to another: nothing that is relied on is lost. -/
structure Moves (Nx : Nat → Prop) (io : Nat → Value) (h : Hp) (w : World) (io1 : Nat → Value) (h1 : Hp) (w1 : World) : Prop where
  same : ∀ b, b < w.heap.size → (¬ ∃ k, ownedB io h k b) → b < w1.heap.size ∧ w1.heap[b]? = w.heap[b]? ∧ ¬ ∃ k, ownedB io1 h1 k b
  born : ∀ k, h k ≠ none → h1 k ≠ none ∧ io1 k = io k
  dead : ∀ k, h k = some .dead → h1 k = some .dead
  rows : ∀ k te e xs, h1 k = some (.row te e xs) → h k ≠ none → ∃ ys : List e.den, h k = some (.row te e ys) ∧ xs.length = ys.length
section
variable {Nx : Nat → Prop} {io io1 : Nat → Value} {h h1 : Hp} {w w1 : World}
theorem Moves.stays (m : Moves Nx io h w io1 h1 w1) : Stays w w1 (NN Nx io h) (NN Nx io1 h1) := by
  intro b hb hn
  obtain ⟨h2, h3, h4⟩ := m.same b hb (fun hx => hn (.inr hx))
  exact ⟨h2, h3, fun hx => hx.elim (fun hx => hn (.inl hx)) h4⟩
theorem repR_step (m : Moves Nx io h w io1 h1 w1) {r : RV} {u : Value} (hr : repR w (NN Nx io h) io h r u) : repR w1 (NN Nx io1 h1) io1 h1 r u := by
  cases r with
  | p x => exact repV1_step m.stays hr
  | tup xs => obtain ⟨us, e, hv⟩ := hr; exact ⟨us, e, repVs_step m.stays hv⟩
  | ptr k off =>
    obtain ⟨hk, g, hg, e⟩ := hr
    exact ⟨(m.born k hk).1, g, (m.born k hk).2.trans hg, e⟩
  | cel p off =>
    obtain ⟨b, o, e, hb, hs, es, h2, h3⟩ := hr
    obtain ⟨h4, h5, h6⟩ := m.stays b hs hb
    exact ⟨b, o, e, h6, h4, es, rep_step m.stays h2, fun j c hc => (World.cell?_of_block (w := w) h5).trans (h3 j c hc)⟩
  | row k =>
    obtain ⟨hk, hu⟩ := hr
    refine ⟨(m.born k hk).1, fun hn => ?_⟩
    rw [(m.born k hk).2]
    exact hu (fun hd => hn (m.dead k hd))
  | mel k i off =>
    obtain ⟨hk, hu⟩ := hr
    refine ⟨(m.born k hk).1, fun te e xs hx => ?_⟩
    obtain ⟨ys, hy, hl⟩ := m.rows k te e xs hx hk
    obtain ⟨g, n, c, h2, h3, h4⟩ := hu te e ys hy
    exact ⟨g, n, c, (m.born k hk).2.trans h2, hl ▸ h3, h4⟩
  | clos f first cap =>
    obtain ⟨a, c, e, hv, hl, hc⟩ := hr
    refine ⟨a, c, e, repVs_step m.stays hv, hl, fun j k hj => ?_⟩
    obtain ⟨hk, g, hg, hcj⟩ := hc j k hj
    exact ⟨(m.born k hk).1, g, (m.born k hk).2.trans hg, hcj⟩
  | und => exact hr
  | unk => trivial
theorem ownsRow_same {e : TypeId} {s n : Nat} {v : Value} {cs : List Value} (ho : w.ownsRow 0 e s v n cs) (hb : ∀ g, blkOf v = some g → w1.heap[g]? = w.heap[g]?) : w1.ownsRow 0 e s v n cs := by
  refine ⟨ho.1, ?_⟩
  rcases ho.2 with h2 | ⟨g, cap, cur, rfl, h3, h4, h5⟩
  · exact .inl h2
  · exact .inr ⟨g, cap, cur, rfl, h3, (hb g rfl).trans h4, h5⟩
/-- A block that is not written says what it said. -/
theorem own_step (m : Moves Nx io h w io1 h1 w1) {k : Nat} {b : Blk} (hk : h k = some b) (ho : own w (NN Nx io h) io h k b) (hb : ∀ g, ownedB io h k g → w1.heap[g]? = w.heap[g]?) : own w1 (NN Nx io1 h1) io1 h1 k b := by
  have hio := (m.born k (by simp [hk])).2
  cases b with
  | box wr t cs =>
    obtain ⟨g, vals, h2, h3, h4, h5, h6⟩ := ho
    have hlt : g < w.heap.size := (Array.getElem?_eq_some_iff.1 h3).1
    have hsame : w1.heap[g]? = w.heap[g]? := by
      cases wr with
      | true => exact hb g ⟨.inl ⟨t, cs, hk⟩, by simp [h2, ptrTo, blkOf]⟩
      | false => exact (m.same g hlt (h5 rfl)).2.1
    refine ⟨g, vals, hio.trans h2, hsame.trans h3, h4, fun hw => (m.same g hlt (h5 hw)).2.2, fun j c hc => ?_⟩
    obtain ⟨v, h7, h8, h9⟩ := h6 j c hc
    exact ⟨v, h7, h8, repR_step m h9⟩
  | row te e xs =>
    obtain ⟨cs, h2, h3, h4⟩ := ho
    refine ⟨cs, ?_, h3, fun i x hx => ?_⟩
    · rw [hio]
      exact ownsRow_same h2 (fun g hg => hb g ⟨.inr ⟨te, e, xs, hk⟩, hg⟩)
    · obtain ⟨es, h5, h6⟩ := h4 i x hx
      exact ⟨es, rep_step m.stays h5, h6⟩
  | sealed e xs =>
    show rep _ _ _ _ _
    rw [hio]
    exact rep_step m.stays ho
  | dead => trivial
end
theorem getD_put {a : Act} {d : Option Tmp} {u : Value} {t : Nat} (hd : ∀ t, d = some t → t < a.tmps.size) : (a.put d u).tmps.getD t undef = if d = some t then u else a.tmps.getD t undef := by
  cases d with
  | none => simp [Act.put]
  | some d =>
    by_cases e : d = t
    · subst e
      have := hd d rfl
      simp [Act.put, this]
    · simp [Act.put, e, Array.getElem?_setIfInBounds_ne e]
section
variable {C : Seat} {r : Nat → RV} {h h1 : Hp} {io io1 : Nat → Value} {a : Act} {w w1 : World}
/-- The general step. -/
theorem Rel.upd (R : Rel C r h io a w) (d : Option Tmp) (v : RV) (u : Value) (hM : Moves C.Nx io h w io1 h1 w1) (hk : Keep C.G C.w0 w1)
    (hio : ∀ j g, C.gs[j]? = some g → io1 (1000 + j) = ptrTo g)
    (hown : ∀ k b, h1 k = some b → own w1 (NN C.Nx io1 h1) io1 h1 k b ∨ (h k = some b ∧ ∀ g, ownedB io h k g → w1.heap[g]? = w.heap[g]?))
    (hinj : ∀ k k' g, ownedB io1 h1 k g → ownedB io1 h1 k' g → k = k')
    (hmine : ∀ k g, ownedB io1 h1 k g → C.w0.heap.size ≤ g ∨ (C.G g ∧ ∃ t cs, h1 k = some (.box true t cs)))
    (hv : d ≠ none → repR w1 (NN C.Nx io1 h1) io1 h1 v u) (hd : ∀ t, d = some t → t < C.nt) : Rel C (setR r d v) h1 io1 (a.put d u) w1 := by
  refine ⟨R.small, ?_, ?_, hk, R.nx, fun t => ?_, fun k b hb => ?_, hinj, hmine, hio⟩
  · cases d <;> simp [Act.put, R.size]
  · cases d <;> simp [Act.put, R.defers]
  · rw [getD_put (fun t ht => R.size ▸ hd t ht)]
    unfold setR
    split
    · rename_i e
      exact hv (by simp [e])
    · exact repR_step hM (R.regs t)
  · rcases hown k b hb with ho | ⟨hk', hg⟩
    · exact ho
    · exact own_step hM hk' (R.heap k b hk') hg
theorem Moves.of_same {Nx : Nat → Prop} (hN : ∀ b, b < w.heap.size → (¬ ∃ k, ownedB io h k b) → b < w1.heap.size ∧ w1.heap[b]? = w.heap[b]? ∧ ¬ ∃ k, ownedB io h k b) : Moves Nx io h w io h w1 := ⟨hN, fun _ hk => ⟨hk, rfl⟩, fun _ hd => hd, fun _ _ _ xs hx _ => ⟨xs, hx, rfl⟩⟩
theorem Stays.refl (w : World) (N : Nat → Prop) : Stays w w N N := fun _ hb hn => ⟨hb, rfl, hn⟩
/-- Only the register is new. -/
theorem Rel.pure (R : Rel C r h io a w) (d : Option Tmp) (v : RV) (u : Value) (hv : d ≠ none → repR w (NN C.Nx io h) io h v u) (hd : ∀ t, d = some t → t < C.nt) : Rel C (setR r d v) h io (a.put d u) w :=
  R.upd d v u (Moves.of_same (fun b hb hn => ⟨hb, rfl, hn⟩)) R.keep R.hand (fun k b hb => .inr ⟨hb, fun _ _ => rfl⟩) R.inj R.mine hv hd
/-- A world that has changed outside of what the state owns or relies on. -/
theorem Rel.world (R : Rel C r h io a w) (hk : Keep (fun _ => False) w w1) : Rel C r h io a w1 := by
  have := R.upd (h1 := h) (io1 := io) (w1 := w1) none .unk undef (Moves.of_same (fun b hb hn => ⟨Nat.lt_of_lt_of_le hb hk.size, hk.block b hb (fun h => h), hn⟩))
    (R.keep.trans (hk.mono (fun _ _ h => h.elim))) R.hand (fun k b hb => .inr ⟨hb, fun g hg => by
      have ho := R.heap k b hb
      refine hk.block g ?_ (fun h => h)
      obtain ⟨hkind, hblk⟩ := hg
      cases b with
      | box wr t cs =>
        obtain ⟨g', vals, h2, h3, _⟩ := ho
        rw [h2] at hblk
        simp only [ptrTo, blkOf, Option.some.injEq] at hblk
        subst hblk
        exact (Array.getElem?_eq_some_iff.1 h3).1
      | row te e xs =>
        obtain ⟨cs, h2, _⟩ := ho
        rcases h2.2 with ⟨h3, _⟩ | ⟨g', cap, cur, h3, _, h4, _⟩
        · rw [h3] at hblk; simp [blkOf] at hblk
        · rw [h3] at hblk
          simp only [blkOf, Option.some.injEq] at hblk
          subst hblk
          exact (Array.getElem?_eq_some_iff.1 h4).1
      | sealed e xs => rcases hkind with ⟨_, _, h⟩ | ⟨_, _, _, h⟩ <;> simp [hb] at h
      | dead => rcases hkind with ⟨_, _, h⟩ | ⟨_, _, _, h⟩ <;> simp [hb] at h⟩) R.inj R.mine (fun h => absurd rfl h) (fun t h => by cases h)
  have e : setR r none .unk = r := by funext t; simp [setR]
  rw [e] at this
  exact this
/-- Owned blocks are there. -/
theorem Rel.lt (R : Rel C r h io a w) {k g : Nat} (ho : ownedB io h k g) : g < w.heap.size := by
  obtain ⟨hkind, hblk⟩ := ho
  rcases hkind with ⟨t, cs, hb⟩ | ⟨te, e, xs, hb⟩
  · obtain ⟨g', vals, h2, h3, _⟩ := R.heap k _ hb
    rw [h2] at hblk
    simp only [ptrTo, blkOf, Option.some.injEq] at hblk
    subst hblk
    exact (Array.getElem?_eq_some_iff.1 h3).1
  · obtain ⟨cs, h2, _⟩ := R.heap k _ hb
    rcases h2.2 with ⟨h3, _⟩ | ⟨g', cap, cur, h3, _, h4, _⟩
    · rw [h3] at hblk; simp [blkOf] at hblk
    · rw [h3] at hblk
      simp only [blkOf, Option.some.injEq] at hblk
      subst hblk
      exact (Array.getElem?_eq_some_iff.1 h4).1
def Hp.set (h : Hp) (k : Nat) (b : Blk) : Hp := fun j => if j = k then some b else h j
/-- Some rows are sealed. -/
def SealTo (h h' : Hp) : Prop := ∀ k, h' k = h k ∨ ∃ te e, ∃ xs : List e.den, h k = some (.row te e xs) ∧ h' k = some (.sealed e xs)
theorem SealTo.refl (h : Hp) : SealTo h h := fun _ => .inl rfl
theorem SealTo.sub {h h' : Hp} {io : Nat → Value} (hs : SealTo h h') {j g : Nat} (ho : ownedB io h' j g) : ownedB io h j g ∧ h' j = h j := by
  rcases hs j with e | ⟨te, e, xs, h1, h2⟩
  · refine ⟨⟨?_, ho.2⟩, e⟩
    rw [← e]; exact ho.1
  · obtain ⟨ho, _⟩ := ho
    rw [h2] at ho
    simp at ho
theorem SealTo.moves {h h' : Hp} (hs : SealTo h h') (Nx : Nat → Prop) (io : Nat → Value) (w : World) : Moves Nx io h w io h' w := by
  refine ⟨fun b hb hn => ⟨hb, rfl, fun ⟨j, hj⟩ => hn ⟨j, (hs.sub hj).1⟩⟩, fun j hj => ⟨?_, rfl⟩, fun j hj => ?_, fun j te' e' ys hj hn => ?_⟩
  · rcases hs j with e | ⟨te, e, xs, h1, h2⟩
    · rw [e]; exact hj
    · simp [h2]
  · rcases hs j with e | ⟨te, e, xs, h1, h2⟩
    · rw [e]; exact hj
    · rw [h1] at hj; cases hj
  · rcases hs j with e | ⟨te, e, xs, h1, h2⟩
    · exact ⟨ys, e ▸ hj, rfl⟩
    · rw [h2] at hj; cases hj
theorem Rel.sealTo (R : Rel C r h io a w) {h' : Hp} (hs : SealTo h h') : Rel C r h' io a w := by
  have hM := hs.moves C.Nx io w
  have := R.upd (h1 := h') (io1 := io) (w1 := w) none .unk undef hM R.keep R.hand (fun k b hb => by
      rcases hs k with e | ⟨te, e, xs, hk, h2⟩
      · exact .inr ⟨e ▸ hb, fun _ _ => rfl⟩
      · rw [h2] at hb
        injection hb with hb
        subst hb
        left
        have hnot : ∀ g, blkOf (io k) = some g → ¬ NN C.Nx io h' g := by
          rintro g hg (hx | ⟨j, hj⟩)
          · have h1 := R.nx g hx
            rcases R.mine k g ⟨.inr ⟨te, e, xs, hk⟩, hg⟩ with h2 | ⟨_, t, cs, h2⟩
            · omega
            · rw [hk] at h2; cases h2
          · obtain ⟨h1, h3⟩ := hs.sub hj
            have hjk := R.inj j k g h1 ⟨.inr ⟨te, e, xs, hk⟩, hg⟩
            subst hjk
            rw [h2, hk] at h3
            cases h3
        obtain ⟨cs, h2, h3, h4⟩ := R.heap k _ hk
        refine ⟨io k, rfl, ?_⟩
        rcases h2.2 with ⟨h5, h6⟩ | ⟨g, cap, cur, h5, _, h6, h7, h8, h9, h10⟩
        · exact .inl ⟨h5, List.eq_nil_of_length_eq_zero h6⟩
        · refine .inr ⟨g, 0, none, cap, h5, h7, h8, fun i x hx => ⟨rfl, hnot g (by simp [h5, blkOf]), (Array.getElem?_eq_some_iff.1 h6).1, ?_⟩⟩
          obtain ⟨es, h11, h12⟩ := h4 i x hx
          refine ⟨es, rep_step hM.stays h11, fun p u hu => ?_⟩
          have h13 := h12 p u hu
          have h14 : (cur.toList.take (xs.length * e.cells))[i * e.cells + p]? = some u := by rw [h10]; exact h13
          rw [List.getElem?_take] at h14
          split at h14
          · simp only [World.cell?, h6, Nat.zero_add]
            simpa using h14
          · cases h14) (fun j j' g hj hj' => R.inj j j' g (hs.sub hj).1 (hs.sub hj').1) (fun j g hj => by
      obtain ⟨h1, h2⟩ := hs.sub hj
      rcases R.mine j g h1 with h3 | ⟨h3, t, cs, h4⟩
      · exact .inl h3
      · exact .inr ⟨h3, t, cs, h2.trans h4⟩) (fun h => absurd rfl h) (fun t h => by cases h)
  have e' : setR r none .unk = r := by funext t; simp [setR]
  rw [e'] at this
  exact this
theorem beq_ne {j k : Nat} (h : j ≠ k) : Nat.beq j k = false := by
  cases hb : Nat.beq j k
  · rfl
  · exact absurd (Nat.eq_of_beq_eq_true hb) h
theorem seals_at (S : St) (l : List RV) (k : Nat) (d : Option Blk) :
    (∃ te e, ∃ xs : List e.den, S.hp k = some (.row te e xs) ∧ RV.row k ∈ l ∧ look d ((seals S l).map (fun q => (q.1, some q.2))) k = some (.sealed e xs)) ∨
    ((RV.row k ∈ l → ∀ te e xs, S.hp k ≠ some (.row te e xs)) ∧ look d ((seals S l).map (fun q => (q.1, some q.2))) k = d) := by
  induction l with
  | nil => exact .inr ⟨fun h => by simp at h, rfl⟩
  | cons x l ih =>
    by_cases hx : ∃ j te e, ∃ xs : List e.den, x = .row j ∧ S.hp j = some (.row te e xs)
    · obtain ⟨j, te, e, xs, rfl, hj⟩ := hx
      have he : seals S (.row j :: l) = (j, .sealed e xs) :: seals S l := by simp [seals, hj]
      rw [he]
      by_cases hjk : j = k
      · subst hjk
        exact .inl ⟨te, e, xs, hj, by simp, by simp [look]⟩
      · have hl : ∀ m : List (Nat × Option Blk), look d ((j, some (.sealed e xs)) :: m) k = look d m k := fun m => by
          have : Nat.beq j k = false := beq_ne hjk
          simp [look, this]
        simp only [List.map_cons, hl]
        rcases ih with ⟨te', e', ys, h1, h2, h3⟩ | ⟨h1, h2⟩
        · exact .inl ⟨te', e', ys, h1, by simp [h2], h3⟩
        · refine .inr ⟨fun h => h1 ?_, h2⟩
          simp only [List.mem_cons, RV.row.injEq] at h
          exact h.resolve_left (fun e => hjk e.symm)
    · have he : seals S (x :: l) = seals S l := by
        cases x with
        | row j =>
          simp only [seals]
          split
          · rename_i te e xs hj
            exact absurd ⟨j, te, e, xs, rfl, hj⟩ hx
          · rfl
        | _ => rfl
      rw [he]
      rcases ih with ⟨te', e', ys, h1, h2, h3⟩ | ⟨h1, h2⟩
      · exact .inl ⟨te', e', ys, h1, by simp [h2], h3⟩
      · refine .inr ⟨fun h => ?_, h2⟩
        simp only [List.mem_cons] at h
        rcases h with h | h
        · intro te e xs hk
          exact hx ⟨k, te, e, xs, h.symm, hk⟩
        · exact h1 h
theorem SealTo.seals {S : St} {l : List RV} (hl : ∀ k, RV.row k ∈ l → h k = S.hp k) : SealTo h (h.app (seals S l)) := by
  intro k
  rcases seals_at S l k (h k) with ⟨te, e, xs, h1, h2, h3⟩ | ⟨_, h2⟩
  · exact .inr ⟨te, e, xs, (hl k h2).trans h1, h3⟩
  · exact .inl h2
/-- A register's pure value, when the rows among l are sealed. -/
theorem pure1_ok {S : St} {l : List RV} (hl : ∀ k, RV.row k ∈ l → h k = S.hp k) (R : Rel C r h io a w) {x : RV} (hx : x ∈ l) {v : V1} (hv : pure1 S x = some v) {u : Value}
    (hu : repR w (NN C.Nx io h) io h x u) : repV1 w (NN C.Nx io (h.app (seals S l))) v u := by
  have hs : SealTo h (h.app (seals S l)) := SealTo.seals hl
  have hM := hs.moves C.Nx io w
  unfold pure1 at hv
  split at hv
  · rename_i y
    injection hv with hv
    subst hv
    exact repV1_step hM.stays hu
  · rename_i k
    split at hv
    · rename_i p hp
      injection hv with hv
      subst hv
      have R' := R.sealTo hs
      obtain ⟨hk, hu⟩ := hu
      have hkey : ∃ e, ∃ xs : List e.den, p = .v (.slice e) xs ∧ (h.app (seals S l)) k = some (.sealed e xs) := by
        simp only [asRow] at hp
        split at hp
        · rename_i te e xs hk'
          injection hp with hp
          subst hp
          rcases seals_at S l k (h k) with ⟨te', e', ys, h1, h2, h3⟩ | ⟨h1, _⟩
          · rw [hk'] at h1
            injection h1 with h1
            injection h1 with q1 q2 q3
            subst q2
            have q3 := eq_of_heq q3
            subst q3
            exact ⟨e, xs, rfl, h3⟩
          · exact absurd hk' (h1 hx te e xs)
        · rename_i e xs hk'
          injection hp with hp
          subst hp
          refine ⟨e, xs, rfl, ?_⟩
          rcases hs k with e' | ⟨te, e2, ys, h1, h2⟩
          · rw [e', hl k hx, hk']
          · rw [hl k hx, hk'] at h1; cases h1
        · cases hp
      obtain ⟨e, xs, rfl, hk'⟩ := hkey
      have hne : h k ≠ some .dead := fun hd => by rw [hM.dead k hd] at hk'; cases hk'
      rw [hu hne]
      exact ⟨rfl, R'.heap k _ hk'⟩
    · cases hv
  · cases hv
/-- A row read as it stands. -/
theorem asRow_ok {S : St} (R : Rel C r h io a w) {x : RV} (hl : ∀ k, x = .row k → h k = S.hp k) {p : Pv} (hv : asRow S x = some p) {u : Value}
    (hu : repR w (NN C.Nx io h) io h x u) : ∃ e, ∃ xs : List e.den, p = .v (.slice e) xs ∧ ∃ A c, u = .slice A xs.length c := by
  unfold asRow at hv
  split at hv
  · rename_i e xs
    injection hv with hv
    refine ⟨e, xs, hv.symm, ?_⟩
    obtain ⟨v, h1, h2⟩ := hu.2
    injection h1 with h1
    subst h1
    rcases h2 with ⟨h2, h3⟩ | ⟨b, o, s, c, h2, _⟩
    · exact ⟨none, 0, by rw [h2, h3]; rfl⟩
    · exact ⟨_, _, h2⟩
  · rename_i e
    injection hv with hv
    exact ⟨e, [], hv.symm, none, 0, hu⟩
  · rename_i k
    have hk := hl k rfl
    split at hv
    · rename_i te e xs hs
      injection hv with hv
      refine ⟨e, xs, hv.symm, ?_⟩
      rw [hs] at hk
      rw [hu.2 (by rw [hk]; simp)]
      obtain ⟨cs, h2, _⟩ := R.heap k _ hk
      rcases h2.2 with ⟨h3, h4⟩ | ⟨g, cap, cur, h3, _⟩
      · exact ⟨none, 0, by rw [h3, h4]⟩
      · exact ⟨_, _, h3⟩
    · rename_i e xs hs
      injection hv with hv
      refine ⟨e, xs, hv.symm, ?_⟩
      rw [hs] at hk
      rw [hu.2 (by rw [hk]; simp)]
      obtain ⟨v, h1, h2⟩ := R.heap k _ hk
      injection h1 with h1
      rw [h1]
      rcases h2 with ⟨h2, h3⟩ | ⟨b, o, s, c, h2, _⟩
      · exact ⟨none, 0, by rw [h2, h3]; rfl⟩
      · exact ⟨_, _, h2⟩
    · cases hv
  · cases hv
def Hp.kill (h : Hp) (kk : Option Nat) : Hp := fun j => if kk = some j then some .dead else h j
/-- A new block; a row (kk) may be used up. -/
theorem Rel.fresh (R : Rel C r h io a w) {d : Nat} (hd : d < C.nt) (hn : h d = none) (kk : Option Nat) (hkk : ∀ k, kk = some k → ∃ te e xs, h k = some (.row te e xs))
    (b : Blk) (hb : (∃ t cs, b = .box true t cs) ∨ (∃ te e xs, b = .row te e xs)) (v0 : Value)
    (hw : Keep (fun g => ∃ k, kk = some k ∧ blkOf (io k) = some g) w w1)
    (hv0 : ∀ g, blkOf v0 = some g → w.heap.size ≤ g ∨ ∃ k, kk = some k ∧ blkOf (io k) = some g)
    (v : RV) (hv : ∀ (io1 : Nat → Value) (h1 : Hp), (∀ k, k ≠ d → io1 k = io k) → io1 d = v0 → h1 d = some b → (∀ k, h k ≠ none → h1 k ≠ none) → Moves C.Nx io h w io1 h1 w1 →
      own w1 (NN C.Nx io1 h1) io1 h1 d b ∧ repR w1 (NN C.Nx io1 h1) io1 h1 v v0) :
    ∃ io1, Rel C (setR r (some d) v) ((h.kill kk).set d b) io1 (a.put (some d) v0) w1 := by
  have hkd : kk ≠ some d := by
    intro e
    obtain ⟨te, e', xs, hx⟩ := hkk d e
    rw [hn] at hx; cases hx
  have hd1 : ((h.kill kk).set d b) d = some b := by simp [Hp.set]
  have hoth : ∀ k, k ≠ d → kk ≠ some k → ((h.kill kk).set d b) k = h k := fun k h1' h2 => by simp [Hp.set, Hp.kill, h1', h2]
  have hkill : ∀ k, kk = some k → ((h.kill kk).set d b) k = some .dead := fun k e => by
    have : k ≠ d := fun e' => hkd (e' ▸ e)
    simp [Hp.set, Hp.kill, this, e]
  generalize (h.kill kk).set d b = h1 at *
  obtain ⟨io1, hio, hiod⟩ : ∃ io1 : Nat → Value, (∀ k, k ≠ d → io1 k = io k) ∧ io1 d = v0 := ⟨fun k => if k = d then v0 else io k, fun k hk => by simp [hk], by simp⟩
  have hold : ∀ k g, k ≠ d → ownedB io1 h1 k g → ownedB io h k g ∧ kk ≠ some k := by
    rintro k g hk ⟨ho, hg⟩
    rw [hio k hk] at hg
    have hne : kk ≠ some k := fun e => by rw [hkill k e] at ho; simp at ho
    rw [hoth k hk hne] at ho
    exact ⟨⟨ho, hg⟩, hne⟩
  have hkown : ∀ k g, kk = some k → blkOf (io k) = some g → ownedB io h k g := fun k g e hg => ⟨.inr (hkk k e), hg⟩
  have hborn : ∀ k, h k ≠ none → h1 k ≠ none := fun k hk => by
    by_cases hkd' : k = d
    · subst hkd'; simp [hd1]
    · by_cases hkk' : kk = some k
      · simp [hkill k hkk']
      · rw [hoth k hkd' hkk']; exact hk
  have hM : Moves C.Nx io h w io1 h1 w1 := by
    refine ⟨fun g hg hN => ⟨Nat.lt_of_lt_of_le hg hw.size, hw.block g hg ?_, ?_⟩, fun k hk => ⟨hborn k hk, hio k (fun e => hk (e ▸ hn))⟩, fun k hk => ?_, fun k te e xs hx hk => ?_⟩
    · rintro ⟨k, e, hgk⟩
      exact hN ⟨k, hkown k g e hgk⟩
    · rintro ⟨k, hk⟩
      by_cases hkd' : k = d
      · subst hkd'
        have hg' := hk.2
        rw [hiod] at hg'
        rcases hv0 g hg' with hge | ⟨k', e, hgk⟩
        · omega
        · exact hN ⟨k', hkown k' g e hgk⟩
      · exact hN ⟨k, (hold k g hkd' hk).1⟩
    · have hkd' : k ≠ d := fun e => by rw [e, hn] at hk; cases hk
      have hne : kk ≠ some k := fun e => by obtain ⟨te, e', xs, hx⟩ := hkk k e; rw [hk] at hx; cases hx
      rw [hoth k hkd' hne]; exact hk
    · have hkd' : k ≠ d := fun e => hk (e ▸ hn)
      have hne : kk ≠ some k := fun e => by rw [hkill k e] at hx; cases hx
      rw [hoth k hkd' hne] at hx
      exact ⟨xs, hx, rfl⟩
  obtain ⟨hown, hrep⟩ := hv io1 h1 hio hiod hd1 hborn hM
  refine ⟨io1, R.upd (some d) v v0 hM (R.keep.trans (hw.mono ?_)) ?_ ?_ ?_ ?_ (fun _ => hrep) (fun t ht => Option.some.inj ht ▸ hd)⟩
  · rintro g hg ⟨k, e, hgk⟩
    rcases R.mine k g (hkown k g e hgk) with h2 | ⟨h2, _⟩
    · exact .inr h2
    · exact .inl h2
  · intro j g hg
    have := R.small
    rw [hio (1000 + j) (by omega)]
    exact R.hand j g hg
  · intro k b' hb'
    by_cases hkd' : k = d
    · subst hkd'
      rw [hd1] at hb'
      injection hb' with hb'
      subst hb'
      exact .inl hown
    · by_cases hkk' : kk = some k
      · rw [hkill k hkk'] at hb'
        injection hb' with hb'
        subst hb'
        exact .inl trivial
      · rw [hoth k hkd' hkk'] at hb'
        refine .inr ⟨hb', fun g hg => hw.block g (R.lt hg) ?_⟩
        rintro ⟨k', e, hgk⟩
        have := R.inj k k' g hg (hkown k' g e hgk)
        exact hkk' (this ▸ e)
  · intro k k' g hk hk'
    by_cases h2 : k = d <;> by_cases h3 : k' = d
    · exact h2.trans h3.symm
    · obtain ⟨h4, h5⟩ := hold k' g h3 hk'
      have hg' := hk.2
      rw [h2, hiod] at hg'
      rcases hv0 g hg' with hge | ⟨q, e, hgk⟩
      · have := R.lt h4; omega
      · exact absurd ((R.inj k' q g h4 (hkown q g e hgk)) ▸ e) h5
    · obtain ⟨h4, h5⟩ := hold k g h2 hk
      have hg' := hk'.2
      rw [h3, hiod] at hg'
      rcases hv0 g hg' with hge | ⟨q, e, hgk⟩
      · have := R.lt h4; omega
      · exact absurd ((R.inj k q g h4 (hkown q g e hgk)) ▸ e) h5
    · exact R.inj k k' g (hold k g h2 hk).1 (hold k' g h3 hk').1
  · intro k g hk
    by_cases hkd' : k = d
    · subst hkd'
      have hg' := hk.2
      rw [hiod] at hg'
      left
      rcases hv0 g hg' with hge | ⟨q, e, hgk⟩
      · exact Nat.le_trans R.keep.size hge
      · rcases R.mine q g (hkown q g e hgk) with h2 | ⟨_, t, cs, h2⟩
        · exact h2
        · obtain ⟨te, e', xs, hx⟩ := hkk q e
          rw [hx] at h2; cases h2
    · obtain ⟨h4, h5⟩ := hold k g hkd' hk
      rcases R.mine k g h4 with h2 | ⟨h2, t, cs, h3⟩
      · exact .inl h2
      · exact .inr ⟨h2, t, cs, (hoth k hkd' h5).trans h3⟩
/-- A block is written. -/
theorem Rel.store (R : Rel C r h io a w) {k g : Nat} {b b1 : Blk} (hk : h k = some b) (hg : blkOf (io k) = some g)
    (hb : (∃ t cs cs', b = .box true t cs ∧ b1 = .box true t cs') ∨ (∃ te e, ∃ xs ys : List e.den, b = .row te e xs ∧ b1 = .row te e ys ∧ ys.length = xs.length))
    (hw : Keep (fun x => x = g) w w1) (hown : Moves C.Nx io h w io (h.set k b1) w1 → own w1 (NN C.Nx io (h.set k b1)) io (h.set k b1) k b1) : Rel C r (h.set k b1) io a w1 := by
  have hko : ownedB io h k g := ⟨by
    rcases hb with ⟨t, cs, _, rfl, _⟩ | ⟨te, e, xs, _, rfl, _⟩
    · exact .inl ⟨t, cs, hk⟩
    · exact .inr ⟨te, e, xs, hk⟩, hg⟩
  have hsub : ∀ j g, ownedB io (h.set k b1) j g → ownedB io h j g := by
    rintro j g' ⟨hj, hg'⟩
    by_cases hjk : j = k
    · subst hjk
      exact ⟨hko.1, hg'⟩
    · simp only [Hp.set, hjk, if_false] at hj
      exact ⟨hj, hg'⟩
  have hNN : ∀ x, NN C.Nx io (h.set k b1) x → NN C.Nx io h x := by
    rintro x (hx | ⟨j, hj⟩)
    · exact .inl hx
    · exact .inr ⟨j, hsub j x hj⟩
  have hM : Moves C.Nx io h w io (h.set k b1) w1 := by
    refine ⟨fun x hx hn => ⟨Nat.lt_of_lt_of_le hx hw.size, hw.block x hx (fun e => hn ⟨k, e ▸ hko⟩), fun ⟨j, hj⟩ => hn ⟨j, hsub j x hj⟩⟩, fun j hj => ⟨?_, rfl⟩, fun j hj => ?_, fun j te' e' ys hj hn => ?_⟩
    · by_cases hjk : j = k <;> simp [Hp.set, hjk, hj]
    · by_cases hjk : j = k
      · subst hjk
        rw [hk] at hj
        injection hj with hj
        subst hj
        rcases hb with ⟨_, _, _, h2, _⟩ | ⟨_, _, _, _, h2, _⟩ <;> cases h2
      · simp [Hp.set, hjk, hj]
    · by_cases hjk : j = k
      · subst hjk
        simp only [Hp.set, if_true, Option.some.injEq] at hj
        rcases hb with ⟨_, _, _, _, h2⟩ | ⟨te, e, xs, zs, h2, h3, h4⟩
        · rw [h2] at hj; cases hj
        · rw [h3] at hj
          injection hj with q1 q2 q3
          subst q1 q2
          have q3 := eq_of_heq q3
          subst q3
          exact ⟨xs, h2 ▸ hk, h4⟩
      · simp only [Hp.set, hjk, if_false] at hj
        exact ⟨ys, hj, rfl⟩
  have := R.upd (h1 := h.set k b1) (io1 := io) (w1 := w1) none .unk undef hM (R.keep.trans (hw.mono (fun x _ e => by
      subst e
      rcases R.mine k x hko with h2 | ⟨h2, _⟩
      · exact .inr h2
      · exact .inl h2))) R.hand (fun j b hb' => by
      by_cases hjk : j = k
      · subst hjk
        simp only [Hp.set, if_true, Option.some.injEq] at hb'
        subst hb'
        exact .inl (hown hM)
      · simp only [Hp.set, hjk, if_false] at hb'
        exact .inr ⟨hb', fun x hx => hw.block x (R.lt hx) (fun e => hjk (R.inj j k x hx (e ▸ hko)))⟩)
    (fun j j' x hj hj' => R.inj j j' x (hsub j x hj) (hsub j' x hj')) (fun j x hj => by
      rcases R.mine j x (hsub j x hj) with h3 | ⟨h3, t, cs, h4⟩
      · exact .inl h3
      · by_cases hjk : j = k
        · subst hjk
          rw [hk] at h4
          injection h4 with h4
          subst h4
          rcases hb with ⟨t', cs', cs'', h5, h6⟩ | ⟨_, _, _, _, h5, _⟩
          · exact .inr ⟨h3, t', cs'', by simp [Hp.set, h6]⟩
          · cases h5
        · exact .inr ⟨h3, t, cs, by simp [Hp.set, hjk, h4]⟩) (fun h => absurd rfl h) (fun t h => by cases h)
  have e' : setR r none .unk = r := by funext t; simp [setR]
  rw [e'] at this
  exact this
end
end Go.Proofs.YtieeiiibamkbmaaGreat.Am
