/- A function's equation tells what its calls do. Conditions: what is known of the callees ('FeOk') and of the parts of its run ('OrcOk'). -/
import Derived.Test.YtieeiiibamkbmaaGreatAmWF
namespace Go.Proofs.YtieeiiibamkbmaaGreat.Am
open Go Go.RowKit
set_option linter.unusedVariables false
set_option linter.unusedSimpArgs false

def allRV (S : St) : List RV := S.regs.map (·.2) ++ S.heap.flatMap (fun q => match q.2 with
  | some (.box _ _ cs) => cs
  | _ => [])
theorem look_mem {β : Type} (d : β) (t : Nat) : ∀ l : List (Nat × β), look d l t = d ∨ ∃ q ∈ l, q.2 = look d l t
  | [] => .inl rfl
  | (k, v) :: l => by
    simp only [look]
    cases hb : Nat.beq k t with
    | true => exact .inr ⟨(k, v), by simp, rfl⟩
    | false => exact (look_mem d t l).imp id (fun ⟨q, h1, h2⟩ => ⟨q, by simp [h1], h2⟩)
theorem get_all {S : St} (t : Nat) : S.get t = .unk ∨ S.get t ∈ allRV S := by
  rcases look_mem .unk t S.regs with h | ⟨q, h1, h2⟩
  · exact .inl h
  · refine .inr (List.mem_append_left _ (List.mem_map.2 ⟨q, h1, h2⟩))
theorem hp_all {S : St} {k : Nat} {w : Bool} {t : TypeId} {cs : List RV} (h : S.hp k = some (.box w t cs)) : ∀ c ∈ cs, c ∈ allRV S := by
  intro c hc
  rcases look_mem none k S.heap with h1 | ⟨q, h1, h2⟩
  · have : S.hp k = none := h1
    rw [h] at this; cases this
  · have h2 : q.2 = S.hp k := h2
    rw [h] at h2
    exact List.mem_append_right _ (List.mem_flatMap.2 ⟨q, h1, by rw [h2]; exact hc⟩)
section
variable {P : Program} {D : Seat} {S : St} {io : Nat → Value} {a : Act} {w : World}
def fetch (tmps : Array Value) : ResultVar → Sem Value
  | .tmp t => pure (tmps.getD t undef)
  | .cell a t => do loadVar t (← asAddr (tmps.getD a undef))
theorem results_eq (fn : Func) (tmps : Array Value) : results fn tmps = (do
    let vs ← fn.results.mapM (fetch tmps)
    pure (if h : vs.size = 1 then vs[0] else .tuple vs)) := by
  unfold results
  congr 2
theorem run_mapM {α : Type} {f : α → Sem Value} : ∀ {l : List α} {us : List Value}, l.length = us.length → (∀ (j : Nat) (x : α) (u : Value), l[j]? = some x → us[j]? = some u → (f x).run P w = .ok u w) → (l.mapM f).run P w = .ok us w
  | [], [], _, _ => by simp
  | [], _ :: _, h, _ => by simp at h
  | _ :: _, [], h, _ => by simp at h
  | x :: l, u :: us, h, hf => by
    have h1 := hf 0 x u rfl rfl
    have h2 := run_mapM (l := l) (us := us) (by simpa using h) (fun j x u hx hu => hf (j + 1) x u (by simpa using hx) (by simpa using hu))
    rw [List.mapM_cons]
    simp [h1, h2]
theorem resV_ok (R : Rel D S.get S.hp io a w) {rv : ResultVar} {v : V1} (hv : resV P S rv = some v) : ∃ u, (fetch a.tmps rv).run P w = .ok u w ∧ repV1 w (NN D.Nx io (Hp.app S.hp (seals S (allRV S)))) v u := by
  have hl : ∀ k, RV.row k ∈ allRV S → S.hp k = S.hp k := fun _ _ => rfl
  cases rv with
  | tmp t =>
    simp only [resV] at hv
    refine ⟨_, rfl, ?_⟩
    rcases get_all (S := S) t with h | h
    · rw [h] at hv; simp [pure1] at hv
    · exact pure1_ok hl R h hv (R.regs t)
  | cell a0 t =>
    simp only [resV] at hv
    split at hv
    · rename_i k off he
      split at hv
      · rename_i wr tb cs hb
        split at hv
        · rename_i l hc
          split at hv
          · rename_i ps hps
            obtain ⟨d, i, h1, h2, h3, rfl⟩ := cutT_some hc
            have h4 := R.regs a0
            rw [he] at h4
            obtain ⟨_, g, h5, h6⟩ := h4
            obtain ⟨g', vals, h7, h8, h9, _, h10⟩ := R.heap k _ hb
            have hgg : g = g' := by rw [h5] at h7; simp only [ptrTo, Value.pointer.injEq, Option.some.injEq, Addr.mk.injEq, and_true] at h7; exact h7
            subst hgg
            have hus : ∀ (j : Nat) (v : Value), ((vals.toList.drop off).take i.size)[j]? = some v → w.cell? ⟨g, off + j, none⟩ = some v := by
              intro j v hj
              rw [List.getElem?_take] at hj
              split at hj
              · rw [List.getElem?_drop] at hj
                simp only [World.cell?, h8]
                simpa using hj
              · cases hj
            have hvl : vals.toList.length = cs.length := by simpa using h9
            have hlen : ((vals.toList.drop off).take i.size).length = i.size := by simp only [List.length_take, List.length_drop]; omega
            have hrc := pvs_ok (S := S) hl R (l := (cs.drop off).take i.size) (us := (vals.toList.drop off).take i.size) (fun x hx => hp_all hb x (List.mem_of_mem_drop (List.mem_of_mem_take hx))) hps (by simp only [List.length_take, List.length_drop]; omega) (fun j c u hc hu => by
              rw [List.getElem?_take] at hc hu
              split at hc
              · rename_i hlt
                simp only [hlt, if_true, List.getElem?_drop] at hc hu
                obtain ⟨v, h11, _, h12⟩ := h10 (off + j) c hc
                rw [← Array.getElem?_toList] at h11
                rw [h11] at hu
                injection hu with hu
                exact hu ▸ h12
              · cases hc)
            cases ha : aggT P t with
            | true =>
              rw [ha, cond_true] at hv
              injection hv with hv
              subst hv
              have := run_loadCells_list (P := P) w ⟨g, off, none⟩ _ (fun j v hj => by rw [addr_add]; exact hus j v hj)
              rw [hlen] at this
              refine ⟨.agg ((vals.toList.drop off).take i.size).toArray, ?_, _, rfl, hrc⟩
              simp only [fetch, h6, asAddr, Sem.run_bind, Sem.run_pure, Result.andThen_ok, loadVar, run_isAgg h1, ha, if_true, run_sizeOf' h2, this]
            | false =>
              rw [ha, cond_false] at hv
              split at hv
              · rename_i p
                injection hv with hv
                subst hv
                have h13 := repC_len hrc
                rw [hlen] at h13
                obtain ⟨u, hu⟩ := List.length_eq_one_iff.1 (show ((vals.toList.drop off).take i.size).length = 1 by rw [hlen]; simpa using h13.symm)
                have h0 := hus 0 u (by rw [hu]; rfl)
                rw [hu] at hrc
                refine ⟨u, ?_, hrc.1⟩
                simp only [Nat.add_zero] at h0
                simp [fetch, h6, asAddr, loadVar, run_isAgg h1, ha, h0]
              · cases hv
          · cases hv
        · cases hv
      · cases hv
    · cases hv
theorem decRs_ok {N : Nat → Prop} : ∀ {l : List Ty} {vs : List V1} {r : rden l} {us : List Value}, decRs l vs = some r → repVs w N vs us → repVs w N (encRs l r) us
  | [], [], _, us, _, h => h
  | [], _ :: _, _, _, h, _ => by simp [decRs] at h
  | [a], [], _, _, h, _ => by simp [decRs] at h
  | [a], [v], r, us, h, hr => by
    simp only [decRs] at h
    match us, hr with
    | [u], hr => exact ⟨(rep_to h hr.1).1, trivial⟩
    | [], hr => exact hr.elim
    | _ :: _ :: _, hr => exact hr.2.elim
  | [a], _ :: _ :: _, _, _, h, _ => by simp [decRs] at h
  | a :: b :: l, [], _, _, h, _ => by simp [decRs] at h
  | a :: b :: l, v :: vs, r, us, h, hr => by
    simp only [decRs] at h
    split at h
    · rename_i x y h1 h2
      injection h with h
      subst h
      match us, hr with
      | u :: us, hr => exact ⟨(rep_to h1 hr.1).1, decRs_ok h2 hr.2⟩
      | [], hr => exact hr.elim
    · cases h
theorem encRs_len : ∀ (l : List Ty) (r : rden l), (encRs l r).length = l.length
  | [], _ => rfl
  | [a], _ => rfl
  | a :: b :: l, r => by simp [encRs, encRs_len (b :: l) r.2]
theorem encR_ok {N : Nat → Prop} {h : Hp} {l : List Ty} {r : rden l} {us : List Value} (hr : repVs w N (encRs l r) us) : repR w N io h (encR l r) (if h : us.toArray.size = 1 then us.toArray[0] else .tuple us.toArray) := by
  have hlen := repVs_len hr
  rw [encRs_len] at hlen
  match l, r, hr, hlen with
  | [], r, hr, hlen =>
    rw [dif_neg (by simp at hlen ⊢; omega)]
    exact ⟨us, rfl, hr⟩
  | [a], r, hr, hlen =>
    match us, hr with
    | [u], hr =>
      rw [dif_pos (by simp)]
      exact hr.1
    | [], hr => exact hr.elim
    | _ :: _ :: _, hr => exact hr.2.elim
  | a :: b :: l, r, hr, hlen =>
    rw [dif_neg (by simp at hlen ⊢; omega)]
    exact ⟨us, rfl, hr⟩
theorem decOuts_at : ∀ {bs : List BS} {k : Nat} {z : dens (oTys bs)}, decOuts S bs k = some z → ∀ (j : Nat) (b : Blk), (encBs bs z)[j]? = some (some b) →
    ∃ t ty x cs ps, bs[j]? = some (BS.val true t ty) ∧ b = .box true t ((unpack ty x).map (fun p => .p (.v p))) ∧ S.hp (k + j) = some (.box true t cs) ∧ pvs S cs = some ps ∧ packAll ty ps = some x
  | [], k, z, hd, j, b, h => by simp [encBs] at h
  | .val true t ty :: bs, k, z, hd, j, b, h => by
    simp only [decOuts] at hd
    split at hd
    · rename_i t' cs hcs
      split at hd
      · rename_i ps hps
        split at hd
        · rename_i x y hx hy
          cases hb : Nat.beq t t' with
          | false => rw [hb] at hd; cases hd
          | true =>
            rw [hb, cond_true] at hd
            injection hd with hd
            subst hd
            have ht := Nat.eq_of_beq_eq_true hb
            subst ht
            cases j with
            | zero =>
              simp only [encBs, List.getElem?_cons_zero, Option.some.injEq] at h
              exact ⟨t, ty, x, cs, ps, rfl, h.symm, hcs, hps, hx⟩
            | succ j =>
              obtain ⟨t, ty, x, cs, ps, h1, h2, h3, h4⟩ := decOuts_at hy j b (by simpa [encBs] using h)
              exact ⟨t, ty, x, cs, ps, by simpa using h1, h2, by rw [show k + (j + 1) = k + 1 + j by omega]; exact h3, h4⟩
        · cases hd
      · cases hd
    · cases hd
  | .val false t ty :: bs, k, z, hd, j, b, h => by
    cases j with
    | zero => simp [encBs] at h
    | succ j =>
      obtain ⟨t, ty, x, cs, ps, h1, h2, h3, h4⟩ := decOuts_at (bs := bs) (k := k + 1) (z := z) hd j b (by simpa [encBs] using h)
      exact ⟨t, ty, x, cs, ps, by simpa using h1, h2, by rw [show k + (j + 1) = k + 1 + j by omega]; exact h3, h4⟩
  | .lit t cs :: bs, k, z, hd, j, b, h => by
    cases j with
    | zero => simp [encBs] at h
    | succ j =>
      obtain ⟨t, ty, x, cs, ps, h1, h2, h3, h4⟩ := decOuts_at (bs := bs) (k := k + 1) (z := z) hd j b (by simpa [encBs] using h)
      exact ⟨t, ty, x, cs, ps, by simpa using h1, h2, by rw [show k + (j + 1) = k + 1 + j by omega]; exact h3, h4⟩
theorem entryHeap_box : ∀ {bs : List BS} {s : Nat} {y : dens (bTys bs)} {k : Nat} {b : Blk}, look none (entryHeap bs s y) k = some b → ∃ j, k = s + j ∧ j < bs.length ∧ ((∃ t ty cs, bs[j]? = some (BS.val true t ty) ∧ b = .box true t cs) ∨ ∃ t cs, b = .box false t cs)
  | [], s, y, k, b, h => by simp [entryHeap, look] at h
  | .val wr t ty :: bs, s, y, k, b, h => by
    simp only [entryHeap, look] at h
    cases hk : Nat.beq s k with
    | false =>
      rw [hk] at h
      obtain ⟨j, h1, h2, h3⟩ := entryHeap_box (bs := bs) h
      exact ⟨j + 1, by omega, by simp; omega, by simpa using h3⟩
    | true =>
      rw [hk] at h
      injection h with h
      have := Nat.eq_of_beq_eq_true hk
      refine ⟨0, by omega, by simp, ?_⟩
      cases wr with
      | true => exact .inl ⟨t, ty, _, rfl, h.symm⟩
      | false => exact .inr ⟨t, _, h.symm⟩
  | .lit t cs :: bs, s, y, k, b, h => by
    simp only [entryHeap, look] at h
    cases hk : Nat.beq s k with
    | false =>
      rw [hk] at h
      obtain ⟨j, h1, h2, h3⟩ := entryHeap_box (bs := bs) h
      exact ⟨j + 1, by omega, by simp; omega, by simpa using h3⟩
    | true =>
      rw [hk] at h
      injection h with h
      have := Nat.eq_of_beq_eq_true hk
      exact ⟨0, by omega, by simp, .inr ⟨t, cs, h.symm⟩⟩
/-- The setting of a function's run. -/
def seatOf (w : World) (N : Nat → Prop) (gs : List Nat) (bs : List BS) (nt : Nat) : Seat := ⟨w, N, gs, mutG bs gs, nt⟩
theorem rel_entry {N : Nat → Prop} {gs : List Nat} {ps : List PS} {bs : List BS} {x : dens (valTys ps)} {y : dens (bTys bs)} {vs : List Value} {nt : Nat} (hE : Enter w N gs bs (entry ps bs x y) vs) (h1 : nt ≤ 1000) (h2 : bs.length ≤ 1000) (h3 : vs.length ≤ nt) :
    Rel (seatOf w N gs bs nt) (entry ps bs x y).get (entry ps bs x y).hp (handIo gs) { tmps := vs.toArray ++ Array.replicate (nt - vs.toArray.size) undef, defers := [] } w := by
  have hbx : ∀ k b, (entry ps bs x y).hp k = some b → ∃ j, k = 1000 + j ∧ j < bs.length ∧ ((∃ t ty cs, bs[j]? = some (BS.val true t ty) ∧ b = .box true t cs) ∨ ∃ t cs, b = .box false t cs) := fun k b h => entryHeap_box h
  have hio : ∀ (j g : Nat), gs[j]? = some g → handIo gs (1000 + j) = ptrTo g := by
    intro j g hg
    unfold handIo
    rw [Nat.add_sub_cancel_left]
    simp [List.getD, hg]
  have how : ∀ k g, ownedB (handIo gs) (entry ps bs x y).hp k g → ∃ j t ty cs, k = 1000 + j ∧ bs[j]? = some (BS.val true t ty) ∧ gs[j]? = some g ∧ (entry ps bs x y).hp k = some (.box true t cs) := by
    rintro k g ⟨hk, hg⟩
    rcases hk with ⟨t, cs, hk⟩ | ⟨te, e, xs, hk⟩
    · obtain ⟨j, h4, h5, h6⟩ := hbx k _ hk
      rcases h6 with ⟨t', ty, cs', h6, h7⟩ | ⟨t', cs', h7⟩
      · injection h7 with _ h7
        subst h7
        refine ⟨j, t, ty, cs, h4, h6, ?_, hk⟩
        have hlt : j < gs.length := by rw [hE.len]; exact h5
        have hgj := List.getElem?_eq_getElem hlt
        have := hio j _ hgj
        rw [h4, this] at hg
        simp only [ptrTo, blkOf, Option.some.injEq] at hg
        rw [hgj, hg]
      · injection h7 with h7; cases h7
    · obtain ⟨j, h4, h5, h6⟩ := hbx k _ hk
      rcases h6 with ⟨t', ty, cs', h6, h7⟩ | ⟨t', cs', h7⟩ <;> cases h7
  have hNN : NN N (handIo gs) (entry ps bs x y).hp = N := by
    funext g
    refine propext ⟨fun h => ?_, fun h => .inl h⟩
    rcases h with h | ⟨k, h⟩
    · exact h
    · obtain ⟨j, t, ty, cs, _, h5, h6, _⟩ := how k g h
      exact hE.wr g ⟨j, t, ty, h5, h6⟩
  refine ⟨⟨h1, by show gs.length ≤ 1000; rw [hE.len]; exact h2⟩, ?_, rfl, Keep.refl _ _, hE.lt, fun t => ?_, fun k b hb => ?_, fun k k' g hk hk' => ?_, fun k g hk => ?_, hio⟩
  · show (vs.toArray ++ Array.replicate (nt - vs.toArray.size) undef).size = nt
    simp
    omega
  · have h4 := hE.regs t
    have h5 : (vs.toArray ++ Array.replicate (nt - vs.toArray.size) undef).getD t undef = vs.getD t undef := by
      simp only [Array.getD_eq_getD_getElem?, List.getD_eq_getElem?_getD]
      by_cases ht : t < vs.length
      · rw [Array.getElem?_append_left (by simpa using ht)]
        simp
      · rw [Array.getElem?_append_right (by simpa using ht), List.getElem?_eq_none (by omega)]
        rw [Array.getElem?_replicate]
        split <;> rfl
    show repR w (NN N (handIo gs) (entry ps bs x y).hp) (handIo gs) (entry ps bs x y).hp ((entry ps bs x y).get t) ((vs.toArray ++ Array.replicate (nt - vs.toArray.size) undef).getD t undef)
    rw [h5, hNN]
    exact h4
  · show own w (NN N (handIo gs) (entry ps bs x y).hp) (handIo gs) (entry ps bs x y).hp k b
    rw [hNN]
    exact hE.heap k b hb
  · obtain ⟨j, t, ty, cs, h4, h5, h6, _⟩ := how k g hk
    obtain ⟨j', t', ty', cs', h7, h8, h9, _⟩ := how k' g hk'
    have := hE.one j j' t ty g h5 h6 h9
    omega
  · obtain ⟨j, t, ty, cs, h4, h5, h6, h7⟩ := how k g hk
    exact .inr ⟨⟨j, t, ty, h5, h6⟩, t, cs, h7⟩
/-- The checks of a function's form. -/
def feCheck (C : Ctx) (e : Fe) (fn : Func) (rvs : List ResultVar) : Bool :=
  Nat.beq fn.ntmps C.nt && Nat.ble C.nt 1000 && Nat.ble e.ps.length C.nt && Nat.ble e.bs.length 1000 && (e.sl || (e.rs.all Ty.noSl && (oTys e.bs).all Ty.noSl)) && e.own.isNone && !(fn.name == "runtime.NumGoroutine")
theorem fe_of_run {C : Ctx} (hm : C.P.follows .mixedOrders = true) (hΓ : ∀ e ∈ C.Γ, FeOk C.P e) {Λ : List Orc} (hΛ : ∀ o ∈ Λ, OrcOk C o) {e : Fe} {fn : Func} {rvs : List ResultVar} {n : Nat}
    (hf : C.P.funcs[e.f]? = some fn) (hbody : fn.body = some C.body) (hres : fn.results.toList = rvs) (hch : feCheck C e fn rvs = true)
    (he : ∀ x y K, e.X x y K = run C Λ [] n true [] (entry e.ps e.bs x y) (retK C.P rvs e.bs e.rs K)) : FeOk C.P e := by
  unfold feCheck at hch
  simp only [Bool.and_eq_true, Bool.not_eq_true', Bool.or_eq_true] at hch
  obtain ⟨⟨⟨⟨⟨⟨c1, c2⟩, c3⟩, c4⟩, c5⟩, c6⟩, c7⟩ := hch
  have c1 := Nat.eq_of_beq_eq_true c1
  have c2 := Nat.le_of_ble_eq_true c2
  have c3 := Nat.le_of_ble_eq_true c3
  have c4 := Nat.le_of_ble_eq_true c4
  have hown : e.own = none := by simpa using c6
  refine ⟨fun _ hs => ?_, fun x y K hX => ?_⟩
  · rcases c5 with c5 | c5
    · rw [hs] at c5; cases c5
    · simpa using c5
  · rw [he] at hX
    obtain ⟨oc, h1, h2⟩ := run_ok hm hΓ hΛ n true [] _ _ hX
    cases oc with
    | stop p S => exact h1.elim
    | ret S =>
      simp only [retK] at h1
      split at h1
      · rename_i vs hvs
        split at h1
        · rename_i r z hr hz
          refine ⟨r, z, h1, fun w N gs us hE hul => .inl ⟨fn, hf, by rw [hbody]; rfl, c7, ?_⟩⟩
          have R := rel_entry hE c2 c4 (by rw [hul]; exact c3)
          intro cs
          let b : Frame := { (default : Frame) with fn := e.f, kind := .normal }
          have henter : Frame.enter C.P e.f us.toArray .normal = b.at { tmps := us.toArray ++ Array.replicate (C.nt - us.toArray.size) undef, defers := [] } [.code C.body] := by
            simp [Frame.enter, Frame.at, hf, hbody, b, c1]
          obtain ⟨io1, a1, w1, todo, R1, hs⟩ := h2 (seatOf w N gs e.bs C.nt) rfl b cs _ _ _ R
          have hl : ∀ k, RV.row k ∈ allRV S → S.hp k = S.hp k := fun _ _ => rfl
          have hst : Stays w1 w1 (NN N io1 (Hp.app S.hp (seals S (allRV S)))) N := fun b hb hnb => ⟨hb, rfl, fun hx => hnb (.inl hx)⟩
          -- the results
          have hus : ∃ vals : List Value, (fn.results.toList.mapM (fetch a1.tmps)).run C.P w1 = .ok vals w1 ∧ repVs w1 N vs vals := by
            have hlen := allSome_len hvs
            rw [List.length_map] at hlen
            have key : ∀ (l : List ResultVar) (vs : List V1), l.map (resV C.P S) = vs.map some → ∃ vals : List Value, l.length = vals.length ∧ (∀ (j : Nat) (x : ResultVar) (u : Value), l[j]? = some x → vals[j]? = some u → (fetch a1.tmps x).run C.P w1 = .ok u w1) ∧ repVs w1 N vs vals := by
              intro l
              induction l with
              | nil =>
                intro vs h
                cases vs with
                | nil => exact ⟨[], rfl, by simp, trivial⟩
                | cons _ _ => simp at h
              | cons x l ih =>
                intro vs h
                cases vs with
                | nil => simp at h
                | cons v vs =>
                  simp only [List.map_cons, List.cons.injEq] at h
                  obtain ⟨u, h3, h4⟩ := resV_ok R1 h.1
                  obtain ⟨vals, h5, h6, h7⟩ := ih vs h.2
                  refine ⟨u :: vals, by simp [h5], fun j y u' hy hu => ?_, repV1_step hst h4, h7⟩
                  cases j with
                  | zero =>
                    simp only [List.getElem?_cons_zero, Option.some.injEq] at hy hu
                    subst hy hu
                    exact h3
                  | succ j => exact h6 j y u' (by simpa using hy) (by simpa using hu)
            obtain ⟨vals, h3, h4, h5⟩ := key rvs vs (allSome_ok hvs)
            rw [hres]
            exact ⟨vals, run_mapM h3 h4, h5⟩
          obtain ⟨vals, h3, h4⟩ := hus
          have hrun : (results fn a1.tmps).run C.P w1 = .ok (if h : vals.toArray.size = 1 then vals.toArray[0] else .tuple vals.toArray) w1 := by
            rw [results_eq, Array.mapM_eq_mapM_toList]
            simp only [Sem.run_bind, Sem.run_map, h3, Result.andThen_ok, Sem.run_pure]
          refine ⟨.returned _, w1, { b.at a1 todo with mode := .returning }, ⟨_, rfl, R1.keep, fun _ => encR_ok (decRs_ok hr h4), fun te h => (by rw [hown] at h; cases h), fun j bk hj => ?_⟩, ?_, rfl, rfl, R1.defers, rfl, fn, hf, hrun⟩
          · obtain ⟨t, ty, x0, cells, ps, g1, g2, g3, g4, g5⟩ := decOuts_at hz j bk hj
            obtain ⟨g, cv, q1, q2, q3, q4, q5⟩ := R1.heap _ _ g3
            have hlt : j < gs.length := by rw [hE.len]; exact (List.getElem?_eq_some_iff.1 g1).1
            have hgj := List.getElem?_eq_getElem hlt
            have hh := R1.hand j _ hgj
            have hgg : g = gs[j] := by
              rw [hh] at q1
              simp only [ptrTo, Value.pointer.injEq, Option.some.injEq, Addr.mk.injEq, and_true] at q1
              exact q1.symm
            have hrc := pvs_ok (S := S) hl R1 (l := cells) (us := cv.toList) (fun x hx => hp_all g3 x hx) g4 (by simpa using q3.symm) (fun i c u hc hu => by
              obtain ⟨v, h11, _, h12⟩ := q5 i c hc
              rw [Array.getElem?_toList, h11] at hu
              injection hu with hu
              exact hu ▸ h12)
            have hrep := repC_step hst (rep_unpack (rep_packAll g5 hrc))
            subst g2
            refine ⟨g, cv, ?_, q2, ?_, (fun h => by cases h), fun i c hc => ?_⟩
            · unfold handIo
              rw [Nat.add_sub_cancel_left, List.getD, hgj, hgg]
              rfl
            · have := repC_len hrep
              simpa using this.symm
            · have := repC_cells (h := fun _ => none) (io := handIo gs) hrep i c hc
              simpa using this
          · rw [henter]
            exact hs
        · exact h1.elim
      · exact h1.elim
end
end Go.Proofs.YtieeiiibamkbmaaGreat.Am
