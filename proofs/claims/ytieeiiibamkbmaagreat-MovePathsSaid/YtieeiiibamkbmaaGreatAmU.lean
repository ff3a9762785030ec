/- A call of the abstract machine tells what the program's call does. Conditions: what is known of the callees ('FeOk'). -/
import Derived.Test.YtieeiiibamkbmaaGreatAmS
namespace Go.Proofs.YtieeiiibamkbmaaGreat.Am
open Go Go.RowKit
set_option linter.unusedVariables false
set_option linter.unusedSimpArgs false

section
variable {P : Program} {nt : Nat} {Γ : List Fe} {C : Seat} {Q : Exit → Act → World → Prop} {o : Oper} {S : St} {r : Nat → RV} {h : Hp} {io : Nat → Value} {a : Act} {w w' : World} {N : Nat → Prop}
/-- What is common to a call's two kinds of results. -/
theorem call_enter (R : Rel C r h io a w) {args as : List RV} {us : List Value} {ids : List Nat} {bks : List Blk} {e : Fe} {x : dens (valTys e.ps)} {y : dens (bTys e.bs)}
    (hh : ∀ k ∈ args.flatMap heapOf ++ ids, h k = S.hp k) (has : allSome (args.map (argRV S)) = some as) (hbks : allSome (ids.map S.hp) = some bks)
    (hc : (as.flatMap refs1 ++ bks.flatMap refsIn).all (fun k => ids.contains k) = true) (hn : ids.Nodup)
    (hx : decPs e.ps (as.map (renRV (ren ids))) = some x) (hy : decBs e.bs (bks.map (renBlk (ren ids))) = some y)
    (hu1 : us.length = args.length) (hu2 : ∀ (j : Nat) (x : RV) (u : Value), args[j]? = some x → us[j]? = some u → repR w (NN C.Nx io h) io h x u) :
    (Enter w (NN C.Nx io (h.app (seals S args))) (gsOf io ids) e.bs (entry e.ps e.bs x y) us ∧ us.length = e.ps.length) ∧
    (∀ k ∈ ids, (h.app (seals S args)) k = S.hp k ∧ h k = S.hp k) ∧ ids.length = e.bs.length ∧
    (∀ (j : Nat) (t : TypeId) (ty : Ty), e.bs[j]? = some (BS.val true t ty) → ∃ k cs g, ids[j]? = some k ∧ S.hp k = some (.box true t cs) ∧ io k = ptrTo g) := by
  have hrow : ∀ k, RV.row k ∈ args → h k = S.hp k := fun k hk => hh k (List.mem_append_left _ (mem_heapOf hk))
  have R1 := R.sealTo (SealTo.seals hrow)
  obtain ⟨hb1, hb2⟩ := decBs_box hy
  simp only [List.length_map] at hb1
  have hbl := allSome_len hbks
  simp only [List.length_map] at hbl
  have hbk : ∀ (j k : Nat), ids[j]? = some k → ∃ wr t cs, bks[j]? = some (.box wr t cs) ∧ S.hp k = some (.box wr t cs) := by
    intro j k hj
    have hlt : j < bks.length := by
      have := (List.getElem?_eq_some_iff.1 hj).1
      omega
    have h1 := List.getElem?_eq_getElem hlt
    have h2 := allSome_get hbks h1
    rw [List.getElem?_map, hj, Option.map_some, Option.some.injEq] at h2
    obtain ⟨wr, t, cs, h3⟩ := hb2 (renBlk (ren ids) bks[j]) (List.mem_map.2 ⟨_, List.getElem_mem hlt, rfl⟩)
    cases hb : bks[j] with
    | box wr t cs => exact ⟨wr, t, cs, by rw [h1, hb], by rw [h2, hb]⟩
    | _ => rw [hb] at h3; simp [renBlk] at h3
  have hsame : ∀ k ∈ ids, (h.app (seals S args)) k = S.hp k ∧ h k = S.hp k := by
    intro k hk
    have h1 := hh k (List.mem_append_right _ hk)
    refine ⟨?_, h1⟩
    obtain ⟨j, hj, hjk⟩ := List.mem_iff_getElem.1 hk
    obtain ⟨wr, t, cs, _, h2⟩ := hbk j k (by rw [List.getElem?_eq_getElem hj, hjk])
    rcases seals_at S args k (h k) with ⟨te, e', xs, h3, _⟩ | ⟨_, h3⟩
    · rw [h2] at h3; cases h3
    · exact Eq.trans h3 h1
  refine ⟨enter_ok R1 (fun q hq => ?_) ?_ (fun j q u hq hu => ?_) (fun j k hj => ?_) hbl hn (fun k hk => ?_) hx hy, hsame, hbl.symm.trans hb1, fun j t ty hj => ?_⟩
  · obtain ⟨j, hj, rfl⟩ := List.mem_iff_getElem.1 hq
    have h1 := allSome_get has (List.getElem?_eq_getElem hj)
    rw [List.getElem?_map, Option.map_eq_some_iff] at h1
    obtain ⟨x0, _, h2⟩ := h1
    exact argRV_kind h2
  · have := allSome_len has
    simp only [List.length_map] at this
    omega
  · have h1 := allSome_get has hq
    rw [List.getElem?_map, Option.map_eq_some_iff] at h1
    obtain ⟨x0, h2, h3⟩ := h1
    exact argRV_ok hrow R (List.mem_of_getElem? h2) h3 (hu2 j x0 u h2 hu)
  · obtain ⟨wr, t, cs, h1, h2⟩ := hbk j k hj
    exact ⟨_, h1, (hsame k (List.mem_of_getElem? hj)).1.trans h2⟩
  · have := List.all_eq_true.1 hc k hk
    simpa using this
  · obtain ⟨cs, h1⟩ := (decBs_at hy j).1 t ty hj
    rw [List.getElem?_map, Option.map_eq_some_iff] at h1
    obtain ⟨b0, h2, h3⟩ := h1
    have hlt : j < ids.length := by
      have := (List.getElem?_eq_some_iff.1 h2).1
      omega
    obtain ⟨wr, t', cs0, h4, h5⟩ := hbk j ids[j] (List.getElem?_eq_getElem hlt)
    rw [h2] at h4
    injection h4 with h4
    subst h4
    simp only [renBlk, Blk.box.injEq] at h3
    obtain ⟨rfl, rfl, _⟩ := h3
    obtain ⟨g, vals, h6, _⟩ := R.heap ids[j] _ ((hsame _ (List.getElem_mem hlt)).2.trans h5)
    exact ⟨ids[j], cs0, g, List.getElem?_eq_getElem hlt, h5, h6⟩
theorem doing_wp {f : FuncId} {args : Array Value} {L : World → Value → Prop} {K : Act → World → Prop} (hrun : (execOp a.eval o).run P w = (callFunc f args).run P w) (h : Doing P f args w (fun en w' => ∃ u, en = .returned u ∧ L w' u))
    (hK : ∀ w' u, L w' u → K (a.put o.dst u) w') : o.wp P a w K Q := by
  unfold Oper.wp
  rw [hrun]
  rcases h with ⟨fn, g1, g2, g3, h⟩ | ⟨u, g1, u', g2, g3⟩
  · rw [run_callFunc g1 g2 g3]
    refine h.mono ?_
    rintro en w' ⟨u, rfl, hL⟩
    exact hK w' u hL
  · rw [g1]
    injection g2 with g2
    subst g2
    exact hK w u g3
theorem callF_ok (hΓ : ∀ e ∈ Γ, FeOk P e) {f : FuncId} {args : List RV} {K : Eff → Prop} (hd : dstOk nt o = true) (hk : callF Γ S o.dst f args K)
    (hrun : ∀ {C : Seat} (r : Nat → RV) (h : Hp), (∀ t ∈ opTmps o, r t = S.get t) → ∀ io a w, Rel C r h io a w → ∃ us : List Value, us.length = args.length ∧
      (∀ (j : Nat) (x : RV) (u : Value), args[j]? = some x → us[j]? = some u → repR w (NN C.Nx io h) io h x u) ∧
      (execOp a.eval o).run P w = (callFunc f us.toArray).run P w) : ∃ e, K e ∧ OpOk P nt o S e := by
  unfold callF at hk
  split at hk
  · exact hk.elim
  rename_i as has
  simp only at hk
  have hn : (reach S 4 (addNew [] (as.flatMap refs1))).Nodup := reach_nodup _ _ (addNew_nodup _ _ List.nodup_nil)
  generalize reach S 4 (addNew [] (as.flatMap refs1)) = ids at hk hn
  split at hk
  · exact hk.elim
  rename_i bks hbks
  cases hc : (as.flatMap refs1 ++ bks.flatMap refsIn).all (fun k => ids.contains k) with
  | false => rw [hc] at hk; exact hk.elim
  | true =>
    rw [hc] at hk
    simp only [cond_true] at hk
    split at hk
    · exact hk.elim
    rename_i e he
    obtain ⟨he1, he2⟩ := findFe_some he
    have hok := hΓ e he1
    unfold Fe.run at hk
    simp only at hk
    split at hk
    · rename_i x y hx hy
      obtain ⟨r0, z, hk1, hcalls⟩ := hok.calls x y _ hk
      cases ho : e.own with
      | none =>
        rw [ho] at hk1
        simp only at hk1
        refine ⟨_, hk1, ?_⟩
        intro C Q hnt r h hr hh io a w R
        obtain ⟨us, hu1, hu2, hu3⟩ := hrun r h hr io a w R
        have hh' : ∀ k ∈ args.flatMap heapOf ++ ids, h k = S.hp k := fun k hk => hh k (.inl hk)
        obtain ⟨⟨hE, hEl⟩, hsame, hlen, hw⟩ := call_enter R hh' has hbks hc hn hx hy hu1 hu2
        have h0 := hcalls w _ _ us hE hEl
        rw [he2] at h0
        refine doing_wp hu3 h0 (fun w' u hL => ?_)
        replace hL : Left e w w' _ _ r0 z u := hL
        have hrow : ∀ k, RV.row k ∈ args → h k = S.hp k := fun k hk => hh' k (List.mem_append_left _ (mem_heapOf hk))
        have R1 := R.sealTo (SealTo.seals hrow)
        have key : ∃ hb, Rel C r hb io a w ∧ h.app (muts ids (encBs e.bs z) ++ (bif e.sl then seals S args else [])) = hb.app (muts ids (encBs e.bs z)) ∧
            (∀ t, t ∈ e.rs ∨ t ∈ oTys e.bs → Conv w' (NN C.Nx io (h.app (seals S args))) (NN C.Nx io hb) t) ∧ ∀ k ∈ ids, hb k = S.hp k := by
          cases hs : e.sl with
          | true => exact ⟨_, R1, by rw [cond_true, app_append], fun t _ => .inr (fun b _ hb => hb), fun k hk => (hsame k hk).1⟩
          | false =>
            have := hok.sl ho hs
            simp only [Bool.and_eq_true, List.all_eq_true] at this
            exact ⟨_, R, by rw [cond_false, List.append_nil], fun t ht => .inl (ht.elim (this.1 t) (this.2 t)), fun k hk => (hsame k hk).2⟩
        obtain ⟨hb, Rb, hb1, hb2, hb3⟩ := key
        rw [hb1]
        obtain ⟨R2, hown⟩ := left_ok Rb hn hlen (fun j t ty hj => by
          obtain ⟨k, cs, g, q1, q2, q3⟩ := hw j t ty hj
          exact ⟨k, cs, g, q1, (hb3 k (List.mem_of_getElem? q1)).trans q2, q3⟩) hL (fun t ht => hb2 t (.inr ht))
        refine ⟨io, R2.pure o.dst _ u (fun _ => ?_) (dst_lt hd hnt)⟩
        refine repR_conv (fun t ht => (hb2 t (.inl ht)).imp id (fun hx b hb' hnb hnn => hx b hb' hnb ?_)) (hL.res ho)
        rcases hnn with hnn | ⟨k, hk⟩
        · exact .inl hnn
        · exact .inr ⟨k, (hown k b).1 hk⟩
      | some te =>
        rw [ho] at hk1
        generalize heq2 : encR e.rs r0 = rv at hk1
        obtain ⟨el, xs, rfl⟩ : ∃ (el : Ty) (xs : List el.den), rv = .p (.v (.v (.slice el) xs)) := by
          match rv, hk1 with
          | .p (.v (.v (.slice el) xs)), _ => exact ⟨el, xs, rfl⟩
        · replace hk1 : bif e.bs.isEmpty then newRow S o.dst (Blk.row te el xs) [] (List.flatMap heapOf args ++ ids) K else False := hk1
          cases hbs : e.bs.isEmpty with
          | false => rw [hbs] at hk1; exact hk1.elim
          | true =>
            rw [hbs, cond_true] at hk1
            unfold newRow at hk1
            split at hk1
            · rename_i d hdst
              split at hk1
              · rename_i hnone
                refine ⟨_, hk1, ?_⟩
                intro C Q hnt r h hr hh io a w R
                obtain ⟨us, hu1, hu2, hu3⟩ := hrun r h hr io a w R
                have hh' : ∀ k ∈ args.flatMap heapOf ++ ids, h k = S.hp k := fun k hk => hh k (.inl (List.mem_cons_of_mem _ hk))
                obtain ⟨⟨hE, hEl⟩, hsame, hlen, hw⟩ := call_enter R hh' has hbks hc hn hx hy hu1 hu2
                have h0 := hcalls w _ _ us hE hEl
                rw [he2] at h0
                refine doing_wp hu3 h0 (fun w' u hL => ?_)
                replace hL : Left e w w' _ _ r0 z u := hL
                have hhd : h d = none := (hh d (.inl (by simp))).trans hnone
                obtain ⟨el', xs', cs, g1, g2, g3, g4, g5⟩ := hL.row te ho
                rw [heq2] at g1
                injection g1 with g1
                injection g1 with g1
                injection g1 with g1 g6
                injection g1 with g1
                subst g1
                have g6 := eq_of_heq g6
                subst g6
                obtain ⟨io1, R1⟩ := R.fresh (dst_lt hd hnt d hdst) hhd none (fun k e => by cases e) (.row te el xs) (.inr ⟨te, el, xs, rfl⟩) u
                  (hL.keep.mono (fun g _ hg => by
                    obtain ⟨j, t, ty, h1, _⟩ := hg
                    rw [List.isEmpty_iff.1 hbs] at h1
                    simp at h1)) (fun g hg => .inl (by
                    rcases g3.2 with ⟨h1, _⟩ | ⟨g', cap, cur, h1, h2, _⟩
                    · rw [h1] at hg; simp [blkOf] at hg
                    · rw [h1] at hg
                      simp only [blkOf, Option.some.injEq] at hg
                      subst hg
                      exact h2)) (.row d) (fun io1 h1' hio hiod hd1 hborn hM => by
                    refine ⟨⟨cs, ?_, g4, fun i x hx => ?_⟩, by simp [hd1], fun _ => hiod.symm⟩
                    · rw [hiod]
                      refine ⟨g3.1, ?_⟩
                      rcases g3.2 with h1 | ⟨g', cap, cur, h1, h2, h3⟩
                      · exact .inl h1
                      · exact .inr ⟨g', cap, cur, h1, Nat.zero_le _, h3⟩
                    · obtain ⟨es, h1, h2⟩ := g5 i x hx
                      exact ⟨es, rep_noSl g2 h1, h2⟩)
                refine ⟨io1, ?_⟩
                rw [hdst, app_one, ← kill_none h]
                exact R1
              · exact hk1.elim
            · exact hk1.elim
    · exact hk.elim
end
end Go.Proofs.YtieeiiibamkbmaaGreat.Am
