/- A region of the abstract machine that draws its order. Conditions: what is known of the callees ('FeOk'). -/
import Derived.Test.YtieeiiibamkbmaaGreatAmWA
namespace Go.Proofs.YtieeiiibamkbmaaGreat.Am
open Go Go.RowKit
set_option linter.unusedVariables false
set_option linter.unusedSimpArgs false

def usR (l : List Oper) (vs : List (Bool × Eff)) : List (Nat → Option RV) := (l.zip vs).map (fun q => updR q.1.dst q.2.2.v)
def usH (vs : List (Bool × Eff)) : List (Nat → Option (Option Blk)) := vs.map (fun v => updH v.2.hp)
section
variable {P : Program} {nt : Nat} {Γ : List Fe} {C : Seat} {Q : Exit → Act → World → Prop} {r r' : Nat → RV} {h h' : Hp} {io : Nat → Value} {a : Act} {w : World}
theorem tr_at {ops : List Oper} {l : List Oper} {vs : List (Bool × Eff)} (hT : Tr P nt ops l r h vs r' h') : ∀ i : Nat, vs.length = l.length ∧ r' = foldU (fun _ => true) i (usR l vs) r ∧ h' = foldU (fun _ => true) i (usH vs) h ∧
    ∀ (j : Nat) (o : Oper) (v : Bool × Eff), l[j]? = some o → vs[j]? = some v → Does P nt ops o (foldU (fun m => decide (m < i + j)) i (usR l vs) r) (foldU (fun m => decide (m < i + j)) i (usH vs) h) v := by
  induction hT with
  | nil r h => intro i; exact ⟨rfl, rfl, rfl, fun j o v hj => by simp at hj⟩
  | cons hD hT ih =>
    rename_i o l r h v vs r' h'
    intro i
    obtain ⟨h1, h2, h3, h4⟩ := ih (i + 1)
    refine ⟨by simp [h1], ?_, ?_, fun j o' v' hj hv => ?_⟩
    · rw [h2, setR_upd]; rfl
    · rw [h3, app_upd]; rfl
    · cases j with
      | zero =>
        simp only [List.getElem?_cons_zero, Option.some.injEq] at hj hv
        subst hj hv
        rw [foldU_none _ i r (fun m _ => by simp), foldU_none _ i h (fun m _ => by simp)]
        exact hD
      | succ j =>
        have := h4 j o' v' (by simpa using hj) (by simpa using hv)
        have hd : decide (i < i + (j + 1)) = true := by simp
        have e1 : foldU (fun m => decide (m < i + (j + 1))) i (usR (o :: l) (v :: vs)) r = foldU (fun m => decide (m < i + 1 + j)) (i + 1) (usR l vs) (setR r o.dst v.2.v) := by
          show foldU _ (i + 1) (usR l vs) (if decide (i < i + (j + 1)) then applyU (updR o.dst v.2.v) r else r) = _
          rw [hd, if_pos rfl, setR_upd, show i + (j + 1) = i + 1 + j by omega]
        have e2 : foldU (fun m => decide (m < i + (j + 1))) i (usH (v :: vs)) h = foldU (fun m => decide (m < i + 1 + j)) (i + 1) (usH vs) (h.app v.2.hp) := by
          show foldU _ (i + 1) (usH vs) (if decide (i < i + (j + 1)) then applyU (updH v.2.hp) h else h) = _
          rw [hd, if_pos rfl, app_upd, show i + (j + 1) = i + 1 + j by omega]
        rw [e1, e2]
        exact this
def Cond (ops : List Oper) (bef : List Nat) (g f : Ft) : Prop := (bef.getD f.i 0).testBit g.i = true ∨ (apartH g f = true ∧ ∃ a b, ops[g.i]? = some a ∧ ops[f.i]? = some b ∧ apartR ops a b = true)
theorem mayNext_cond {ops : List Oper} {bef : List Nat} {hist : List Ft} {f g : Ft} (hm : mayNext ops bef hist f = true) (hg : g ∈ hist) : Cond ops bef g f := by
  unfold mayNext at hm
  have := List.all_eq_true.1 hm g hg
  simp only [Bool.or_eq_true, Bool.and_eq_true] at this
  refine this.imp id (fun h => ⟨h.1, ?_⟩)
  have h2 := h.2
  split at h2
  · rename_i a b ha hb
    exact ⟨a, b, ha, hb, h2⟩
  · cases h2
theorem apartL_at {ops : List Oper} {bef : List Nat} : ∀ {l : List Oper} {vs : List (Bool × Eff)} {i : Nat} {hist : List Ft}, ApartL ops bef i hist l vs → ∀ (j : Nat) (o : Oper) (v : Bool × Eff), l[j]? = some o → vs[j]? = some v →
    edgesOk o (i + j) = true ∧ (∀ g ∈ hist, Cond ops bef g (ftOf (i + j) v)) ∧ ∀ (m : Nat) (v' : Bool × Eff), m < j → vs[m]? = some v' → Cond ops bef (ftOf (i + m) v') (ftOf (i + j) v)
  | [], vs, i, hist, hA, j, o, v, hj, hv => by simp at hj
  | o0 :: l, [], i, hist, hA, j, o, v, hj, hv => by simp at hv
  | o0 :: l, v0 :: vs, i, hist, hA, 0, o, v, hj, hv => by
    simp only [List.getElem?_cons_zero, Option.some.injEq] at hj hv
    subst hj hv
    exact ⟨hA.2.1, fun g hg => mayNext_cond hA.1 hg, fun m v' hm => by omega⟩
  | o0 :: l, v0 :: vs, i, hist, hA, j + 1, o, v, hj, hv => by
    obtain ⟨h1, h2, h3⟩ := apartL_at hA.2.2 j o v (by simpa using hj) (by simpa using hv)
    rw [show i + 1 + j = i + (j + 1) by omega] at h1 h2 h3
    refine ⟨h1, fun g hg => h2 g (by simp [hg]), fun m v' hm hv' => ?_⟩
    cases m with
    | zero =>
      simp only [List.getElem?_cons_zero, Option.some.injEq] at hv'
      subst hv'
      exact h2 _ (by simp)
    | succ m =>
      have := h3 m v' (by omega) (by simpa using hv')
      rw [show i + 1 + m = i + (m + 1) by omega] at this
      exact this
theorem disj_not {a b : List Nat} (h : disj a b = true) {k : Nat} (ha : k ∈ a) (hb : k ∈ b) : False := by
  have := List.all_eq_true.1 h k ha
  simp [hb] at this
/-- Operation m does not touch what operation j looks at or changes. -/
structure Clear (ops : List Oper) (om oj : Oper) (vm vj : Bool × Eff) : Prop where
  reg : ∀ t, om.dst = some t → t ∉ uses ops oj ∧ oj.dst ≠ some t
  blk : ∀ k, k ∈ vm.2.hp.map (·.1) → k ∉ vj.2.hp.map (·.1) ∧ k ∉ vj.2.rd
theorem apartR_ok {ops : List Oper} {a b : Oper} (h : apartR ops a b = true) : (∀ d, a.dst = some d → d ∉ uses ops b ∧ b.dst ≠ some d) ∧ (∀ d, b.dst = some d → d ∉ uses ops a) := by
  unfold apartR at h
  simp only [Bool.and_eq_true] at h
  obtain ⟨h1, h2⟩ := h
  refine ⟨fun d hd => ?_, fun d hd => ?_⟩
  · rw [hd] at h1
    simp only [Bool.and_eq_true, Bool.not_eq_true', List.contains_eq_mem, decide_eq_false_iff_not, beq_eq_false_iff_ne, ne_eq] at h1
    exact h1
  · rw [hd] at h2
    simpa using h2
theorem countP_lt {p q : Nat → Bool} {y : Nat} : ∀ {l : List Nat}, (∀ x ∈ l, q x = true → p x = true) → y ∈ l → p y = true → q y = false → l.countP q < l.countP p
  | [], _, hy, _, _ => by simp at hy
  | x :: l, h, hy, hp, hq => by
    rw [List.countP_cons, List.countP_cons]
    have hle : l.countP q ≤ l.countP p := List.countP_mono_left (fun x hx => h x (List.mem_cons_of_mem _ hx))
    rcases List.mem_cons.1 hy with rfl | hy
    · simp only [hp, hq, if_true, Bool.false_eq_true, if_false]
      omega
    · have ih := countP_lt (fun x hx => h x (List.mem_cons_of_mem _ hx)) hy hp hq
      have hx := h x (by simp)
      cases hqx : q x with
      | false => simp; omega
      | true => rw [hx hqx]; simp; omega
variable {ops : Array Oper} {vs : List (Bool × Eff)}
theorem clear_of {j m : Nat} {oj om : Oper} {vj vm : Bool × Eff} {bef : List Nat} (hA : ApartL ops.toList bef 0 [] ops.toList vs) (hj : ops[j]? = some oj) (hm : ops[m]? = some om) (hvj : vs[j]? = some vj) (hvm : vs[m]? = some vm)
    (hb : (m < j ∧ (bef.getD j 0).testBit m = false) ∨ (j < m ∧ (bef.getD m 0).testBit j = false)) : Clear ops.toList om oj vm vj := by
  have gt : ∀ {x : Nat} {o : Oper}, ops[x]? = some o → ops.toList[x]? = some o := fun h => by rw [Array.getElem?_toList]; exact h
  rcases hb with ⟨hlt, hb⟩ | ⟨hlt, hb⟩
  · have h1 := (apartL_at hA j oj vj (gt hj) hvj).2.2 m vm hlt hvm
    rw [Nat.zero_add, Nat.zero_add] at h1
    rcases h1 with h1 | ⟨h1, a, b, h2, h3, h4⟩
    · simp only [ftOf] at h1
      rw [hb] at h1; cases h1
    · simp only [ftOf, gt hm, gt hj, Option.some.injEq] at h2 h3
      subst h2 h3
      simp only [apartH, ftOf, Bool.and_eq_true] at h1
      exact ⟨(apartR_ok h4).1, fun k hk => ⟨fun hk' => disj_not h1.1.1 hk hk', fun hk' => disj_not h1.1.2 hk hk'⟩⟩
  · have h1 := (apartL_at hA m om vm (gt hm) hvm).2.2 j vj hlt hvj
    rw [Nat.zero_add, Nat.zero_add] at h1
    rcases h1 with h1 | ⟨h1, a, b, h2, h3, h4⟩
    · simp only [ftOf] at h1
      rw [hb] at h1; cases h1
    · simp only [ftOf, gt hm, gt hj, Option.some.injEq] at h2 h3
      subst h2 h3
      simp only [apartH, ftOf, Bool.and_eq_true] at h1
      exact ⟨fun t ht => ⟨(apartR_ok h4).2 t ht, fun hjt => ((apartR_ok h4).1 t hjt).2 ht⟩, fun k hk => ⟨fun hk' => disj_not h1.1.1 hk' hk, fun hk' => disj_not h1.2 hk hk'⟩⟩
theorem usR_at {l : List Oper} {m : Nat} {u : Nat → Option RV} (hu : (usR l vs)[m]? = some u) : ∃ o v, l[m]? = some o ∧ vs[m]? = some v ∧ u = updR o.dst v.2.v := by
  unfold usR at hu
  rw [List.getElem?_map, Option.map_eq_some_iff] at hu
  obtain ⟨q, h1, h2⟩ := hu
  rw [List.getElem?_zip_eq_some] at h1
  exact ⟨q.1, q.2, h1.1, h1.2, h2.symm⟩
theorem usH_at {m : Nat} {u : Nat → Option (Option Blk)} (hu : (usH vs)[m]? = some u) : ∃ v, vs[m]? = some v ∧ u = updH v.2.hp := by
  unfold usH at hu
  rw [List.getElem?_map, Option.map_eq_some_iff] at hu
  obtain ⟨v, h1, h2⟩ := hu
  exact ⟨v, h1, h2.symm⟩
theorem updR_some {d : Option Tmp} {v : RV} {t : Nat} (h : updR d v t ≠ none) : d = some t := by
  unfold updR at h
  split at h
  · assumption
  · exact absurd rfl h
theorem updH_some {hs : List (Nat × Blk)} {k : Nat} (h : updH hs k ≠ none) : k ∈ hs.map (·.1) := by
  unfold updH at h
  split at h
  · assumption
  · exact absurd rfl h
theorem tr_any (hn : C.nt = nt) (hT : Tr P nt ops.toList ops.toList r h vs r' h') (hA : ApartL ops.toList (Region.before ops).toList 0 [] ops.toList vs) (hQ : ∀ io a w, Rel C r' h' io a w → Q .normal a w) :
    ∀ (fuel : Nat) (listed : Array Bool) (io : Nat → Value) (a : Act) (w : World), listed.size = ops.size →
      (∀ i, listed.getD i false = true → ∀ k, ((Region.before ops).getD i 0).testBit k = true → listed.getD k false = true) →
      (List.range ops.size).countP (fun m => !listed.getD m false) ≤ fuel →
      Rel C (foldU (fun m => listed.getD m false) 0 (usR ops.toList vs) r) (foldU (fun m => listed.getD m false) 0 (usH vs) h) io a w → wpAny P .any ops Q fuel listed a w := by
  obtain ⟨hlen, hr', hh', hdoes⟩ := tr_at hT 0
  have gt : ∀ {x : Nat} {o : Oper}, ops[x]? = some o → ops.toList[x]? = some o := fun h => by rw [Array.getElem?_toList]; exact h
  have tg : ∀ {x : Nat} {o : Oper}, ops.toList[x]? = some o → ops[x]? = some o := fun h => by rw [Array.getElem?_toList] at h; exact h
  have hv : ∀ i, i < ops.size → ∃ o v, ops[i]? = some o ∧ vs[i]? = some v := fun i hi => by
    have h2 : i < vs.length := by rw [hlen]; simpa using hi
    exact ⟨_, _, Array.getElem?_eq_getElem hi, List.getElem?_eq_getElem h2⟩
  have hbl : ∀ i, (Region.before ops).toList.getD i 0 = (Region.before ops).getD i 0 := fun i => by simp
  have hready : ∀ listed : Array Bool, listed.size = ops.size → Region.ready .any ops listed = [] → ∀ i, i < ops.size → listed.getD i false = true := by
    intro listed hsz hr i
    induction i using Nat.strongRecOn with
    | _ i ih =>
      intro hi
      cases hl : listed.getD i false with
      | true => rfl
      | false =>
        obtain ⟨o, v, ho, hvi⟩ := hv i hi
        have : i ∈ Region.ready .any ops listed := by
          refine mem_ready.2 ⟨?_, o, ho, fun e he hb => ?_⟩
          · simp [hsz, hi] at hl ⊢
            exact hl
          · have h1 := (apartL_at hA i o v (gt ho) hvi).1
            rw [Nat.zero_add] at h1
            unfold edgesOk at h1
            have h2 := List.all_eq_true.1 h1 e (by simpa using he)
            rw [hb] at h2
            simp only [Bool.not_true, Bool.false_or] at h2
            have h3 : e.on < i := by simpa using h2
            exact ih e.on h3 (by omega)
        rw [hr] at this
        cases this
  have hdone : ∀ (listed : Array Bool) (io : Nat → Value) (a : Act) (w : World), listed.size = ops.size → Region.ready .any ops listed = [] →
      Rel C (foldU (fun m => listed.getD m false) 0 (usR ops.toList vs) r) (foldU (fun m => listed.getD m false) 0 (usH vs) h) io a w → Q .normal a w := by
    intro listed io a w hsz hr R
    have hall := hready listed hsz hr
    have e1 : foldU (fun m => listed.getD m false) 0 (usR ops.toList vs) r = r' := by
      rw [hr']
      funext t
      refine foldU_agree _ 0 r r rfl (fun m u hm _ => ?_)
      obtain ⟨o, v, h1, _, _⟩ := usR_at hm
      rw [Nat.zero_add]
      exact hall m (by simpa using (Array.getElem?_eq_some_iff.1 (tg h1)).1)
    have e2 : foldU (fun m => listed.getD m false) 0 (usH vs) h = h' := by
      rw [hh']
      funext t
      refine foldU_agree _ 0 h h rfl (fun m u hm _ => ?_)
      obtain ⟨v, h1, _⟩ := usH_at hm
      rw [Nat.zero_add]
      have := (List.getElem?_eq_some_iff.1 h1).1
      exact hall m (by rw [hlen] at this; simpa using this)
    rw [e1, e2] at R
    exact hQ io a w R
  intro fuel
  induction fuel with
  | zero =>
    intro listed io a w hsz hcl hcount R
    have hr : Region.ready .any ops listed = [] := by
      cases hr : Region.ready .any ops listed with
      | nil => rfl
      | cons i rs =>
        have hi : i ∈ Region.ready .any ops listed := by rw [hr]; simp
        obtain ⟨h1, o, h2, _⟩ := mem_ready.1 hi
        have hlt := (Array.getElem?_eq_some_iff.1 h2).1
        have h3 := List.countP_eq_zero.1 (Nat.le_zero.1 hcount) i (List.mem_range.2 hlt)
        simp [hsz, hlt] at h1 h3
        rw [h1] at h3
        cases h3
    exact ⟨hr, hdone listed io a w hsz hr R⟩
  | succ fuel ih =>
    intro listed io a w hsz hcl hcount R
    refine ⟨fun hr => hdone listed io a w hsz hr R, fun j hj => ?_⟩
    obtain ⟨hj1, oj, hoj, hedges⟩ := mem_ready.1 hj
    have hlt := (Array.getElem?_eq_some_iff.1 hoj).1
    have hj2 : listed.getD j false = false := by
      simp [hsz, hlt] at hj1 ⊢
      exact hj1
    obtain ⟨_, vj, _, hvj⟩ := hv j hlt
    have hbj : ∀ k, ((Region.before ops).getD j 0).testBit k = true → listed.getD k false = true := by
      intro k hk
      obtain ⟨o, h1, e, h2, h3, h4⟩ := before_bit hk
      rw [hoj] at h1
      injection h1 with h1
      subst h1
      have h5 := hedges e h2 h3
      rcases h4 with h4 | h4
      · rw [← h4]; exact h5
      · exact hcl e.on h5 k h4
    have hclear : ∀ (m : Nat) (om : Oper) (vm : Bool × Eff), ops[m]? = some om → vs[m]? = some vm → (m < j ∧ listed.getD m false = false) ∨ (j < m ∧ listed.getD m false = true) → Clear ops.toList om oj vm vj := by
      intro m om vm hom hvm hc
      refine clear_of hA hoj hom hvj hvm (hc.imp (fun h => ⟨h.1, ?_⟩) (fun h => ⟨h.1, ?_⟩))
      · rw [hbl]
        cases hb : ((Region.before ops).getD j 0).testBit m with
        | false => rfl
        | true => rw [hbj m hb] at h; cases h.2
      · rw [hbl]
        cases hb : ((Region.before ops).getD m 0).testBit j with
        | false => rfl
        | true =>
          have := hcl m h.2 j hb
          rw [hj2] at this; cases this
    have hagree : ∀ (m : Nat) (om : Oper) (vm : Bool × Eff), ops[m]? = some om → vs[m]? = some vm → ¬ Clear ops.toList om oj vm vj → listed.getD m false = decide (m < j) := by
      intro m om vm hom hvm hc
      rcases Nat.lt_trichotomy m j with hlt | rfl | hgt
      · cases hl : listed.getD m false with
        | true => simp [hlt]
        | false => exact absurd (hclear m om vm hom hvm (.inl ⟨hlt, hl⟩)) hc
      · rw [hj2]; simp
      · cases hl : listed.getD m false with
        | true => exact absurd (hclear m om vm hom hvm (.inr ⟨hgt, hl⟩)) hc
        | false => simp; omega
    have hset : ∀ m, (listed.setIfInBounds j true).getD m false = if m = j then true else listed.getD m false := by
      intro m
      by_cases hm : m = j
      · subst hm
        simp [hsz, hlt]
      · rw [if_neg hm]
        have : j ≠ m := fun e => hm e.symm
        simp [Array.getElem?_setIfInBounds_ne this]
    have hju : (usR ops.toList vs)[j]? = some (updR oj.dst vj.2.v) := by
      unfold usR
      rw [List.getElem?_map, List.getElem?_zip_eq_some.2 ⟨gt hoj, hvj⟩ |> fun h => (h : (ops.toList.zip vs)[j]? = some (oj, vj))]
      rfl
    have hjh : (usH vs)[j]? = some (updH vj.2.hp) := by
      unfold usH
      rw [List.getElem?_map, hvj]
      rfl
    have hD := hdoes j oj vj (gt hoj) hvj
    rw [Nat.zero_add] at hD
    refine does_op hoj hD hn (fun t ht => ?_) (fun k hk => ?_) R (fun io a w R' => ?_)
    · refine foldU_agree _ 0 r r rfl (fun m u hm hu => ?_)
      obtain ⟨om, vm, h1, h2, rfl⟩ := usR_at hm
      rw [Nat.zero_add]
      exact hagree m om vm (tg h1) h2 (fun hc => (hc.reg t (updR_some hu)).1 ht)
    · refine foldU_agree _ 0 h h rfl (fun m u hm hu => ?_)
      obtain ⟨vm, h2, rfl⟩ := usH_at hm
      have h3 : m < ops.size := by
        have := (List.getElem?_eq_some_iff.1 h2).1
        rw [hlen] at this
        simpa using this
      rw [Nat.zero_add]
      exact hagree m _ vm (Array.getElem?_eq_getElem h3) h2 (fun hc => hk.elim (hc.blk k (updH_some hu)).2 (hc.blk k (updH_some hu)).1)
    · refine ih (listed.setIfInBounds j true) io a w (by simpa using hsz) (fun i hi k hk => ?_) ?_ ?_
      · rw [hset] at hi ⊢
        by_cases hik : k = j
        · simp [hik]
        · rw [if_neg hik]
          by_cases hij : i = j
          · subst hij
            exact hbj k hk
          · rw [if_neg hij] at hi
            exact hcl i hi k hk
      · have := countP_lt (l := List.range ops.size) (p := fun m => !listed.getD m false) (q := fun m => !(listed.setIfInBounds j true).getD m false) (y := j) (fun x _ hx => by
          simp only [hset] at hx
          by_cases hxj : x = j
          · simp [hxj] at hx
          · simpa [hxj] using hx) (List.mem_range.2 hlt) (by simp only [hj2]; rfl) (by simp only [hset]; simp)
        omega
      · have e1 : foldU (fun m => (listed.setIfInBounds j true).getD m false) 0 (usR ops.toList vs) r = setR (foldU (fun m => listed.getD m false) 0 (usR ops.toList vs) r) oj.dst vj.2.v := by
          rw [setR_upd]
          refine foldU_insert hju (by simp only [hset]; simp) (fun m hm => by simp only [hset, if_neg hm]) (fun m u' hm hgt hDm t ht => ?_)
          obtain ⟨om, vm, h1, h2, rfl⟩ := usR_at hm
          have hc := hclear m om vm (tg h1) h2 (.inr ⟨hgt, hDm⟩)
          cases hu : updR om.dst vm.2.v t with
          | none => rfl
          | some x => exact absurd (updR_some ht) (hc.reg t (updR_some (by rw [hu]; simp))).2
        have e2 : foldU (fun m => (listed.setIfInBounds j true).getD m false) 0 (usH vs) h = Hp.app (foldU (fun m => listed.getD m false) 0 (usH vs) h) vj.2.hp := by
          rw [app_upd]
          refine foldU_insert hjh (by simp only [hset]; simp) (fun m hm => by simp only [hset, if_neg hm]) (fun m u' hm hgt hDm k hk => ?_)
          obtain ⟨vm, h2, rfl⟩ := usH_at hm
          have h3 : m < ops.size := by
            have := (List.getElem?_eq_some_iff.1 h2).1
            rw [hlen] at this
            simpa using this
          have hc := hclear m _ vm (Array.getElem?_eq_getElem h3) h2 (.inr ⟨hgt, hDm⟩)
          cases hu : updH vm.2.hp k with
          | none => rfl
          | some x => exact absurd (updH_some hk) (hc.blk k (updH_some (by rw [hu]; simp))).1
        rw [e1, e2]
        exact R'
/-- A region. -/
theorem region_ok {Γ : List Fe} (hm : P.follows .mixedOrders = true) (hΓ : ∀ e ∈ Γ, FeOk P e) {id : Nat} {draw : Bool} {S : St} {K : St → Prop} (hk : opsK P Γ nt ops.toList (Region.before ops).toList draw ops.toList 0 [] S K) :
    ∃ S', K S' ∧ ∀ (C : Seat), C.nt = nt → ∀ (io : Nat → Value) (a : Act) (w : World), Rel C S.get S.hp io a w → (Code.region id ops draw).wp P (fun e a w => e = .normal ∧ ∃ io, Rel C S'.get S'.hp io a w) a w := by
  obtain ⟨vs, S', h1, h2, h3⟩ := opsK_tr hΓ _ _ _ _ _ hk
  refine ⟨S', h1, fun C hn io a w R => ?_⟩
  cases draw with
  | false =>
    refine wp_region ?_
    have := tr_seq (Q := fun e a w => e = .normal ∧ ∃ io, Rel C S'.get S'.hp io a w) hn h2 0 io a w (fun j o hj => by
      rw [Nat.zero_add]
      rw [Array.getElem?_toList] at hj
      exact hj) R (fun io a w hR => ⟨rfl, io, hR⟩)
    rw [List.range_eq_range']
    simpa using this
  | true =>
    refine wp_region_any hm ?_
    have R' : Rel C S.get S.hp io a { w with drawn := w.drawn + 1 } := R.world ⟨rfl, rfl, rfl, Nat.le_refl _, fun _ _ _ => rfl⟩
    have hrep : ∀ i, (Array.replicate ops.size false).getD i false = false := by
      intro i
      simp only [Array.getD_eq_getD_getElem?, Array.getElem?_replicate]
      split <;> rfl
    refine tr_any hn h2 (h3 rfl) (fun io a w hR => ⟨rfl, io, hR⟩) ops.size _ io a _ (by simp) (fun i hi => by rw [hrep] at hi; cases hi) ?_ ?_
    · refine Nat.le_trans (List.countP_le_length) (by simp)
    · rw [foldU_none, foldU_none]
      · exact R'
      · intro j _; exact hrep _
      · intro j _; exact hrep _
end
end Go.Proofs.YtieeiiibamkbmaaGreat.Am
