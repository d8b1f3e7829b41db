/- Sym: calls that are lent objects; slices and variables that nobody writes any more. Conditions: none. -/
import Derived.Test.YtajmjfdopminbaaSymk
set_option linter.unusedVariables false
set_option linter.unusedSimpArgs false
namespace Go.Proofs.Ytajmjfdopminbaa.Sym
open Go Go.RowKit

def delAll : Hp → List Nat → Hp
  | hp, [] => hp
  | hp, d :: r => delAll (delO hp d) r
theorem getO_delAll {id : Nat} {ob : Ob} : ∀ (ks : List Nat) (hp : Hp), getO (delAll hp ks) id = some ob → getO hp id = some ob ∧ id ∉ ks
  | [], hp, h => ⟨h, by simp⟩
  | d :: r, hp, h => by
    obtain ⟨h1, h2⟩ := getO_delAll r (delO hp d) h
    rw [getO_delO] at h1
    split at h1
    · cases h1
    · rename_i hne; exact ⟨h1, by simp [hne, h2]⟩
def renHp (ρ : Nat → Nat) (hp : Hp) : Hp := hp.map fun p => (ρ p.1, renO ρ p.2)
/-- What is lent fits the call. -/
def lentOk (k : Nat) (ρ : Nat → Nat) (fr : Fr) (hp hin hout : Hp) (r : AV) : Bool :=
  nodupB ((ids hin).map ρ) && nodupB ((ids hout).map ρ) && ((news hin hout).all fun i => fresh k (ρ i) fr hp) && ((mentA r).all fun i => hasN (ids hin) i || hasN (ids hout) i) && (hout.all fun p => (mentO p.2).all fun i => hasN (ids hin) i || hasN (ids hout) i)
/-- A call that is lent objects. -/
def evalC (P : Program) (k : Nat) (fr : Fr) (hp : Hp) (o : Op) (orc : Orc) : Option (AV × Hp × Prop × Orc) := match o with
  | .call c => match c.callee with
    | .value f => match calleeOf (opv fr f), asTs fr c.args.toList, orc with
      | some (q, caps), some args', .call ρ args hin r hout :: orc' =>
        bif lentOk k (asg ρ) fr hp hin hout r then
          some (renA (asg ρ) r, renHp (asg ρ) hout ++ delAll hp ((ids hin).map (asg ρ)), Spec P q args hin r hout ∧ args' ++ caps = args.map (renT (asg ρ)) ∧ renH (asg ρ) hin = pickH hp (asg ρ) (hin.map (·.1)), orc')
        else none
      | _, _, _ => none
    | _ => none
  | _ => none

section
variable {P : Program} {X : Tab} {E : Env} {w w' : World} {I I' : Im} {ι : Lo} {fr : Fr} {hp : Hp} {a : Act} {o : Oper}

theorem nodupB_getO {α : Type} {ρ : Nat → Nat} {hp : Hp} (hn : nodupB ((ids hp).map ρ) = true) {id : Nat} {ob : Ob} (hm : (id, ob) ∈ hp) : getO hp id = some ob := by
  induction hp with
  | nil => cases hm
  | cons p r ih =>
    obtain ⟨k, x⟩ := p
    simp only [ids, List.map_cons, nodupB, Bool.and_eq_true, List.all_eq_true, List.mem_map, bne_iff_ne] at hn
    simp only [getO]
    rcases List.mem_cons.1 hm with e | hm
    · cases e; simp
    · have : (k == id) = false := by
        cases h : k == id with
        | false => rfl
        | true =>
          have : k = id := by simpa using h
          subst this
          exact (hn.1 (ρ k) ⟨k, ⟨_, hm, rfl⟩, rfl⟩ rfl).elim
      rw [this]
      exact ih hn.2 hm
theorem getO_append {l m : Hp} {id : Nat} {ob : Ob} (h : getO (l ++ m) id = some ob) : getO l id = some ob ∨ getO m id = some ob := by
  induction l with
  | nil => exact .inr h
  | cons p r ih =>
    obtain ⟨k, x⟩ := p
    simp only [List.cons_append, getO] at h ⊢
    cases e : k == id with
    | true => rw [e] at h; exact .inl h
    | false => rw [e] at h; exact ih h
theorem ids_getO {hp : Hp} {id : Nat} (h : id ∈ ids hp) : ∃ ob, getO hp id = some ob := by
  induction hp with
  | nil => cases h
  | cons p r ih =>
    obtain ⟨k, x⟩ := p
    simp only [getO]
    cases e : k == id with
    | true => exact ⟨x, rfl⟩
    | false =>
      simp only [ids, List.map_cons, List.mem_cons] at h
      rcases h with h | h
      · subst h; simp at e
      · exact ih h
theorem mem_ids {hp : Hp} {id : Nat} {ob : Ob} (h : getO hp id = some ob) : id ∈ ids hp := List.mem_map.2 ⟨_, getO_mem h, rfl⟩

theorem St.lent (h : St E fr hp I ι a w) {ρ : Nat → Nat} {hin hout : Hp} {r : AV} (hok : lentOk E.k ρ fr hp hin hout r = true) (hh : renH ρ hin = pickH hp ρ (hin.map (·.1))) :
    Lent I (fun i => ι (ρ i)) w hin ∧ ∀ {v : Value} {I' : Im} {ι1 : Lo} {w' : World}, Ext (LB w (fun i => ι (ρ i)) hin) I w I' w' → RV I' ι1 v r → (∀ id ob, getO hin id = some ob → ι1 id = ι (ρ id)) → Lent I' ι1 w' hout →
      (∀ id ob B, getO hout id = some ob → owns w' (ι1 id) ob B → w.heap.size ≤ B ∨ LB w (fun i => ι (ρ i)) hin B) →
      ∃ ι', St E fr (renHp ρ hout ++ delAll hp ((ids hin).map ρ)) I' ι' a w' ∧ RV I' ι' v (renA ρ r) ∧ ∀ id, id ∉ (news hin hout).map ρ → ι' id = ι id := by
  classical
  simp only [lentOk, Bool.and_eq_true, List.all_eq_true, Bool.or_eq_true, hasN_iff] at hok
  obtain ⟨⟨⟨⟨hn1, hn2⟩, hfr⟩, hr⟩, ho⟩ := hok
  have hsp : ∀ {id ob}, getO hin id = some ob → getO hp (ρ id) = some (renO ρ ob) := fun hg => renH_spec hh hg
  have hinj : ∀ id id' ob ob', getO hin id = some ob → getO hin id' = some ob' → ρ id = ρ id' → id = id' := fun id id' ob ob' h1 h2 e => nodupB_spec hn1 id (mem_ids h1) id' (mem_ids h2) e
  refine ⟨⟨fun id ob hg => RO.ren.1 (h.rel.obj _ _ (hsp hg)), fun id ob hg B hB => (h.rel.own _ _ (hsp hg) B ((owns_ren B).2 hB)).2, fun id id' ob ob' h1 h2 B hB hB' => hinj _ _ _ _ h1 h2 (h.rel.inj _ _ _ _ (hsp h1) (hsp h2) B ((owns_ren B).2 hB) ((owns_ren B).2 hB'))⟩, ?_⟩
  intro v I' ι1 w' hx hv hfix hL hnew
  have hnewfresh : ∀ i ∈ news hin hout, freshB (ρ i) fr hp = true ∧ E.k ≤ ρ i := fun i hi => fresh_spec (hfr i hi)
  have hnews : ∀ {i}, i ∈ ids hout → i ∉ ids hin → i ∈ news hin hout := fun h1 h2 => List.mem_filter.2 ⟨h1, by simp only [Bool.not_eq_true']; cases hb : hasN (ids hin) _ with | false => rfl | true => exact (h2 (hasN_iff.1 hb)).elim⟩
  have hnews2 : ∀ {i}, i ∈ news hin hout → i ∈ ids hout ∧ i ∉ ids hin := fun h => by
    obtain ⟨h1, h2⟩ := List.mem_filter.1 h
    exact ⟨h1, fun q => by rw [hasN_iff.2 q] at h2; cases h2⟩
  let ι' : Lo := fun c => if hc : ∃ i, i ∈ news hin hout ∧ ρ i = c then ι1 hc.choose else ι c
  have hold : ∀ c, (∀ i ∈ news hin hout, ρ i ≠ c) → ι' c = ι c := fun c hc => by
    show (if hc : ∃ i, i ∈ news hin hout ∧ ρ i = c then ι1 hc.choose else ι c) = ι c
    rw [dif_neg]
    rintro ⟨i, h1, h2⟩
    exact hc i h1 h2
  have hnewv : ∀ i, i ∈ news hin hout → ι' (ρ i) = ι1 i := fun i hi => by
    have hex : ∃ j, j ∈ news hin hout ∧ ρ j = ρ i := ⟨i, hi, rfl⟩
    show (if hc : ∃ j, j ∈ news hin hout ∧ ρ j = ρ i then ι1 hc.choose else ι (ρ i)) = ι1 i
    rw [dif_pos hex]
    have h1 := hex.choose_spec
    rw [nodupB_spec hn2 _ (hnews2 h1.1).1 _ (hnews2 hi).1 h1.2]
  have hmap : ∀ i, i ∈ ids hin ∨ i ∈ ids hout → ι' (ρ i) = ι1 i := fun i hi => by
    by_cases hc : i ∈ ids hin
    · obtain ⟨ob, hg⟩ := ids_getO hc
      rw [hfix i ob hg]
      refine hold _ fun j hj e => ?_
      exact (freshB_ob (hnewfresh j hj).1 (hsp hg)).1 e.symm
    · exact hnewv i (hnews (hi.resolve_left hc) hc)
  refine ⟨ι', ?_, RV.ren.2 (hv.cong (Im.le_refl _) fun id hid => hmap id (hr id hid)), fun id hid => hold id fun i hi e => hid (List.mem_map.2 ⟨i, hi, e⟩)⟩
  have hLB : ∀ B, LB w (fun i => ι (ρ i)) hin B → E.w0.heap.size ≤ B ∨ E.L B := fun B ⟨id, ob, hg, hB⟩ => (h.rel.own _ _ (hsp hg) B ((owns_ren B).2 hB)).1
  refine h.step hx hLB (fun id hid => hold id fun i hi e => by have := (hnewfresh i hi).2; omega) ?_
  -- the objects
  have hfirst : ∀ id ob, getO (renHp ρ hout) id = some ob → ∃ j ob', getO hout j = some ob' ∧ id = ρ j ∧ ob = renO ρ ob' := fun id ob hg => by
    obtain ⟨p, hp', e⟩ := List.mem_map.1 (getO_mem hg)
    cases e
    exact ⟨p.1, p.2, nodupB_getO (α := Unit) hn2 hp', rfl, rfl⟩
  have hsecond : ∀ id ob, getO (delAll hp ((ids hin).map ρ)) id = some ob → getO hp id = some ob ∧ ∀ B, owns w (ι id) ob B → ¬ LB w (fun i => ι (ρ i)) hin B := fun id ob hg => by
    obtain ⟨h1, h2⟩ := getO_delAll _ _ hg
    refine ⟨h1, fun B hB ⟨i, ob', hg', hB'⟩ => h2 ?_⟩
    have := h.rel.inj _ _ _ _ h1 (hsp hg') B hB ((owns_ren B).2 hB')
    exact List.mem_map.2 ⟨i, mem_ids hg', this.symm⟩
  have hback : ∀ id ob, getO hp id = some ob → (∀ B, owns w (ι id) ob B → ¬ LB w (fun i => ι (ρ i)) hin B) → ∀ B, owns w' (ι id) ob B → owns w (ι id) ob B := fun id ob h1 h2 B =>
    (owns_cong (fun B' hB' => hx.below.block B' (h.rel.own id ob h1 B' (.inl hB')).2.1 (h2 B' (.inl hB'))) B).1
  have hsι : ∀ id ob, getO hp id = some ob → ι' id = ι id := fun id ob hg => hold id fun i hi e => (freshB_ob (hnewfresh i hi).1 hg).1 e.symm
  refine ⟨fun s => ?_, fun id ob hg => ?_, fun id ob hg B hB => ?_, fun id id' ob ob' h1 h2 B hB hB' => ?_⟩
  · exact (h.rel.slot s).cong hx.le fun id hid => hold id fun i hi e => freshB_slot (hnewfresh i hi).1 s (e ▸ hid)
  · rcases getO_append hg with hg | hg
    · obtain ⟨j, ob', hj, rfl, rfl⟩ := hfirst id ob hg
      rw [hmap j (.inr (mem_ids hj))]
      exact RO.ren.2 ((hL.obj j ob' hj).cong (Im.le_refl _) (fun i hi => hmap i (ho _ (getO_mem hj) i hi)) fun B hB => rfl)
    · obtain ⟨h1, h2⟩ := hsecond id ob hg
      rw [hsι id ob h1]
      exact (h.rel.obj id ob h1).cong hx.le (fun i hi => hold i fun j hj e => (freshB_ob (hnewfresh j hj).1 h1).2 (e ▸ hi)) fun B hB => hx.below.block B (h.rel.own id ob h1 B hB).2.1 (h2 B hB)
  · rcases getO_append hg with hg | hg
    · obtain ⟨j, ob', hj, rfl, rfl⟩ := hfirst id ob hg
      rw [hmap j (.inr (mem_ids hj))] at hB
      have hB := (owns_ren B).1 hB
      refine ⟨?_, hL.own j ob' hj B hB⟩
      rcases hnew j ob' B hj hB with q | q
      · exact .inl (Nat.le_trans h.below.size q)
      · exact hLB B q
    · obtain ⟨h1, h2⟩ := hsecond id ob hg
      rw [hsι id ob h1] at hB
      have hB := hback id ob h1 h2 B hB
      obtain ⟨q1, q2, q3⟩ := h.rel.own id ob h1 B hB
      refine ⟨q1, Nat.lt_of_lt_of_le q2 hx.below.size, fun o => ?_⟩
      cases hi : I' B o with
      | none => rfl
      | some u =>
        rcases hx.new B o u hi with q | q | q
        · rw [q3] at q; cases q
        · omega
        · exact (h2 B hB q).elim
  · rcases getO_append h1 with h1 | h1 <;> rcases getO_append h2 with h2 | h2
    · obtain ⟨j, ob1, hj, rfl, rfl⟩ := hfirst id ob h1
      obtain ⟨j', ob2, hj', rfl, rfl⟩ := hfirst id' ob' h2
      rw [hmap j (.inr (mem_ids hj))] at hB
      rw [hmap j' (.inr (mem_ids hj'))] at hB'
      rw [hL.inj j j' _ _ hj hj' B ((owns_ren B).1 hB) ((owns_ren B).1 hB')]
    · obtain ⟨j, ob1, hj, rfl, rfl⟩ := hfirst id ob h1
      obtain ⟨g1, g2⟩ := hsecond id' ob' h2
      rw [hmap j (.inr (mem_ids hj))] at hB
      rw [hsι id' ob' g1] at hB'
      have hB' := hback id' ob' g1 g2 B hB'
      exfalso
      rcases hnew j ob1 B hj ((owns_ren B).1 hB) with q | q
      · have := (h.rel.own id' ob' g1 B hB').2.1; omega
      · exact g2 B hB' q
    · obtain ⟨j, ob1, hj, rfl, rfl⟩ := hfirst id' ob' h2
      obtain ⟨g1, g2⟩ := hsecond id ob h1
      rw [hmap j (.inr (mem_ids hj))] at hB'
      rw [hsι id ob g1] at hB
      have hB := hback id ob g1 g2 B hB
      exfalso
      rcases hnew j ob1 B hj ((owns_ren B).1 hB') with q | q
      · have := (h.rel.own id ob g1 B hB).2.1; omega
      · exact g2 B hB q
    · obtain ⟨g1, k1⟩ := hsecond id ob h1
      obtain ⟨g2, k2⟩ := hsecond id' ob' h2
      rw [hsι id ob g1] at hB
      rw [hsι id' ob' g2] at hB'
      exact h.rel.inj _ _ _ _ g1 g2 B (hback id ob g1 k1 B hB) (hback id' ob' g2 k2 B hB')

theorem evalC_wp (h : St E fr hp I ι a w) {orc orc' : Orc} {x : AV} {hp' : Hp} {φ : Prop} (he : evalC P E.k fr hp o.op orc = some (x, hp', φ, orc')) (hφ : φ) {next : Act → World → Prop} {Q : Exit → Act → World → Prop}
    (hK : ∀ v I' ι' w', St E fr hp' I' ι' a w' → RV I' ι' v x → (∀ id, id ∉ orcIds orc → ι' id = ι id) → next (a.put o.dst v) w') : o.wp P a w next Q := by
  unfold evalC at he
  split at he
  · rename_i c hop
    split at he
    · rename_i f hc
      split at he
      · rename_i q caps args' ρ args hin r hout orc2 hf ha
        cases hok : lentOk E.k (asg ρ) fr hp hin hout r with
        | false => rw [hok] at he; cases he
        | true =>
          rw [hok] at he
          simp only [cond_true, Option.some.injEq, Prod.mk.injEq] at he
          obtain ⟨rfl, rfl, rfl, _⟩ := he
          obtain ⟨hs, h1, h2⟩ := hφ
          obtain ⟨vs, hrun, hR⟩ := run_callValue h hop hc hf ha hs.1
          obtain ⟨q1, q2⟩ := h.lent hok h2
          rw [h1] at hR
          have hC := hs.2 I (fun i => ι (asg ρ i)) w vs h.agr (hR.of_map.imp fun a b r => RT.ren.1 r) q1
          unfold Oper.wp
          rw [hrun, Oper.upon_enter]
          refine hC.mono fun e w' hE => ?_
          obtain ⟨v, I', ι1, rfl, hx, hv, hfix, hL, hnew⟩ := hE
          obtain ⟨ι', s1, s2, s3⟩ := q2 hx hv hfix hL hnew
          exact hK v I' ι' w' s1 s2 fun id hid => s3 id fun hm => hid (by simp only [orcIds, List.mem_append]; exact .inl hm)
      · cases he
    · cases he
  · cases he

end
end Go.Proofs.Ytajmjfdopminbaa.Sym
