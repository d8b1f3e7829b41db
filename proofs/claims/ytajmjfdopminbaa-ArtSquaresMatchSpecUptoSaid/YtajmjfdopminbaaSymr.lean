/- Sym: a region whose operations are done in any order: evalD tells what it makes. Conditions: the table of types is the program's (TabOk); the program follows mixed orders. -/
import Derived.Test.YtajmjfdopminbaaSymq
set_option linter.unusedVariables false
set_option linter.unusedSimpArgs false
namespace Go.Proofs.Ytajmjfdopminbaa.Sym
open Go Go.RowKit

section
variable {P : Program} {X : Tab} {E : Env} {w w' : World} {I I' : Im} {ι ι' : Lo} {fr fr' : Fr} {hp hp' : Hp} {a : Act} {o : Oper}

theorem clo_mem {recs : List DR} {x : Nat} : ∀ {l : List Nat}, x ∈ clo recs l → ∃ j ∈ l, x = j ∨ ∃ q, recs[j]? = some q ∧ x ∈ q.dp
  | [], h => by cases h
  | j :: r, h => by
    simp only [clo, List.mem_cons, List.mem_append] at h
    rcases h with rfl | h | h
    · exact ⟨x, by simp, .inl rfl⟩
    · split at h
      · rename_i q hq; exact ⟨j, by simp, .inr ⟨q, hq, h⟩⟩
      · cases h
    · obtain ⟨j', h1, h2⟩ := clo_mem h; exact ⟨j', by simp [h1], h2⟩
theorem mem_clo {recs : List DR} {x : Nat} : ∀ {l : List Nat}, x ∈ l → x ∈ clo recs l
  | j :: r, h => by
    simp only [clo, List.mem_cons, List.mem_append]
    rcases List.mem_cons.1 h with rfl | h
    · exact .inl rfl
    · exact .inr (.inr (mem_clo h))

/-- What is known of the region's operations. -/
structure DOk (P : Program) (X : Tab) (N k : Nat) (ops : Array Oper) (fr0 : Fr) (hp0 : Hp) (R : List DR) : Prop where
  len : R.length = ops.size
  one : ∀ i o, ops[i]? = some o → ∃ q gs orc χ, R[i]? = some q ∧ oneD P X k ops fr0 hp0 (R.take i) o gs orc = some (q, χ) ∧ χ
  chk : ∀ i o q, ops[i]? = some o → R[i]? = some q → oneOk N k fr0 hp0 i q = true ∧ ∀ j r, R[j]? = some r → i ≠ j → pairOk ops i j o q r = true
def Closed (R : List DR) (S : Nat → Bool) : Prop := ∀ i q, S i = true → R[i]? = some q → ∀ j ∈ q.dp, S j = true

theorem looks_mem {ops : Array Oper} : True := trivial

theorem stepD (hX : TabOk P X) {ops : Array Oper} {fr0 : Fr} {hp0 : Hp} {R : List DR} (hD : DOk P X E.N E.k ops fr0 hp0 R) {S : Nat → Bool} (hcl : Closed R S) {i : Nat} (hi : ops[i]? = some o) (hS : S i = false)
    (hdep : ∀ q, R[i]? = some q → ∀ j ∈ q.dp, S j = true) (h : St E (frS R fr0 S) (hpS R hp0 S) I ι a w) {K : Act → World → Prop} {Q : Exit → Act → World → Prop}
    (hK : ∀ I' ι' a' w', St E (frS R fr0 fun j => S j || j == i) (hpS R hp0 fun j => S j || j == i) I' ι' a' w' → K a' w') : wpOp P ops Q i K a w := by
  obtain ⟨q, gs, orc, χ, hq, hone, hχ⟩ := hD.one i o hi
  obtain ⟨hok, hpair⟩ := hD.chk i o q hi hq
  simp only [oneOk, Bool.and_eq_true, List.all_eq_true] at hok
  obtain ⟨⟨⟨hN, hlt⟩, hfr⟩, hout⟩ := hok
  have hdlt : ∀ j ∈ q.dp, j < i := fun j hj => by simpa [Nat.blt_eq] using hlt j hj
  have hiR : i < R.length := (List.getElem?_eq_some_iff.1 hq).1
  have hR : R = R.take i ++ R.drop i := (List.take_append_drop i R).symm
  have htl : (R.take i).length = i := by simp; omega
  have hSd : ∀ j, 0 + (R.take i).length ≤ j → hasN q.dp j = false := fun j hj => by
    cases hb : hasN q.dp j with
    | false => rfl
    | true => have := hdlt j (hasN_iff.1 hb); rw [htl] at hj; omega
  have hSi : ∀ j ∈ q.dp, S j = true := hdep q hq
  -- order
  have hnot : ∀ j r, R[j]? = some r → i ∈ r.dp → S j = false := fun j r hr hm => by
    cases hb : S j with
    | false => rfl
    | true => have := hcl j r hb hr i hm; rw [hS] at this; cases this
  have hord : ∀ j r, R[j]? = some r → i ≠ j → (j ∈ q.dp ∨ i ∈ r.dp) → S j = hasN q.dp j := fun j r hr hne ho => by
    rcases ho with ho | ho
    · rw [hSi j ho, hasN_iff.2 ho]
    · rw [hnot j r hr ho]
      cases hb : hasN q.dp j with
      | false => rfl
      | true => have := hSi j (hasN_iff.1 hb); rw [hnot j r hr ho] at this; cases this
  have hself : S i = hasN q.dp i := by
    rw [hS]
    cases hb : hasN q.dp i with
    | false => rfl
    | true => have := hdlt i (hasN_iff.1 hb); omega
  have hp : ∀ j r, R[j]? = some r → i ≠ j → (j ∈ q.dp ∨ i ∈ r.dp) ∨ ((∀ s, r.dst = some s → s ∉ looks ops o ∧ dstIs q.dst s = false) ∧ (r.md = true → (∀ id ∈ q.gs, turns r id = false) ∧ ∀ id ∈ ids q.out, turns r id = false)) := fun j r hr hne => by
    have := hpair j r hr hne
    simp only [pairOk, Bool.and_eq_true, Bool.or_eq_true, hasN_iff] at this
    rcases this.1.1 with h1 | h1
    · exact .inl h1
    · refine .inr ⟨fun s hs => ?_, fun hm => ?_⟩
      · have h2 := h1.1
        rw [hs] at h2
        simp only [Bool.and_eq_true, Bool.not_eq_true'] at h2
        refine ⟨fun hmem => ?_, h2.2⟩
        have h3 := h2.1
        rw [hasN_iff.2 hmem] at h3; cases h3
      · rcases h1.2 with h2 | h2
        · rw [hm] at h2; cases h2
        · simp only [List.all_eq_true, Bool.not_eq_true'] at h2; exact h2
  -- the small frame
  have hsub1 : ∀ s, s ∈ looks ops o → slotS (hasN q.dp) s (R.take i) 0 (get fr0 s) = get (frS R fr0 S) s := fun s hs => by
    rw [get_frS, ← slotS_append (R.take i) (R.drop i) 0 (get fr0 s) hSd, ← hR]
    refine (slotS_congr R 0 _ fun j r hr hd => ?_).symm
    rw [Nat.zero_add]
    by_cases e : i = j
    · subst e; exact hself
    · rcases hp j r hr e with ho | ho
      · exact hord j r hr e ho
      · exact ((ho.1 s (dstIs_iff.1 hd)).1 hs).elim
  have hturn : ∀ id, (id ∈ q.gs ∨ id ∈ ids q.out) → ∀ j r, R[j]? = some r → i ≠ j → turns r id = true → (j ∈ q.dp ∨ i ∈ r.dp) := fun id hid j r hr hne ht => by
    rcases hp j r hr hne with ho | ho
    · exact ho
    · have hm : r.md = true := by simp only [turns, Bool.and_eq_true] at ht; exact ht.1
      rcases hid with hid | hid
      · have := (ho.2 hm).1 id hid; rw [ht] at this; cases this
      · have := (ho.2 hm).2 id hid; rw [ht] at this; cases this
  have hsub2 : ∀ id, id ∈ q.gs → contS (hasN q.dp) id (R.take i) 0 (getO hp0 id) = getO (hpS R hp0 S) id := fun id hid => by
    rw [getO_hpS, ← contS_append (R.take i) (R.drop i) 0 (getO hp0 id) hSd, ← hR]
    refine (contS_congr R 0 _ fun j r hr hd => ?_).symm
    rw [Nat.zero_add]
    by_cases e : i = j
    · subst e; exact hself
    · exact hord j r hr e (hturn id (.inl hid) j r hr e hd)
  -- the frame behind it
  have hafter : ∀ j, (S j || j == i) = if j = i then true else S j := fun j => by
    by_cases e : j = i
    · simp [e]
    · have : (j == i) = false := by simpa using e
      simp [e, this]
  have hlast : ∀ j r, i < j → R[j]? = some r → (j ∈ q.dp ∨ i ∈ r.dp) → (fun j => S j || j == i) (0 + j) = false := fun j r hj hr ho => by
    simp only [Nat.zero_add, hafter]
    rw [if_neg (by omega)]
    rcases ho with ho | ho
    · have := hdlt j ho; omega
    · exact hnot j r hr ho
  have hfrA : ∀ s, get (frS R fr0 fun j => S j || j == i) s = .u ∨ get (frS R fr0 fun j => S j || j == i) s = get (putD (frS R fr0 S) q.dst q.x) s := fun s => by
    right
    rw [get_frS]
    cases hd : dstIs q.dst s with
    | true =>
      rw [slotS_last R 0 _ i q hq (by simp) hd fun j r hj hr hd2 => ?_]
      · rw [dstIs_iff.1 hd]; simp only [putD]; rw [get_setS, if_pos rfl]
      · refine hlast j r hj hr ?_
        rcases hp j r hr (by omega) with ho | ho
        · exact ho
        · have := (ho.1 s (dstIs_iff.1 hd2)).2; rw [hd] at this; cases this
    | false =>
      have h1 : get (putD (frS R fr0 S) q.dst q.x) s = get (frS R fr0 S) s := by
        cases hqd : q.dst with
        | none => rfl
        | some d =>
          rw [hqd] at hd
          simp only [putD]
          rw [get_setS, if_neg]
          intro e; subst e; simp [dstIs] at hd
      rw [h1, get_frS]
      refine slotS_congr R 0 _ fun j r hr hd2 => ?_
      simp only [Nat.zero_add, hafter]
      by_cases e : j = i
      · subst e; rw [hq] at hr; cases hr; rw [hd] at hd2; cases hd2
      · rw [if_neg e]
  have hhpN : ∀ id, turns q id = false → getO (hpS R hp0 fun j => S j || j == i) id = getO (hpS R hp0 S) id := fun id ht => by
    rw [getO_hpS, getO_hpS]
    refine contS_congr R 0 _ fun j r hr hd2 => ?_
    simp only [Nat.zero_add, hafter]
    by_cases e : j = i
    · subst e; rw [hq] at hr; cases hr; rw [ht] at hd2; cases hd2
    · rw [if_neg e]
  -- the operation
  have hdp : clo (R.take i) (befores o) = q.dp := oneD_dp hone
  unfold oneD at hone
  simp only [hdp] at hone
  have hext1 : ∀ s, get (subF (R.take i) fr0 q.dp (looks ops o)) s = .u ∨ get (subF (R.take i) fr0 q.dp (looks ops o)) s = get (frS R fr0 S) s := fun s => by
    unfold subF
    rw [get_map (g := fun s => slotS (hasN q.dp) s (R.take i) 0 (get fr0 s))]
    split
    · rename_i hs; exact .inr (hsub1 s hs)
    · exact .inl rfl
  have hext2 : ∀ gs', (∀ id ∈ gs', id ∈ q.gs) → ∀ id ob, getO (subH (R.take i) hp0 q.dp gs') id = some ob → getO (hpS R hp0 S) id = some ob := fun gs' hg id ob hgo => by
    unfold subH at hgo
    rw [getO_fmap (g := fun id => contS (hasN q.dp) id (R.take i) 0 (getO hp0 id))] at hgo
    split at hgo
    · rename_i hs; rw [← hsub2 id (hg id hs)]; exact hgo
    · cases hgo
  unfold wpOp
  rw [hi]
  simp only
  have hguard : ∀ gs', (∀ id ∈ gs', id ∈ q.gs) → St E (subF (R.take i) fr0 q.dp (looks ops o)) (subH (R.take i) hp0 q.dp gs') I ι a w := fun gs' hg => h.extn hext1 (hext2 gs' hg)
  split at hone
  · rename_i φ orc1 hg
    simp only [Option.some.injEq, Prod.mk.injEq] at hone
    obtain ⟨hqe, rfl⟩ := hone
    have e1 : o.dst = q.dst := congrArg DR.dst hqe
    have e2 : AV.tup [] = q.x := congrArg DR.x hqe
    have e3 : false = q.md := congrArg DR.md hqe
    have h0 := h.extn (hp' := []) hext1 (fun id ob hgo => by cases hgo)
    rw [guardQ_sound h0 hg hχ]
    simp only [Bool.false_eq_true, if_false]
    rw [e1]
    have hp' := h.putD hN (show RV I ι undef q.x by rw [← e2]; exact ⟨[], rfl, .nil⟩)
    exact hK _ _ _ _ (hp'.extn hfrA fun id ob hgo => by rw [hhpN id (by simp [turns, ← e3])] at hgo; exact hgo)
  · rename_i φ orc1 hg
    split at hone
    · rename_i x out χ2 orc2 hst
      cases hb : (orcIds orc1).isEmpty with
      | false => rw [hb] at hone; cases hone
      | true =>
        rw [hb] at hone
        simp only [cond_true, Option.some.injEq, Prod.mk.injEq] at hone
        obtain ⟨hqe, rfl⟩ := hone
        have e1 : o.dst = q.dst := congrArg DR.dst hqe
        have e2' : (reEq o.dst x orc2).1 = q.x := congrArg DR.x hqe
        have e2 : x = q.x := (reEq_sound hχ.2.2).trans e2'
        have e3 : false = q.md := congrArg DR.md hqe
        have e4 : gs = q.gs := congrArg DR.gs hqe
        have hids : orcIds orc1 = [] := by simpa using hb
        obtain ⟨hχ1, ⟨hχ2, hout'⟩, hχ3⟩ := hχ
        have hsm := hguard gs fun id hid => e4 ▸ hid
        rw [guardQ_sound hsm hg hχ1, if_pos rfl]
        have hsub := h.sub hext1 (hext2 gs fun id hid => e4 ▸ hid)
        refine .inl (stepE_wp hX hsub hst hχ2 fun v I' ι' w' hs' hv hfix => ?_)
        subst hout'
        have hF := h.frame (nw := []) (hp2 := hpS R hp0 fun j => S j || j == i) (hext2 gs fun id hid => e4 ▸ hid) hs' (fun id _ => hfix id (by rw [hids]; simp)) (fun d hd => (by cases hd)) (fun s d hd => (by cases hd)) (fun id ob _ => ⟨by simp, fun d hd => (by cases hd)⟩) fun id ob hgo => by
          rw [hhpN id (by simp [turns, ← e3])] at hgo
          by_cases hm : id ∈ ids (subH (R.take i) hp0 q.dp gs)
          · obtain ⟨ob', hgo'⟩ := ids_getO hm
            have := hext2 gs (fun id hid => e4 ▸ hid) id ob' hgo'
            rw [hgo] at this; cases this
            exact .inl hgo'
          · exact .inr ⟨hgo, hm, hm⟩
        rw [e1]
        rw [e2] at hv
        have hp' := hF.putD hN hv
        exact hK _ _ _ _ (hp'.extn hfrA fun id ob hgo => hgo)
    · cases hone
  · rename_i φ orc1 _ hg
    split at hone
    · rename_i x χ2 orc2 hqv
      simp only [Option.some.injEq, Prod.mk.injEq] at hone
      obtain ⟨hqe, rfl⟩ := hone
      have e1 : o.dst = q.dst := congrArg DR.dst hqe
      have e2' : (reEq o.dst x orc2).1 = q.x := congrArg DR.x hqe
      have e2 : x = q.x := (reEq_sound hχ.2.2).trans e2'
      have e3 : false = q.md := congrArg DR.md hqe
      have e4 : gs = q.gs := congrArg DR.gs hqe
      have hsm := hguard gs fun id hid => e4 ▸ hid
      rw [guardQ_sound hsm hg hχ.1, if_pos rfl]
      refine .inl (evalQ_wp hX hsm hqv hχ.2.1 fun v I' w' hx hv => ?_)
      rw [e1]
      rw [e2] at hv
      have hp' := (h.ext hx).putD hN hv
      exact hK _ _ _ _ (hp'.extn hfrA fun id ob hgo => by rw [hhpN id (by simp [turns, ← e3])] at hgo; exact hgo)
    · split at hone
      · rename_i x out χ2 orc2 hst
        simp only [Option.some.injEq, Prod.mk.injEq] at hone
        obtain ⟨hqe, rfl⟩ := hone
        have e1 : o.dst = q.dst := congrArg DR.dst hqe
        have e2' : (reEq o.dst x orc2).1 = q.x := congrArg DR.x hqe
        have e2 : x = q.x := (reEq_sound hχ.2.2).trans e2'
        have e3 : true = q.md := congrArg DR.md hqe
        have e4 : gs = q.gs := congrArg DR.gs hqe
        have e5 : out = q.out := congrArg DR.out hqe
        have e6 : orcIds orc1 = q.nw := congrArg DR.nw hqe
        rw [← e6] at hfr
        have hsm := hguard gs fun id hid => e4 ▸ hid
        rw [guardQ_sound hsm hg hχ.1, if_pos rfl]
        have hsub := h.sub hext1 (hext2 gs fun id hid => e4 ▸ hid)
        refine .inl (stepE_wp hX hsub hst hχ.2.1 fun v I' ι' w' hs' hv hfix => ?_)
        -- what is named anew is named nowhere
        have hnew : ∀ d ∈ orcIds orc1, freshB d fr0 hp0 = true ∧ E.k ≤ d := fun d hd => fresh_spec (hfr d hd)
        have hfor : ∀ j r, R[j]? = some r → S j = true → ∀ d ∈ orcIds orc1, (d ∉ mentA r.x) ∧ ∀ p ∈ r.out, p.1 ≠ d ∧ d ∉ mentO p.2 := fun j r hr hSj d hd => by
          have hne : i ≠ j := fun e => by subst e; rw [hS] at hSj; cases hSj
          have := hpair j r hr hne
          simp only [pairOk, Bool.and_eq_true, Bool.or_eq_true, hasN_iff] at this
          rcases this.1.2 with h1 | h1
          · have := hnot j r hr h1; rw [hSj] at this; cases this
          · simp only [List.all_eq_true] at h1
            have := h1 d (e6 ▸ hd)
            simp only [Bool.and_eq_true, List.all_eq_true, bne_iff_ne] at this
            exact ⟨fun hm => this.1 d hm rfl, fun p hp' => ⟨(this.2 p hp').1, fun hm => (this.2 p hp').2 d hm rfl⟩⟩
        have hslot : ∀ s, ∀ d ∈ orcIds orc1, d ∉ mentA (get (frS R fr0 S) s) := fun s d hd => by
          rw [get_frS]
          have key : ∀ (rs : List DR) (n : Nat) (acc : AV), (∀ j r, rs[j]? = some r → S (n + j) = true → d ∉ mentA r.x) → d ∉ mentA acc → d ∉ mentA (slotS S s rs n acc) := by
            intro rs
            induction rs with
            | nil => intro n acc _ h; exact h
            | cons r rs ih =>
              intro n acc hj hacc
              simp only [slotS]
              refine ih (n + 1) _ (fun j r' hr hs => hj (j + 1) r' (by simpa using hr) (by rw [← Nat.add_assoc, Nat.add_right_comm]; exact hs)) ?_
              cases hb : S n && dstIs r.dst s with
              | false => exact hacc
              | true =>
                simp only [Bool.and_eq_true] at hb
                exact hj 0 r rfl (by simpa using hb.1)
          exact key R 0 _ (fun j r hr hs => (hfor j r hr (by simpa using hs) d hd).1) (freshB_slot (hnew d hd).1 s)
        have hobj : ∀ id ob, getO (hpS R hp0 S) id = some ob → id ∉ orcIds orc1 ∧ ∀ d ∈ orcIds orc1, d ∉ mentO ob := fun id ob hgo => by
          rw [getO_hpS] at hgo
          have key : ∀ (rs : List DR) (n : Nat) (acc : Option Ob), (∀ j r, rs[j]? = some r → S (n + j) = true → ∀ ob, getO r.out id = some ob → id ∉ orcIds orc1 ∧ ∀ d ∈ orcIds orc1, d ∉ mentO ob) → (∀ ob, acc = some ob → id ∉ orcIds orc1 ∧ ∀ d ∈ orcIds orc1, d ∉ mentO ob) →
              ∀ ob, contS S id rs n acc = some ob → id ∉ orcIds orc1 ∧ ∀ d ∈ orcIds orc1, d ∉ mentO ob := by
            intro rs
            induction rs with
            | nil => intro n acc _ h ob hh; exact h ob hh
            | cons r rs ih =>
              intro n acc hj hacc ob hh
              simp only [contS] at hh
              refine ih (n + 1) _ (fun j r' hr hs => hj (j + 1) r' (by simpa using hr) (by rw [← Nat.add_assoc, Nat.add_right_comm]; exact hs)) ?_ ob hh
              cases hb : S n && turns r id with
              | false => exact hacc
              | true =>
                simp only [Bool.and_eq_true] at hb
                exact hj 0 r rfl (by simpa using hb.1)
          refine key R 0 _ (fun j r hr hs ob hgo => ?_) (fun ob hgo => ?_) ob hgo
          · have hm := getO_mem hgo
            refine ⟨fun hin => ((hfor j r hr (by simpa using hs) id hin).2 _ hm).1 rfl, fun d hd => ((hfor j r hr (by simpa using hs) d hd).2 _ hm).2⟩
          · exact ⟨fun hin => (freshB_ob (hnew id hin).1 hgo).1 rfl, fun d hd => (freshB_ob (hnew d hd).1 hgo).2⟩
        have hF := h.frame (hp2 := hpS R hp0 fun j => S j || j == i) (hext2 gs fun id hid => e4 ▸ hid) hs' hfix (fun d hd => (hnew d hd).2) hslot hobj fun id ob hgo => by
          cases ht : turns q id with
          | true =>
            rw [getO_hpS, contS_last R 0 _ i _ hq (by simp) ht fun j r hj hr ht2 => hlast j r hj hr (hturn id (by
              simp only [turns, Bool.and_eq_true, Bool.or_eq_true, hasN_iff] at ht
              exact ht.2) j r hr (by omega) ht2)] at hgo
            exact .inl (e5 ▸ hgo)
          | false =>
            rw [hhpN id ht] at hgo
            simp only [turns, ← e3, ← e4, ← e5, Bool.true_and, Bool.or_eq_false_iff] at ht
            refine .inr ⟨hgo, fun hm => ?_, fun hm => by
              have h3 := ht.2
              rw [hasN_iff.2 hm] at h3; cases h3⟩
            have hmg : id ∈ gs := by
              obtain ⟨ob', hgo'⟩ := ids_getO hm
              unfold subH at hgo'
              rw [getO_fmap (g := fun id => contS (hasN q.dp) id (R.take i) 0 (getO hp0 id))] at hgo'
              split at hgo'
              · assumption
              · cases hgo'
            have h3 := ht.1
            rw [hasN_iff.2 hmg] at h3; cases h3
        rw [e1]
        rw [e2] at hv
        have hp' := hF.putD hN hv
        exact hK _ _ _ _ (hp'.extn hfrA fun id ob hgo => hgo)
      · cases hone
  · cases hone


def cnt (listed : Array Bool) : Nat → Nat
  | 0 => 0
  | n + 1 => cnt listed n + (if listed.getD n true then 0 else 1)
theorem cnt_set {listed : Array Bool} {i : Nat} (hi : listed.getD i true = false) : ∀ n, cnt (listed.setIfInBounds i true) n + (if i < n then 1 else 0) = cnt listed n
  | 0 => by simp [cnt]
  | n + 1 => by
    have ih := cnt_set hi n
    simp only [cnt]
    have hlt : i < listed.size := by
      rcases Nat.lt_or_ge i listed.size with h | h
      · exact h
      · simp [Array.getElem?_eq_none h] at hi
    by_cases e : i = n
    · subst e
      have h1 : (listed.setIfInBounds i true).getD i true = true := by simp [hlt]
      rw [h1, hi]
      simp only [Nat.lt_irrefl, if_false, if_true] at ih ⊢
      simp; omega
    · rw [getD_set_ne true e]
      by_cases h3 : i < n
      · rw [if_pos (show i < n + 1 by omega)]; rw [if_pos h3] at ih; omega
      · rw [if_neg (show ¬ i < n + 1 by omega)]; rw [if_neg h3] at ih; omega
theorem cnt_zero {listed : Array Bool} : ∀ n, cnt listed n = 0 → ∀ i, i < n → listed.getD i true = true
  | 0, _, i, h => by omega
  | n + 1, hc, i, h => by
    simp only [cnt] at hc
    by_cases e : i = n
    · subst e
      cases hb : listed.getD i true with
      | true => rfl
      | false => rw [hb] at hc; simp at hc
    · exact cnt_zero n (by omega) i (by omega)

theorem anyD (hX : TabOk P X) {ops : Array Oper} {fr0 : Fr} {hp0 : Hp} {R : List DR} (hD : DOk P X E.N E.k ops fr0 hp0 R) {Q : Exit → Act → World → Prop} (hQ : ∀ I ι a w, St E (frS R fr0 fun _ => true) (hpS R hp0 fun _ => true) I ι a w → Q .normal a w) :
    ∀ (fuel : Nat) (listed : Array Bool) (I : Im) (ι : Lo) (a : Act) (w : World), listed.size = ops.size → Closed R (fun i => listed.getD i false) → cnt listed ops.size ≤ fuel → St E (frS R fr0 fun i => listed.getD i false) (hpS R hp0 fun i => listed.getD i false) I ι a w →
      wpAny P .any ops Q fuel listed a w := by
  -- where nothing is ready all is done
  have hdone : ∀ (listed : Array Bool) (I : Im) (ι : Lo) (a : Act) (w : World), listed.size = ops.size → (∀ i, i < ops.size → listed.getD i true = true) → St E (frS R fr0 fun i => listed.getD i false) (hpS R hp0 fun i => listed.getD i false) I ι a w → Q .normal a w := fun listed I ι a w hsz hall hs => by
    have hall' : ∀ i, i < ops.size → listed.getD i false = true := fun i hi => by
      have := hall i hi
      have hlt : i < listed.size := by omega
      simpa [hlt] using this
    have hcg : ∀ (i : Nat) (r : DR), R[i]? = some r → listed.getD (0 + i) false = true := fun i r hr => by
      rw [Nat.zero_add]; exact hall' i (by rw [← hD.len]; exact (List.getElem?_eq_some_iff.1 hr).1)
    refine hQ I ι a w (hs.extn (fun s => .inr ?_) fun id ob hg => ?_)
    · rw [get_frS, get_frS]
      exact slotS_congr R 0 _ fun i r hr _ => (hcg i r hr).symm
    · rw [getO_hpS] at hg ⊢
      rw [← hg]
      exact contS_congr R 0 _ fun i r hr _ => hcg i r hr
  have hready : ∀ (listed : Array Bool), listed.size = ops.size → Region.ready .any ops listed = [] → ∀ i, i < ops.size → listed.getD i true = true := fun listed hsz hr i => by
    induction i using Nat.strongRecOn with
    | _ i ih =>
      intro hi
      cases hb : listed.getD i true with
      | true => rfl
      | false =>
        exfalso
        have ho : ops[i]? = some ops[i] := Array.getElem?_eq_getElem hi
        have : i ∈ Region.ready .any ops listed := by
          rw [mem_ready]
          refine ⟨hb, ops[i], ho, fun e he hbd => ?_⟩
          obtain ⟨q, gs, orc, χ, hq, hone, hχ⟩ := hD.one i _ ho
          have hdp : clo (R.take i) (befores ops[i]) = q.dp := oneD_dp hone
          have hmem : e.on ∈ q.dp := by
            rw [← hdp]
            refine mem_clo (List.mem_map.2 ⟨e, List.mem_filter.2 ⟨by simpa using he, hbd⟩, rfl⟩)
          have hlt : e.on < i := by
            have := (hD.chk i _ q ho hq).1
            simp only [oneOk, Bool.and_eq_true, List.all_eq_true] at this
            simpa [Nat.blt_eq] using this.1.1.2 e.on hmem
          have := ih e.on hlt (by omega)
          have hl2 : e.on < listed.size := by omega
          simpa [hl2] using this
        rw [hr] at this; cases this
  intro fuel
  induction fuel with
  | zero =>
    intro listed I ι a w hsz hcl hc hs
    have hall := cnt_zero ops.size (by omega) (listed := listed)
    refine ⟨?_, hdone listed I ι a w hsz hall hs⟩
    cases hr : Region.ready .any ops listed with
    | nil => rfl
    | cons j l =>
      have : j ∈ Region.ready .any ops listed := by rw [hr]; simp
      obtain ⟨h0, o, ho, _⟩ := mem_ready.1 this
      have := hall j (Array.getElem?_eq_some_iff.1 ho).1
      rw [h0] at this; cases this
  | succ fuel ih =>
    intro listed I ι a w hsz hcl hc hs
    refine ⟨fun hr => hdone listed I ι a w hsz (hready listed hsz hr) hs, fun i hi => ?_⟩
    obtain ⟨h0, o, ho, hall⟩ := mem_ready.1 hi
    have hio : i < ops.size := (Array.getElem?_eq_some_iff.1 ho).1
    have hlt : i < listed.size := by omega
    have h0' : listed.getD i false = false := by simpa [hlt] using h0
    have hset : (fun j => (listed.setIfInBounds i true).getD j false) = fun j => listed.getD j false || j == i := by
      funext j
      by_cases e : i = j
      · subst e; simp [hlt]
      · rw [getD_set_ne false e]
        have : (j == i) = false := by simpa using fun q => e q.symm
        simp [this]
    have hdep : ∀ q, R[i]? = some q → ∀ j ∈ q.dp, listed.getD j false = true := fun q hq j hj => by
      obtain ⟨q', gs, orc, χ, hq', hone, hχ⟩ := hD.one i _ ho
      rw [hq] at hq'; cases hq'
      have hdp : clo (R.take i) (befores o) = q.dp := oneD_dp hone
      rw [← hdp] at hj
      obtain ⟨b, hb, hor⟩ := clo_mem hj
      obtain ⟨e, he, rfl⟩ := List.mem_map.1 hb
      obtain ⟨he1, he2⟩ := List.mem_filter.1 he
      have hl := hall e (by simpa using he1) he2
      rcases hor with rfl | ⟨q2, hq2, hm⟩
      · exact hl
      · rw [List.getElem?_take] at hq2
        split at hq2
        · exact hcl e.on q2 hl hq2 j hm
        · cases hq2
    refine stepD hX hD hcl ho h0' hdep hs fun I' ι' a' w' hs' => ?_
    refine ih (listed.setIfInBounds i true) I' ι' a' w' (by simpa using hsz) ?_ ?_ ?_
    · rw [hset]
      intro j q hj hq z hz
      simp only [Bool.or_eq_true, beq_iff_eq] at hj ⊢
      rcases hj with hj | rfl
      · exact .inl (hcl j q hj hq z hz)
      · exact .inl (hdep q hq z hz)
    · have := cnt_set h0 ops.size
      rw [if_pos hio] at this; omega
    · rw [hset]; exact hs'

theorem slotS_ff {s : Nat} : ∀ (rs : List DR) (n : Nat) (acc : AV), slotS (fun _ => false) s rs n acc = acc
  | [], _, _ => rfl
  | r :: rs, n, acc => by simp only [slotS, Bool.false_and, cond_false]; exact slotS_ff rs _ _
theorem contS_ff {s : Nat} : ∀ (rs : List DR) (n : Nat) (acc : Option Ob), contS (fun _ => false) s rs n acc = acc
  | [], _, _ => rfl
  | r :: rs, n, acc => by simp only [contS, Bool.false_and, cond_false]; exact contS_ff rs _ _

theorem St.drawn (h : St E fr hp I ι a w) : St E fr hp I ι a { w with drawn := w.drawn + 1 } :=
  ⟨⟨h.below.os, h.below.tape, h.below.output, h.below.size, h.below.block⟩, h.le, h.new, h.agr, h.size, h.defers, h.fix, h.rel.slot, fun id ob hg => (h.rel.obj id ob hg).cong (Im.le_refl I) (fun _ _ => rfl) fun _ _ => rfl, h.rel.own, h.rel.inj⟩

variable {N k : Nat} {c : Code}
theorem Runs.draw (hX : TabOk P X) (hm : P.follows .mixedOrders = true) {hints : List (List Nat × Orc)} {ks hs : List Nat} {φ : Prop} (he : evalD P X N k c fr hp hints ks hs = some (fr', hp', φ)) (hφ : φ) : Runs P N k c fr hp (.nor fr' hp') := fun E e1 e2 I ι a w hst => by
  subst e1 e2
  unfold evalD at he
  split at he
  · rename_i id ops
    split at he
    · rename_i R ψ hb
      cases hok : Region.noSelect ops && allD2 E.N E.k ops fr hp R 0 ops.toList R with
      | false => rw [hok] at he; cases he
      | true =>
        rw [hok] at he
        simp only [cond_true, Option.some.injEq, Prod.mk.injEq] at he
        obtain ⟨rfl, rfl, rfl⟩ := he
        simp only [Bool.and_eq_true] at hok
        obtain ⟨h1, _, h3⟩ := buildD_spec _ _ _ _ _ hb hφ
        simp only [List.length_nil, Nat.zero_add] at h1 h3
        have hD : DOk P X E.N E.k ops fr hp R := by
          refine ⟨by simpa using h1, fun i o ho => h3 i o (by simpa using ho), fun i o q ho hq => ?_⟩
          have := allD2_spec _ _ _ hok.2 i o q (by simpa using ho) hq
          simpa using this
        refine wp_region_any hm ?_
        have hlist : ∀ i, (Array.replicate ops.size false).getD i false = false := fun i => by
          simp only [Array.getD_eq_getD_getElem?]
          rw [Array.getElem?_replicate]
          split <;> rfl
        have hq : ∀ I' ι' a' w', St E (frS R fr fun _ => true) (hpS R hp fun _ => true) I' ι' a' w' → St E (endF R fr ks) (endH R hp hs) I' ι' a' w' := fun I' ι' a' w' hs' => by
          refine hs'.extn (fun s => ?_) fun id ob hg => ?_
          · unfold endF
            rw [get_map (g := fun s => slotS (fun _ => true) s R 0 (get fr s))]
            split
            · exact .inr (get_frS _ _ _ _).symm
            · exact .inl rfl
          · unfold endH at hg
            rw [getO_fmap (g := fun id => contS (fun _ => true) id R 0 (getO hp id))] at hg
            split at hg
            · rw [getO_hpS]; exact hg
            · cases hg
        refine anyD hX hD (fun I' ι' a' w' hs' => ⟨rfl, I', ι', hq I' ι' a' w' hs'⟩) ops.size _ I ι a _ (by simp) (fun i q hi => by simp only [hlist] at hi; cases hi) ?_ ?_
        · have : ∀ n, cnt (Array.replicate ops.size false) n ≤ n := fun n => by
            induction n with
            | zero => exact Nat.le_refl _
            | succ n ih => simp only [cnt]; split <;> omega
          exact this _
        · have hf : (fun i => (Array.replicate ops.size false).getD i false) = fun _ => false := funext hlist
          rw [hf]
          refine hst.drawn.extn (fun s => .inr ?_) fun id ob hg => ?_
          · rw [get_frS]; exact slotS_ff R 0 _
          · rw [getO_hpS, contS_ff] at hg; exact hg
    · cases he
  · cases he

end
end Go.Proofs.Ytajmjfdopminbaa.Sym
