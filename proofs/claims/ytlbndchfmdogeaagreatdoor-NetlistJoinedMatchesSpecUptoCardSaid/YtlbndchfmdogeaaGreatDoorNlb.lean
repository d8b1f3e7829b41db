/- Plain facts on chapter 2's functions: types of parts, and searches by name. Conditions: none. -/
import Derived.Test.YtlbndchfmdogeaaGreatDoorNla
set_option linter.unusedVariables false
set_option linter.unusedSimpArgs false
namespace Go.Proofs.YtlbndchfmdogeaaGreatDoor.Sym
open Go Go.RowKit

/-- What is found at a place of a list. -/
def atF {α ρ : Type} (xs : List α) (g : α → Nat → Option ρ) (j : Nat) : Option ρ := match xs[j]? with
  | some x => g x j
  | none => none
theorem atF_lt {α ρ : Type} {xs : List α} {g : α → Nat → Option ρ} {j : Nat} (h : j < xs.length) : atF xs g j = g xs[j] j := by
  unfold atF; rw [List.getElem?_eq_getElem h]
/-- The first that is found. -/
def firstF {α ρ : Type} (xs : List α) (g : α → Nat → Option ρ) : Option ρ := (List.range' 0 xs.length).findSome? (atF xs g)
theorem firstF_none {α ρ : Type} {xs : List α} {g : α → Nat → Option ρ} (h : firstF xs g = none) : ∀ j (hj : j < xs.length), g xs[j] j = none := fun j hj => by
  have := List.findSome?_eq_none_iff.1 h j (by simp [hj])
  rwa [atF_lt hj] at this
theorem forN_first {α ρ : Type} {b : Nat → Unit → Option (Stp Unit ρ)} {xs : List α} (g : α → Nat → Option ρ) (h : ∀ j (hj : j < xs.length), b j () = some (match g xs[j] j with | some r => .ret r | none => .go ())) :
    forN b xs.length 0 () = some (match firstF xs g with | some r => .ret r | none => .fin ()) :=
  forN_find (N := xs.length) (atF xs g) (fun j hj => by rw [h j hj, atF_lt hj]; cases g xs[j] j <;> rfl) xs.length 0 (Nat.zero_add _)
theorem firstF_mem {α ρ : Type} {xs : List α} {g : α → Nat → Option ρ} {r : ρ} (h : firstF xs g = some r) : ∃ j, ∃ (hj : j < xs.length), g xs[j] j = some r := by
  obtain ⟨j, hj, e⟩ := List.exists_of_findSome?_eq_some h
  have hj' : j < xs.length := by simpa using hj
  exact ⟨j, hj', by rwa [atF_lt hj'] at e⟩

/-! ### Names -/
theorem strings_Compare_eq (a b : ByteArray) : strings_Compare a b = some (scmp a b) := by
  unfold strings_Compare h_CompareString
  rw [bnd_some, scmp_eq]
/-- The place of a name. -/
def ixN {α : Type} (f : α → ByteArray) (xs : List α) (s : ByteArray) : Int := ixBy (fun x => decide (f x = s)) xs
theorem ixN_eq {α : Type} (f : α → ByteArray) (xs : List α) (s : ByteArray) : ixBy (fun x => sEq (f x) s) xs = ixN f xs s := by
  unfold ixN
  congr 1
  funext x
  exact sEq_iff
theorem at_name {α : Type} {f : α → ByteArray} {c : α → ByteArray → Option Int} {xs : List α} {s : ByteArray} (hc : ∀ x ∈ xs, c x s = some (scmp (f x) s)) (hr : Rising f xs) (hl : xs.length ≤ lim) :
    (bnd (BS xs s c) fun r1 => cnd (!r1.2) (some (-1)) (some r1.1)) = some (ixN f xs s) := by
  obtain ⟨k, b, h1, h2, h3⟩ := BS_name hc hr hl
  rw [h1, bnd_some]
  cases b with
  | true => rw [(h2 rfl).1]; rfl
  | false => rw [show ixN f xs s = -1 from h3 rfl]; rfl
theorem nl_type_at {t : List PartType} {s : ByteArray} (hr : Rising (·.Name) t) (hl : t.length ≤ lim) : nl_TypeAt t s = some (ixN (·.Name) t s) := by
  have e : nl_TypeAt t s = (bnd (BS t s fun z0 z1 => nl_TypeAt_1 z0 z1) fun r1 => cnd (!r1.2) (some (-1)) (some r1.1)) := rfl
  rw [e]
  exact at_name (f := fun x : PartType => x.Name) (fun x _ => by unfold nl_TypeAt_1; rw [strings_Compare_eq]; rfl) hr hl
theorem nl_pin_at {t : PartType} {s : ByteArray} (hr : Rising (·.Name) t.Pins) (hl : t.Pins.length ≤ lim) : nl_PinAt t s = some (ixN (·.Name) t.Pins s) := by
  have e : nl_PinAt t s = (bnd (BS t.Pins s fun z0 z1 => nl_PinAt_1 z0 z1) fun r1 => cnd (!r1.2) (some (-1)) (some r1.1)) := rfl
  rw [e]
  exact at_name (f := fun x : PinType => x.Name) (fun x _ => by unfold nl_PinAt_1; rw [strings_Compare_eq]; rfl) hr hl
theorem nl_part_at {l : List Part} {s : ByteArray} (hr : Rising (·.Name) l) (hl : l.length ≤ lim) : nl_partAt l s = some (ixN (·.Name) l s) := by
  have e : nl_partAt l s = (bnd (BS l s fun z0 z1 => nl_partAt_1 z0 z1) fun r1 => cnd (!r1.2) (some (-1)) (some r1.1)) := rfl
  rw [e]
  exact at_name (f := fun x : Part => x.Name) (fun x _ => by unfold nl_partAt_1; rw [strings_Compare_eq]; rfl) hr hl
theorem ref_type_of (t : List PartType) (s : ByteArray) : ref_typeOf t s = some (ixN (·.Name) t s) := by
  have e : ref_typeOf t s = LIN' (fun x => sEq x.Name s) t := rfl
  rw [e, LIN'_eq, ixN_eq (f := fun x : PartType => x.Name)]
theorem ref_pin_of (t : PartType) (s : ByteArray) : ref_pinOf t s = some (ixN (·.Name) t.Pins s) := by
  have e : ref_pinOf t s = LIN' (fun x => sEq x.Name s) t.Pins := rfl
  rw [e, LIN'_eq, ixN_eq (f := fun x : PinType => x.Name)]
theorem ref_part_of (l : List Part) (s : ByteArray) : ref_partOf l s = some (ixN (·.Name) l s) := by
  have e : ref_partOf l s = LIN' (fun x => sEq x.Name s) l := rfl
  rw [e, LIN'_eq, ixN_eq (f := fun x : Part => x.Name)]

/-! ### Types -/
def pinF (l : List PinType) (x : PinType) (i : Nat) : Option Int :=
  if isW x.Name then (if decide (x.Kind < 1) || decide (x.Kind > 7) then some 4 else if decide (x.Group < 0) || decide (x.Group > 200) then some 1 else if ordC (·.Name) l i then some 8 else none) else some 5
def clashF (x q : PinType) : Bool := decide (x.Group > 0) && (x.Group == q.Group && x.Kind != q.Kind)
def pinsF (l : List PinType) : Int :=
  if l.length = 0 then 9 else if l.length > 200 then 2 else match firstF l (pinF l) with
    | some r => r
    | none => match firstF l (fun x i => if (l.take i).any (clashF x) then some (12 : Int) else none) with
      | some r => r
      | none => 0
theorem nl_pins {l : List PinType} (hl : l.length ≤ lim) : nl_checkPins l = some (pinsF l) := by
  unfold nl_checkPins pinsF
  by_cases h0 : l.length = 0
  · rw [if_pos h0, show ((l.length : Int) == 0) = true by simpa using h0]; rfl
  rw [if_neg h0, show ((l.length : Int) == 0) = false by simpa using h0, cnd_f]
  by_cases h1 : l.length > 200
  · rw [if_pos h1, decide_eq_true (by omega)]; rfl
  rw [if_neg h1, decide_eq_false (by omega), cnd_f]
  rw [forN_first (pinF l) fun j hj => ?_]
  · cases firstF l (pinF l) with
    | some r => rfl
    | none =>
      rw [aft0_fin, forN_first (fun x i => if (l.take i).any (clashF x) then some (12 : Int) else none) fun j hj => ?_]
      · cases firstF l (fun x i => if (l.take i).any (clashF x) then some (12 : Int) else none) <;> rfl
      · unfold nl_checkPins_b1
        rw [atI_lt hj, bnd_some, grd_pos (by omega)]
        have hany : slices_ContainsFunc_api_PinType_api_PinType ((l.take (Int.toNat (j : Int))).drop (Int.toNat 0)) (fun z0 => nl_checkPins_1 z0 l[j]) = some ((l.take j).any (clashF l[j])) := by
          have e : slices_IndexFunc_api_PinType_api_PinType ((l.take (Int.toNat (j : Int))).drop (Int.toNat 0)) (fun z0 => nl_checkPins_1 z0 l[j]) = LIN (fun z0 => nl_checkPins_1 z0 l[j]) (l.take j) := rfl
          unfold slices_ContainsFunc_api_PinType_api_PinType
          rw [e, LIN_eq (q := clashF l[j]) (fun x _ => by
            unfold nl_checkPins_1 clashF
            rw [cnd_some, cnd_some, bnd1_some]
            have : (x.Kind != l[j].Kind) = (l[j].Kind != x.Kind) := by
              by_cases e : x.Kind = l[j].Kind
              · simp [e]
              · have e' : ¬ l[j].Kind = x.Kind := fun h => e h.symm
                rw [bne_iff_ne.2 e, bne_iff_ne.2 e']
            have h2 : (x.Group == l[j].Group) = (l[j].Group == x.Group) := by
              by_cases e : x.Group = l[j].Group
              · simp [e]
              · have e' : ¬ l[j].Group = x.Group := fun h => e h.symm
                rw [beq_eq_false_iff_ne.2 e, beq_eq_false_iff_ne.2 e']
            rw [this, h2]
            cases decide (l[j].Group > 0) <;> cases (l[j].Group == x.Group) <;> rfl), bnd_some, ixBy_any]
        rw [hany, bnd_some, cnd_some]
        cases (l.take j).any (clashF l[j]) <;> rfl
  · unfold nl_checkPins_b0 pinF
    rw [atI_lt hj, bnd_some, nl_word, bnd_some, ord_eq (f := fun x : PinType => x.Name) hj hl rfl, cnd_some, cnd_some]
    simp only [bnd1_some]
    cases isW l[j].Name with
    | false => rfl
    | true =>
      simp only [Bool.not_true, cnd_f, if_true]
      cases decide (l[j].Kind < 1) <;> cases decide (l[j].Kind > 7) <;> cases decide (l[j].Group < 0) <;> cases decide (l[j].Group > 200) <;> cases ordC (fun x => x.Name) l j <;> rfl
def typeF (x : PartType) : Int := if isW x.Name then pinsF x.Pins else 5
theorem ref_type {x : PartType} (hl : x.Pins.length ≤ lim) : ref_checkType x = some (typeF x) := by
  unfold ref_checkType typeF
  rw [ref_word, bnd_some]
  cases isW x.Name with
  | false => rfl
  | true =>
    simp only [Bool.not_true, cnd_f, if_true]
    unfold pinsF
    by_cases h0 : x.Pins.length = 0
    · rw [if_pos h0, show ((x.Pins.length : Int) == 0) = true by simpa using h0]; rfl
    rw [if_neg h0, show ((x.Pins.length : Int) == 0) = false by simpa using h0, cnd_f]
    by_cases h1 : x.Pins.length > 200
    · rw [if_pos h1, decide_eq_true (by omega)]; rfl
    rw [if_neg h1, decide_eq_false (by omega), cnd_f]
    rw [forN_first (pinF x.Pins) fun j hj => ?_]
    · cases firstF x.Pins (pinF x.Pins) with
      | some r => rfl
      | none =>
        rw [aft0_fin, forN_first (fun y i => if (x.Pins.take i).any (clashF y) then some (12 : Int) else none) fun j hj => ?_]
        · cases firstF x.Pins (fun y i => if (x.Pins.take i).any (clashF y) then some (12 : Int) else none) <;> rfl
        · unfold ref_checkType_b1
          rw [atI_lt hj, bnd_some, grd_pos (by omega)]
          have e : ((x.Pins.take (Int.toNat (j : Int))).drop (Int.toNat 0)) = x.Pins.take j := rfl
          have hany : forN (fun i32 s => ref_checkType_b2 x j x.Pins[j] i32) ((x.Pins.take (Int.toNat (j : Int))).drop (Int.toNat 0)).length 0 () = some (if (x.Pins.take j).any (clashF x.Pins[j]) then .ret 12 else .fin ()) := by
            rw [e]
            refine forN_any fun i hi => ?_
            unfold ref_checkType_b2
            rw [e, atI_lt hi, bnd_some, cnd_some, cnd_some, bnd1_some, cnd_some]
            unfold clashF
            cases decide (x.Pins[j].Group > 0) <;> cases (x.Pins[j].Group == (x.Pins.take j)[i].Group) <;> cases (x.Pins[j].Kind != (x.Pins.take j)[i].Kind) <;> rfl
          rw [hany]
          cases (x.Pins.take j).any (clashF x.Pins[j]) <;> rfl
    · unfold ref_checkType_b0 pinF
      rw [atI_lt hj, bnd_some, ref_word, bnd_some, ord_eq (f := fun x : PinType => x.Name) hj hl rfl]
      simp only [bnd1_some, ref_within_eq, bnd_some]
      cases isW x.Pins[j].Name with
      | false => rfl
      | true =>
        simp only [Bool.not_true, cnd_f, if_true]
        have e1 : (!(decide (1 ≤ x.Pins[j].Kind) && decide (x.Pins[j].Kind ≤ 7))) = (decide (x.Pins[j].Kind < 1) || decide (x.Pins[j].Kind > 7)) := by
          rw [Bool.eq_iff_iff]; simp <;> omega
        have e2 : (!(decide (0 ≤ x.Pins[j].Group) && decide (x.Pins[j].Group ≤ 200))) = (decide (x.Pins[j].Group < 0) || decide (x.Pins[j].Group > 200)) := by
          rw [Bool.eq_iff_iff]; simp <;> omega
        rw [e1, e2]
        cases (decide (x.Pins[j].Kind < 1) || decide (x.Pins[j].Kind > 7)) <;> cases (decide (x.Pins[j].Group < 0) || decide (x.Pins[j].Group > 200)) <;> cases ordC (fun x => x.Name) x.Pins j <;> rfl
def typeAtF (t : List PartType) (x : PartType) (i : Nat) : Option Int := if typeF x = 0 then (if ordC (·.Name) t i then some 8 else none) else some (typeF x)
def typesF (t : List PartType) : Int := if t.length > 200 then 2 else match firstF t (typeAtF t) with
  | some r => r
  | none => 0
theorem nl_types {t : List PartType} (hl : t.length ≤ lim) (hp : ∀ x ∈ t, x.Pins.length ≤ lim) : nl_CheckTypes t = some (typesF t) := by
  unfold nl_CheckTypes typesF
  by_cases h1 : t.length > 200
  · rw [if_pos h1, decide_eq_true (by omega)]; rfl
  rw [if_neg h1, decide_eq_false (by omega), cnd_f]
  rw [forN_first (typeAtF t) fun j hj => ?_]
  · cases firstF t (typeAtF t) <;> rfl
  · unfold nl_CheckTypes_b0 typeAtF typeF
    rw [atI_lt hj, bnd_some, nl_word, bnd_some, ord_eq (f := fun x : PartType => x.Name) hj hl rfl]
    cases isW t[j].Name with
    | false => rfl
    | true =>
      simp only [Bool.not_true, cnd_f, if_true, bnd1_some]
      rw [nl_pins (hp _ (List.getElem_mem hj)), bnd_some]
      by_cases h : pinsF t[j].Pins = 0
      · rw [show (pinsF t[j].Pins != 0) = false by simpa using h, if_pos h, cnd_f]
        cases ordC (fun x => x.Name) t j <;> rfl
      · rw [show (pinsF t[j].Pins != 0) = true by simpa using h, if_neg h, cnd_t]
theorem ref_types {t : List PartType} (hl : t.length ≤ lim) (hp : ∀ x ∈ t, x.Pins.length ≤ lim) : ref_CheckTypes t = some (typesF t) := by
  unfold ref_CheckTypes typesF
  by_cases h1 : t.length > 200
  · rw [if_pos h1, decide_eq_true (by omega)]; rfl
  rw [if_neg h1, decide_eq_false (by omega), cnd_f]
  rw [forN_first (typeAtF t) fun j hj => ?_]
  · cases firstF t (typeAtF t) <;> rfl
  · unfold ref_CheckTypes_b0 typeAtF
    rw [atI_lt hj, bnd_some, ref_type (hp _ (List.getElem_mem hj)), bnd_some, ord_eq (f := fun x : PartType => x.Name) hj hl rfl]
    by_cases h : typeF t[j] = 0
    · rw [show (typeF t[j] != 0) = false by simpa using h, if_pos h, cnd_f]
      cases ordC (fun x => x.Name) t j <;> rfl
    · rw [show (typeF t[j] != 0) = true by simpa using h, if_neg h, cnd_t]
/-- Right types. -/
structure TypesOk (t : List PartType) : Prop where
  len : t.length ≤ 200
  rise : Rising (·.Name) t
  word : ∀ x ∈ t, isW x.Name = true
  plen : ∀ x ∈ t, 0 < x.Pins.length ∧ x.Pins.length ≤ 200
  prise : ∀ x ∈ t, Rising (·.Name) x.Pins
  kind : ∀ x ∈ t, ∀ p ∈ x.Pins, 1 ≤ p.Kind ∧ p.Kind ≤ 7 ∧ 0 ≤ p.Group ∧ p.Group ≤ 200 ∧ isW p.Name = true
theorem pinF_none {l : List PinType} {x : PinType} {i : Nat} (h : pinF l x i = none) : isW x.Name = true ∧ 1 ≤ x.Kind ∧ x.Kind ≤ 7 ∧ 0 ≤ x.Group ∧ x.Group ≤ 200 ∧ ordC (·.Name) l i = false := by
  unfold pinF at h
  split at h
  · rename_i h1
    split at h
    · cases h
    · rename_i h2
      split at h
      · cases h
      · rename_i h3
        split at h
        · cases h
        · rename_i h4
          simp at h2 h3 h4
          exact ⟨h1, by omega, by omega, by omega, by omega, h4⟩
  · cases h
theorem pinsF_zero {l : List PinType} (h : pinsF l = 0) : 0 < l.length ∧ l.length ≤ 200 ∧ Rising (·.Name) l ∧ ∀ p ∈ l, 1 ≤ p.Kind ∧ p.Kind ≤ 7 ∧ 0 ≤ p.Group ∧ p.Group ≤ 200 ∧ isW p.Name = true := by
  unfold pinsF at h
  split at h
  · cases h
  · rename_i h0
    split at h
    · cases h
    · rename_i h1
      cases hf : firstF l (pinF l) with
      | some r =>
        rw [hf] at h
        simp only at h
        subst h
        obtain ⟨j, hj, e⟩ := firstF_mem hf
        unfold pinF at e
        split at e
        · split at e
          · cases e
          · split at e
            · cases e
            · split at e
              · cases e
              · cases e
        · cases e
      | none =>
        have hn := firstF_none hf
        refine ⟨by omega, by omega, .ofC fun i hi => (pinF_none (hn i hi)).2.2.2.2.2, fun p hp => ?_⟩
        obtain ⟨i, hi, rfl⟩ := List.mem_iff_getElem.1 hp
        obtain ⟨a, b, c, d, e, _⟩ := pinF_none (hn i hi)
        exact ⟨b, c, d, e, a⟩
theorem typesF_zero {t : List PartType} (h : typesF t = 0) : TypesOk t := by
  unfold typesF at h
  split at h
  · cases h
  · rename_i h1
    cases hf : firstF t (typeAtF t) with
    | some r =>
      rw [hf] at h
      simp only at h
      subst h
      obtain ⟨j, hj, e⟩ := firstF_mem hf
      unfold typeAtF at e
      split at e
      · split at e <;> cases e
      · rename_i hne; exact (hne (Option.some.inj e)).elim
    | none =>
      have hn := firstF_none hf
      have key : ∀ i (hi : i < t.length), typeF t[i] = 0 ∧ ordC (·.Name) t i = false := fun i hi => by
        have := hn i hi
        unfold typeAtF at this
        split at this
        · rename_i h0
          split at this
          · cases this
          · rename_i h2; exact ⟨h0, by simpa using h2⟩
        · cases this
      have hw : ∀ x ∈ t, isW x.Name = true ∧ pinsF x.Pins = 0 := fun x hx => by
        obtain ⟨i, hi, rfl⟩ := List.mem_iff_getElem.1 hx
        have := (key i hi).1
        unfold typeF at this
        split at this
        · rename_i hh; exact ⟨hh, this⟩
        · cases this
      exact ⟨by omega, .ofC fun i hi => (key i hi).2, fun x hx => (hw x hx).1, fun x hx => ⟨(pinsF_zero (hw x hx).2).1, (pinsF_zero (hw x hx).2).2.1⟩, fun x hx => (pinsF_zero (hw x hx).2).2.2.1, fun x hx => (pinsF_zero (hw x hx).2).2.2.2⟩
end Go.Proofs.YtlbndchfmdogeaaGreatDoor.Sym
