/- Plain facts on chapter 2's functions: CheckList and its reference answer alike. Conditions: none. -/
import Derived.Test.YtlbndchfmdogeaaDoorNlc
set_option linter.unusedVariables false
set_option linter.unusedSimpArgs false
namespace Go.Proofs.YtlbndchfmdogeaaDoor.Sym
open Go Go.RowKit

theorem forN_firstS {α σ ρ : Type} {b : Nat → σ → Option (Stp σ ρ)} {xs : List α} (g : α → Nat → Option ρ) (R : Nat → σ → Prop)
    (h : ∀ j (hj : j < xs.length) s, R j s → (∀ r, g xs[j] j = some r → b j s = some (.ret r)) ∧ (g xs[j] j = none → ∃ s', b j s = some (.go s') ∧ R (j + 1) s')) :
    ∀ (n i : Nat) (s : σ), i + n = xs.length → R i s → (∀ r, (List.range' i n).findSome? (atF xs g) = some r → forN b n i s = some (.ret r)) ∧ ((List.range' i n).findSome? (atF xs g) = none → ∃ s', forN b n i s = some (.fin s') ∧ R xs.length s')
  | 0, i, s, hi, hr => ⟨fun r h => (by cases h), fun _ => ⟨s, rfl, by rw [show xs.length = i by omega]; exact hr⟩⟩
  | n + 1, i, s, hi, hr => by
    have hlt : i < xs.length := by omega
    obtain ⟨h1, h2⟩ := h i hlt s hr
    rw [List.range'_succ, List.findSome?_cons, atF_lt hlt]
    cases hg : g xs[i] i with
    | some r =>
      refine ⟨fun r' e => ?_, fun e => by cases e⟩
      cases e
      simp only [forN, h1 r hg]
    | none =>
      obtain ⟨s', h3, h4⟩ := h2 hg
      simp only [forN, h3]
      exact forN_firstS g R h n (i + 1) s' (by omega) h4
theorem forN_firstS' {α σ ρ : Type} {b : Nat → σ → Option (Stp σ ρ)} {xs : List α} (g : α → Nat → Option ρ) (R : Nat → σ → Prop)
    (h : ∀ j (hj : j < xs.length) s, R j s → (∀ r, g xs[j] j = some r → b j s = some (.ret r)) ∧ (g xs[j] j = none → ∃ s', b j s = some (.go s') ∧ R (j + 1) s')) {s : σ} (hr : R 0 s) :
    (∀ r, firstF xs g = some r → forN b xs.length 0 s = some (.ret r)) ∧ (firstF xs g = none → ∃ s', forN b xs.length 0 s = some (.fin s') ∧ R xs.length s') :=
  forN_firstS g R h xs.length 0 s (Nat.zero_add _) hr

noncomputable def netF (t : List PartType) (x : Netlist) (n : Net) (i : Nat) : Option Int :=
  if isP n.Name then (if n.Pins.length = 0 then some 9 else if n.Pins.length > 500 then some 2 else match firstF n.Pins (netPinF t x i n.Pins) with
    | some r => some r
    | none => if n.Ports.length > 0 then some 3 else if ordC (·.Name) x.Nets i then some 8 else none) else some 5
theorem netPinF_ne {t : List PartType} {x : Netlist} {i : Nat} {l : List Pin} {r : Int} (h : firstF l (netPinF t x i l) = some r) : r ≠ 0 := by
  obtain ⟨j, hj, e⟩ := firstF_mem h
  unfold netPinF at e
  split at e
  · split at e
    · cases e; decide
    · split at e
      · cases e; decide
      · cases e
  · cases e; decide
structure Small (t : List PartType) (x : Netlist) : Prop where
  lt : t.length ≤ lim
  ltp : ∀ y ∈ t, y.Pins.length ≤ lim
  lp : x.Parts.length ≤ lim
  lpn : ∀ y ∈ x.Parts, y.Name.size < lim
  ln : x.Nets.length ≤ lim
  lnn : ∀ y ∈ x.Nets, y.Name.size < lim
  lnp : ∀ y ∈ x.Nets, y.Pins.length ≤ lim
theorem inB_snoc (l : List Net) (n : Net) (p : Pin) : inB (l ++ [n]) p = (inB l p || decide (p ∈ n.Pins)) := by
  unfold inB; simp
theorem nl_net {t : List PartType} {x : Netlist} (ht : TypesOk t) (hp : PartsOk t x.Parts) (hs : Small t x) {i : Nat} (hi : i < x.Nets.length) {y : List (Pin × Bool)} (hy : SeenIs y (x.Nets.take i)) :
    (∀ r, netF t x x.Nets[i] i = some r → nl_CheckList_b0 t x i y = some (.ret r)) ∧ (netF t x x.Nets[i] i = none → ∃ y', nl_CheckList_b0 t x i y = some (.go y') ∧ SeenIs y' (x.Nets.take (i + 1))) := by
  have hmem := List.getElem_mem hi
  obtain ⟨y', h1, h2⟩ := nl_netPins ht hp (i := i) (l := x.Nets[i].Pins) hy (hs.lnp _ hmem)
  unfold netF nl_CheckList_b0
  rw [atI_lt hi, bnd_some, nl_path _ (hs.lnn _ hmem), bnd_some, ord_eq (f := fun n : Net => n.Name) hi hs.ln rfl, h1, bnd_some]
  simp only [bnd1_some]
  cases isP x.Nets[i].Name with
  | false => exact ⟨fun r h => (by cases h; rfl), fun h => (by cases h)⟩
  | true =>
    simp only [Bool.not_true, cnd_f, if_true]
    by_cases h0 : x.Nets[i].Pins.length = 0
    · rw [if_pos h0, show ((x.Nets[i].Pins.length : Int) == 0) = true by simpa using h0]
      exact ⟨fun r h => (by cases h; rfl), fun h => (by cases h)⟩
    rw [if_neg h0, show ((x.Nets[i].Pins.length : Int) == 0) = false by simpa using h0, cnd_f]
    by_cases h5 : x.Nets[i].Pins.length > 500
    · rw [if_pos h5, if_pos h5]
      exact ⟨fun r h => (by cases h; rfl), fun h => (by cases h)⟩
    rw [if_neg h5, if_neg h5]
    cases hf : firstF x.Nets[i].Pins (netPinF t x i x.Nets[i].Pins) with
    | some r =>
      simp only [Option.getD_some]
      rw [bne_iff_ne.2 (netPinF_ne hf), cnd_t]
      exact ⟨fun r h => (by cases h; rfl), fun h => (by cases h)⟩
    | none =>
      simp only [Option.getD_none]
      rw [show ((0 : Int) != 0) = false from rfl, cnd_f]
      by_cases h6 : x.Nets[i].Ports.length > 0
      · rw [if_pos h6, decide_eq_true (by omega), cnd_t]
        exact ⟨fun r h => (by cases h; rfl), fun h => (by cases h)⟩
      rw [if_neg h6, decide_eq_false (by omega), cnd_f]
      cases ordC (fun n : Net => n.Name) x.Nets i with
      | true => exact ⟨fun r h => (by cases h; rfl), fun h => (by cases h)⟩
      | false =>
        refine ⟨fun r h => (by cases h), fun _ => ⟨y', rfl, fun p => ?_⟩⟩
        rw [h2 h5 hf p, hy p, List.take_succ_eq_append_getElem hi, inB_snoc]
        by_cases e : p ∈ x.Nets[i].Pins <;> cases inB (x.Nets.take i) p <;> simp [e]
theorem ref_net {t : List PartType} {x : Netlist} (hp : PartsOk t x.Parts) (hs : Small t x) {i : Nat} (hi : i < x.Nets.length) :
    ref_checkList_b1 t x i = some (match netF t x x.Nets[i] i with | some r => .ret r | none => .go ()) := by
  have hmem := List.getElem_mem hi
  unfold netF ref_checkList_b1
  rw [atI_lt hi, bnd_some, ref_path _ (hs.lnn _ hmem), bnd_some, ord_eq (f := fun n : Net => n.Name) hi hs.ln rfl, bnd1_some]
  cases isP x.Nets[i].Name with
  | false => rfl
  | true =>
    simp only [Bool.not_true, cnd_f, if_true]
    by_cases h0 : x.Nets[i].Pins.length = 0
    · rw [if_pos h0, show ((x.Nets[i].Pins.length : Int) == 0) = true by simpa using h0]; rfl
    rw [if_neg h0, show ((x.Nets[i].Pins.length : Int) == 0) = false by simpa using h0, cnd_f]
    by_cases h5 : x.Nets[i].Pins.length > 500
    · rw [if_pos h5, decide_eq_true (by omega)]; rfl
    rw [if_neg h5, decide_eq_false (by omega), cnd_f]
    rw [forN_first (netPinF t x i x.Nets[i].Pins) fun k hk => ?_]
    · cases firstF x.Nets[i].Pins (netPinF t x i x.Nets[i].Pins) with
      | some r => rfl
      | none =>
        rw [aft0_fin]
        by_cases h6 : x.Nets[i].Ports.length > 0
        · rw [if_pos h6, decide_eq_true (by omega)]; rfl
        rw [if_neg h6, decide_eq_false (by omega), cnd_f]
        cases ordC (fun n : Net => n.Name) x.Nets i <;> rfl
    · unfold ref_checkList_b2 netPinF
      rw [atI_lt hk, bnd_some, ref_has hp, bnd_some, ord_pins_ref hk (hs.lnp _ hmem) rfl, bnd1_some, grd_pos (by omega)]
      rw [show ((x.Nets.take (Int.toNat (i : Int))).drop (Int.toNat 0)) = x.Nets.take i from rfl, ref_inNets_eq, bnd_some]
      cases hasF t x.Parts x.Nets[i].Pins[k] <;> cases ordP x.Nets[i].Pins k <;> cases inB (x.Nets.take i) x.Nets[i].Pins[k] <;> rfl
/-- What is wrong with a list. -/
noncomputable def listF (t : List PartType) (x : Netlist) : Int :=
  if typesF t ≠ 0 then typesF t else if partsF t x.Parts ≠ 0 then partsF t x.Parts else if x.Nets.length > 1000 then 2 else match firstF x.Nets (netF t x) with
    | some r => r
    | none => 0
theorem nl_list {t : List PartType} {x : Netlist} (hs : Small t x) : nl_CheckList t x = some (listF t x) := by
  unfold nl_CheckList listF
  rw [nl_types hs.lt hs.ltp, bnd_some]
  by_cases h1 : typesF t = 0
  · rw [if_neg (fun q => q h1), show (typesF t != 0) = false by simpa using h1, cnd_f]
    have ht := typesF_zero h1
    rw [nl_parts ht hs.lp hs.lpn, bnd_some]
    by_cases h2 : partsF t x.Parts = 0
    · rw [if_neg (fun q => q h2), show (partsF t x.Parts != 0) = false by simpa using h2, cnd_f]
      have hp := partsF_zero h2
      by_cases h3 : x.Nets.length > 1000
      · rw [if_pos h3, decide_eq_true (by omega)]; rfl
      rw [if_neg h3, decide_eq_false (by omega), cnd_f]
      obtain ⟨q1, q2⟩ := forN_firstS' (b := fun i8 s => nl_CheckList_b0 t x i8 s) (xs := x.Nets) (netF t x) (fun j y => SeenIs y (x.Nets.take j)) (fun j hj y hy => nl_net ht hp hs hj hy) (s := []) (fun p => by simp [tlook_nil, inB])
      cases hf : firstF x.Nets (netF t x) with
      | some r => rw [q1 r hf]; rfl
      | none =>
        obtain ⟨y, h4, _⟩ := q2 hf
        rw [h4]; rfl
    · rw [if_pos h2, show (partsF t x.Parts != 0) = true by simpa using h2, cnd_t]
  · rw [if_pos h1, show (typesF t != 0) = true by simpa using h1, cnd_t]
theorem ref_list {t : List PartType} {x : Netlist} (hs : Small t x) : ref_CheckList t x = some (listF t x) := by
  unfold ref_CheckList listF
  rw [ref_types hs.lt hs.ltp, bnd_some]
  by_cases h1 : typesF t = 0
  · rw [if_neg (fun q => q h1), show (typesF t != 0) = false by simpa using h1, cnd_f]
    have ht := typesF_zero h1
    unfold ref_checkList
    by_cases h9 : x.Parts.length > 1000
    · have : partsF t x.Parts = 2 := by unfold partsF; rw [if_pos h9]
      rw [this, decide_eq_true (by omega)]; rfl
    have e9 : partsF t x.Parts = match firstF x.Parts (partF t x.Parts) with | some r => r | none => 0 := by unfold partsF; rw [if_neg h9]; cases firstF x.Parts (partF t x.Parts) <;> rfl
    rw [decide_eq_false (by omega), cnd_f, forN_first (partF t x.Parts) fun j hj => ?_]
    · cases hf : firstF x.Parts (partF t x.Parts) with
      | some r =>
        have e : partsF t x.Parts = r := by rw [e9, hf]
        have hne : r ≠ 0 := by
          obtain ⟨j, hj, e⟩ := firstF_mem hf
          unfold partF at e
          split at e
          · split at e
            · cases e; decide
            · split at e
              · cases e; decide
              · cases e
          · cases e; decide
        rw [e, if_pos hne]; rfl
      | none =>
        have e : partsF t x.Parts = 0 := by rw [e9, hf]
        have hp := partsF_zero e
        rw [e, if_neg (fun q => q rfl), aft0_fin]
        by_cases h3 : x.Nets.length > 1000
        · rw [if_pos h3, decide_eq_true (by omega)]; rfl
        rw [if_neg h3, decide_eq_false (by omega), cnd_f, forN_first (netF t x) fun j hj => by rw [ref_net hp hs hj]; cases netF t x x.Nets[j] j <;> rfl]
        cases firstF x.Nets (netF t x) <;> rfl
    · unfold ref_checkList_b0 partF
      rw [atI_lt hj, bnd_some, ref_path _ (hs.lpn _ (List.getElem_mem hj)), bnd_some, ord_eq (f := fun x : Part => x.Name) hj hs.lp rfl, ref_type_of, bnd_some, bnd1_some]
      cases isP x.Parts[j].Name with
      | false => rfl
      | true =>
        simp only [Bool.not_true, cnd_f, if_true]
        cases decide (ixN (fun x => x.Name) t x.Parts[j].Type_ < 0) <;> cases ordC (fun x => x.Name) x.Parts j <;> rfl
  · rw [if_pos h1, show (typesF t != 0) = true by simpa using h1, cnd_t]
/-- A right list. -/
structure ListOk (t : List PartType) (x : Netlist) : Prop where
  types : TypesOk t
  parts : PartsOk t x.Parts
  len : x.Nets.length ≤ 1000
  net : ∀ i (hi : i < x.Nets.length), NetOk t x i x.Nets[i]
theorem netF_none {t : List PartType} {x : Netlist} {n : Net} {i : Nat} (h : netF t x n i = none) : NetOk t x i n := by
  unfold netF at h
  split at h
  · rename_i h0
    split at h
    · cases h
    · rename_i h1
      split at h
      · cases h
      · rename_i h2
        split at h
        · cases h
        · rename_i h3
          split at h
          · cases h
          · rename_i h4
            split at h
            · cases h
            · rename_i h5
              obtain ⟨a, b, c⟩ := netPinF_none h3
              exact ⟨h0, ⟨by omega, by omega⟩, a, b, c, by omega, by simpa using h5⟩
  · cases h
theorem listF_zero {t : List PartType} {x : Netlist} (h : listF t x = 0) : ListOk t x := by
  unfold listF at h
  split at h
  · rename_i h1; exact (h1 h).elim
  · rename_i h1
    split at h
    · rename_i h2; exact (h2 h).elim
    · rename_i h2
      split at h
      · cases h
      · rename_i h3
        have e1 : typesF t = 0 := Classical.byContradiction h1
        have e2 : partsF t x.Parts = 0 := Classical.byContradiction h2
        cases hf : firstF x.Nets (netF t x) with
        | some r =>
          rw [hf] at h
          simp only at h
          subst h
          obtain ⟨j, hj, e⟩ := firstF_mem hf
          exfalso
          unfold netF at e
          split at e
          · split at e
            · cases e
            · split at e
              · cases e
              · split at e
                · rename_i hq; cases e; exact netPinF_ne hq rfl
                · split at e
                  · cases e
                  · split at e <;> cases e
          · cases e
        | none => exact ⟨typesF_zero e1, partsF_zero e2, by omega, fun i hi => netF_none (firstF_none hf i hi)⟩
theorem ListOk.rise {t : List PartType} {x : Netlist} (h : ListOk t x) : Rising (·.Name) x.Nets := .ofC fun i hi => (h.net i hi).ord
end Go.Proofs.YtlbndchfmdogeaaDoor.Sym
