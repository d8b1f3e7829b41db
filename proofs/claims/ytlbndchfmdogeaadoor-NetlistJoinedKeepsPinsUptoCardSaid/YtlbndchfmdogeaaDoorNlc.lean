/- Plain facts on chapter 2's functions: parts, pins, nets: CheckList and its reference. Conditions: none. -/
import Derived.Test.YtlbndchfmdogeaaDoorNlb
import Derived.Test.YtlbndchfmdogeaaDoorPld
set_option linter.unusedVariables false
set_option linter.unusedSimpArgs false
namespace Go.Proofs.YtlbndchfmdogeaaDoor.Sym
open Go Go.RowKit

/-! ### Pins -/
theorem pin_ext {a b : Pin} (h1 : a.Part = b.Part) (h2 : a.Pin = b.Pin) : a = b := by cases a; cases b; simp at h1 h2; rw [h1, h2]
instance : DecidableEq Pin := fun a b => decidable_of_iff (a.Part = b.Part ∧ a.Pin = b.Pin) ⟨fun h => pin_ext h.1 h.2, fun h => by rw [h]; exact ⟨rfl, rfl⟩⟩
theorem pinEq_iff (a b : Pin) : (sEq a.Part b.Part && (sEq a.Pin b.Pin && true)) = decide (b = a) := by
  rw [sEq_iff, sEq_iff, Bool.eq_iff_iff]
  simp
  exact ⟨fun h => pin_ext h.1.symm h.2.symm, fun h => by rw [h]; exact ⟨rfl, rfl⟩⟩
def plt (a b : Pin) : Prop := slt a.Part b.Part ∨ (a.Part = b.Part ∧ slt a.Pin b.Pin)
instance (a b : Pin) : Decidable (plt a b) := inferInstanceAs (Decidable (_ ∨ _))
def pcmp (a b : Pin) : Int := if scmp a.Part b.Part ≠ 0 then scmp a.Part b.Part else scmp a.Pin b.Pin
theorem nl_ComparePins_eq (a b : Pin) : nl_ComparePins a b = some (pcmp a b) := by
  unfold nl_ComparePins pcmp
  rw [strings_Compare_eq, bnd_some, strings_Compare_eq, bnd_some, cnd_some]
  by_cases h : scmp a.Part b.Part = 0
  · simp [h]
  · rw [bne_iff_ne.2 h, if_pos h]; rfl
theorem pcmp_neg {a b : Pin} : pcmp a b < 0 ↔ plt a b := by
  unfold pcmp plt
  by_cases h : scmp a.Part b.Part = 0
  · have e := scmp_zero.1 h
    rw [if_neg (fun q => q h), scmp_neg, e]
    simp [slt_irrefl]
  · rw [if_pos h, scmp_neg]
    have e : ¬ a.Part = b.Part := fun e => h (scmp_zero.2 e)
    simp [e]
theorem pcmp_zero {a b : Pin} : pcmp a b = 0 ↔ a = b := by
  unfold pcmp
  by_cases h : scmp a.Part b.Part = 0
  · have e := scmp_zero.1 h
    simp only [h, ne_eq, not_true, if_false]
    rw [scmp_zero]
    exact ⟨fun q => pin_ext e q, fun q => by rw [q]⟩
  · rw [if_pos h]
    exact ⟨fun q => (h q).elim, fun q => (h (scmp_zero.2 (by rw [q]))).elim⟩
theorem pcmp_pos {a b : Pin} : 0 < pcmp a b ↔ plt b a := by
  unfold pcmp plt
  by_cases h : scmp a.Part b.Part = 0
  · have e := scmp_zero.1 h
    simp only [h, ne_eq, not_true, if_false]
    rw [scmp_pos, e]
    simp [slt_irrefl]
  · rw [if_pos h, scmp_pos]
    have e : ¬ b.Part = a.Part := fun e => h (scmp_zero.2 e.symm)
    simp [e]
theorem plt_irrefl (a : Pin) : ¬ plt a a := fun h => by have := pcmp_neg.2 h; have := (pcmp_zero (a := a)).2 rfl; omega
theorem plt_trans {a b c : Pin} (h : plt a b) (k : plt b c) : plt a c := by
  rcases h with h | ⟨h1, h2⟩ <;> rcases k with k | ⟨k1, k2⟩
  · exact .inl (slt_trans h k)
  · exact .inl (by rw [← k1]; exact h)
  · exact .inl (by rw [h1]; exact k)
  · exact .inr ⟨h1.trans k1, slt_trans h2 k2⟩
theorem plt_total (a b : Pin) : plt a b ∨ a = b ∨ plt b a := by
  rcases Int.lt_trichotomy (pcmp a b) 0 with h | h | h
  · exact .inl (pcmp_neg.1 h)
  · exact .inr (.inl (pcmp_zero.1 h))
  · exact .inr (.inr (pcmp_pos.1 h))
theorem ref_before_eq (a b : Pin) : ref_before a b = some (decide (plt a b)) := by
  unfold ref_before
  rw [sLt_iff, sEq_iff, sLt_iff, cnd_some, cnd_some, bnd1_some]
  congr 1
  unfold plt
  rw [Bool.eq_iff_iff]
  by_cases h : slt a.Part b.Part <;> by_cases e : a.Part = b.Part <;> simp [h, e]
theorem contains_pin (l : List Pin) (p : Pin) : slices_Contains_api_Pin_api_Pin l p = some (decide (p ∈ l)) := by
  unfold slices_Contains_api_Pin_api_Pin
  have e : slices_Index_api_Pin_api_Pin l p = LIN' (fun x => sEq p.Part x.Part && (sEq p.Pin x.Pin && true)) l := rfl
  rw [e, LIN'_eq, bnd_some, ixBy_any]
  congr 1
  rw [Bool.eq_iff_iff, List.any_eq_true]
  simp only [pinEq_iff, decide_eq_true_eq]
  exact ⟨fun ⟨x, hx, e⟩ => e ▸ hx, fun h => ⟨p, h, rfl⟩⟩

/-! ### Parts, and the pins that they have -/
def byName {α : Type} (f : α → ByteArray) (xs : List α) (s : ByteArray) : Option α := xs.find? fun x => decide (f x = s)
theorem ixN_cases {α : Type} (f : α → ByteArray) (xs : List α) (s : ByteArray) : (0 ≤ ixN f xs s ∧ ∃ y, byName f xs s = some y ∧ atI xs (ixN f xs s) = some y) ∨ (ixN f xs s = -1 ∧ byName f xs s = none) := ix_find
theorem byName_mem {α : Type} {f : α → ByteArray} {xs : List α} {s : ByteArray} {y : α} (h : byName f xs s = some y) : y ∈ xs ∧ f y = s := by
  have := List.find?_some h
  exact ⟨List.mem_of_find?_eq_some h, by simpa using this⟩
/-- Whether there is such a pin. -/
def hasF (t : List PartType) (l : List Part) (p : Pin) : Bool := match byName (·.Name) l p.Part with
  | some x => match byName (·.Name) t x.Type_ with
    | some y => decide (0 ≤ ixN (·.Name) y.Pins p.Pin)
    | none => false
  | none => false
structure PartsOk (t : List PartType) (l : List Part) : Prop where
  len : l.length ≤ 1000
  rise : Rising (·.Name) l
  path : ∀ x ∈ l, isP x.Name = true
  type : ∀ x ∈ l, ∃ y, byName (·.Name) t x.Type_ = some y
theorem TypesOk.len' {t : List PartType} (h : TypesOk t) : t.length ≤ lim := by have := h.len; have : lim = 1099511627776 := rfl; omega
theorem TypesOk.plen' {t : List PartType} (h : TypesOk t) {x : PartType} (hx : x ∈ t) : x.Pins.length ≤ lim := by have := (h.plen x hx).2; have : lim = 1099511627776 := rfl; omega
theorem PartsOk.len' {t : List PartType} {l : List Part} (h : PartsOk t l) : l.length ≤ lim := by have := h.len; have : lim = 1099511627776 := rfl; omega
theorem nl_hasPin_eq {t : List PartType} {l : List Part} (ht : TypesOk t) (hp : PartsOk t l) (p : Pin) : nl_hasPin t l p = some (hasF t l p) := by
  unfold nl_hasPin hasF
  rw [nl_part_at hp.rise hp.len', bnd_some]
  rcases ixN_cases (fun x : Part => x.Name) l p.Part with ⟨h0, x, h1, h2⟩ | ⟨h0, h1⟩
  · rw [decide_eq_true h0, cnd_t, h2, bnd_some, nl_type_at ht.rise ht.len', bnd_some, h1]
    obtain ⟨y, hy⟩ := hp.type x (byName_mem h1).1
    rcases ixN_cases (fun x : PartType => x.Name) t x.Type_ with ⟨q0, z, q1, q2⟩ | ⟨q0, q1⟩
    · have hz := (byName_mem q1).1
      rw [q2, bnd_some, nl_pin_at (ht.prise z hz) (ht.plen' hz), bnd_some, bnd1_some]
      simp only [q1]
    · rw [hy] at q1; cases q1
  · rw [h0, decide_eq_false (by omega), cnd_f, bnd1_some, h1]
theorem ref_has {t : List PartType} {x : Netlist} (hp : PartsOk t x.Parts) (p : Pin) : ref_HasPin t x p = some (hasF t x.Parts p) := by
  unfold ref_HasPin hasF
  rw [ref_part_of, bnd_some]
  rcases ixN_cases (fun x : Part => x.Name) x.Parts p.Part with ⟨h0, y, h1, h2⟩ | ⟨h0, h1⟩
  · rw [decide_eq_true h0, cnd_t, h2, bnd_some, ref_type_of, bnd_some, h1]
    obtain ⟨z, hz⟩ := hp.type y (byName_mem h1).1
    rcases ixN_cases (fun x : PartType => x.Name) t y.Type_ with ⟨q0, z, q1, q2⟩ | ⟨q0, q1⟩
    · rw [q2, bnd_some, ref_pin_of, bnd_some, bnd1_some]
      simp only [q1]
    · rw [hz] at q1; cases q1
  · rw [h0, decide_eq_false (by omega), cnd_f, bnd1_some, h1]
noncomputable def partF (t : List PartType) (l : List Part) (x : Part) (i : Nat) : Option Int :=
  if isP x.Name then (if decide (ixN (·.Name) t x.Type_ < 0) then some 9 else if ordC (·.Name) l i then some 8 else none) else some 5
noncomputable def partsF (t : List PartType) (l : List Part) : Int := if l.length > 1000 then 2 else match firstF l (partF t l) with
  | some r => r
  | none => 0
theorem nl_parts {t : List PartType} {l : List Part} (ht : TypesOk t) (hl : l.length ≤ lim) (hn : ∀ x ∈ l, x.Name.size < lim) : nl_checkParts t l (fun z0 => nl_IsPath z0) = some (partsF t l) := by
  unfold nl_checkParts partsF
  by_cases h1 : l.length > 1000
  · rw [if_pos h1, decide_eq_true (by omega)]; rfl
  rw [if_neg h1, decide_eq_false (by omega), cnd_f, forN_first (partF t l) fun j hj => ?_]
  · cases firstF l (partF t l) <;> rfl
  · unfold nl_checkParts_b0 partF
    dsimp only
    rw [atI_lt hj, bnd_some, nl_path _ (hn _ (List.getElem_mem hj)), bnd_some, ord_eq (f := fun x : Part => x.Name) hj hl rfl, nl_type_at ht.rise ht.len', bnd_some, bnd1_some]
    cases isP l[j].Name with
    | false => rfl
    | true =>
      simp only [Bool.not_true, cnd_f, if_true]
      cases decide (ixN (fun x => x.Name) t l[j].Type_ < 0) <;> cases ordC (fun x => x.Name) l j <;> rfl
theorem partsF_zero {t : List PartType} {l : List Part} (h : partsF t l = 0) : PartsOk t l := by
  unfold partsF at h
  split at h
  · cases h
  · rename_i h1
    cases hf : firstF l (partF t l) with
    | some r =>
      rw [hf] at h
      simp only at h
      subst h
      obtain ⟨j, hj, e⟩ := firstF_mem hf
      unfold partF at e
      split at e
      · split at e
        · cases e
        · split at e <;> cases e
      · cases e
    | none =>
      have hn := firstF_none hf
      have key : ∀ i (hi : i < l.length), isP l[i].Name = true ∧ 0 ≤ ixN (·.Name) t l[i].Type_ ∧ ordC (·.Name) l i = false := fun i hi => by
        have := hn i hi
        unfold partF at this
        split at this
        · rename_i h0
          split at this
          · cases this
          · rename_i h2
            split at this
            · cases this
            · rename_i h3
              simp at h2 h3
              exact ⟨h0, by omega, h3⟩
        · cases this
      refine ⟨by omega, .ofC fun i hi => (key i hi).2.2, fun x hx => ?_, fun x hx => ?_⟩
      · obtain ⟨i, hi, rfl⟩ := List.mem_iff_getElem.1 hx
        exact (key i hi).1
      · obtain ⟨i, hi, rfl⟩ := List.mem_iff_getElem.1 hx
        rcases ixN_cases (fun x : PartType => x.Name) t l[i].Type_ with ⟨_, y, h, _⟩ | ⟨h, _⟩
        · exact ⟨y, h⟩
        · have := (key i hi).2.1; omega

/-! ### Nets -/
theorem findSome_map {α β γ : Type} (f : α → Option β) (g : β → γ) : ∀ (l : List α), (l.findSome? fun x => (f x).map g) = (l.findSome? f).map g
  | [] => rfl
  | x :: l => by
    rw [List.findSome?_cons, List.findSome?_cons]
    cases f x with
    | some b => rfl
    | none => exact findSome_map f g l
def ordP (l : List Pin) (i : Nat) : Bool := if h : 0 < i ∧ i < l.length then !decide (plt (l[i - 1]'(by omega)) l[i]) else false
def inB (l : List Net) (p : Pin) : Bool := l.any fun n => decide (p ∈ n.Pins)
theorem ref_inNets_eq (l : List Net) (p : Pin) : ref_inNets l p = some (inB l p) := by
  unfold ref_inNets inB
  rw [forN_any (p := fun n : Net => decide (p ∈ n.Pins)) (r := true) fun j hj => ?_]
  · cases l.any fun n => decide (p ∈ n.Pins) <;> rfl
  · unfold ref_inNets_b0
    rw [atI_lt hj, bnd_some, contains_pin, bnd_some, cnd_some]
    cases decide (p ∈ l[j].Pins) <;> rfl
def netPinF (t : List PartType) (x : Netlist) (i : Nat) (l : List Pin) (p : Pin) (k : Nat) : Option Int :=
  if hasF t x.Parts p then (if ordP l k then some 8 else if inB (x.Nets.take i) p then some 7 else none) else some 9
/-- The pins that there are already. -/
def SeenIs (y : List (Pin × Bool)) (l : List Net) : Prop := ∀ p, tlook y p = if inB l p then some true else none
theorem ord_pins_nl {l : List Pin} {i : Nat} (hi : i < l.length) (hl : l.length ≤ lim) {x : Pin} (hx : x = l[i]) :
    cnd (decide ((i : Int) > 0)) (bnd (atI l (w64 ((i : Int) - 1))) fun y => bnd (nl_ComparePins x y) fun r => some (decide (r ≤ 0))) (some false) = some (ordP l i) := by
  subst hx
  unfold ordP
  by_cases h : 0 < i
  · rw [decide_eq_true (by omega), cnd_t, atI_pred h hi hl, bnd_some, dif_pos ⟨h, hi⟩, nl_ComparePins_eq, bnd_some, ← decide_not]
    congr 1
    rw [decide_eq_decide, ← pcmp_pos]; omega
  · rw [decide_eq_false (by omega), cnd_f, dif_neg (by omega)]
theorem ord_pins_ref {l : List Pin} {i : Nat} (hi : i < l.length) (hl : l.length ≤ lim) {x : Pin} (hx : x = l[i]) :
    cnd (decide ((i : Int) > 0)) (bnd (atI l (w64 ((i : Int) - 1))) fun y => bnd (ref_before y x) fun r => some (!r)) (some false) = some (ordP l i) := by
  subst hx
  unfold ordP
  by_cases h : 0 < i
  · rw [decide_eq_true (by omega), cnd_t, atI_pred h hi hl, bnd_some, dif_pos ⟨h, hi⟩, ref_before_eq, bnd_some]
  · rw [decide_eq_false (by omega), cnd_f, dif_neg (by omega)]
theorem put_all {l : List Pin} (y : List (Pin × Bool)) : ∃ y', forN (fun i27 s => nl_checkNetPins_b1 l i27 s) l.length 0 y = some (.fin y') ∧ ∀ p, tlook y' p = if p ∈ l then some true else tlook y p := by
  obtain ⟨y', h1, h2⟩ := forN_go (N := l.length) (b := fun i27 s => nl_checkNetPins_b1 l i27 s) (fun j s => ∀ p, tlook s p = if p ∈ l.take j then some true else tlook y p) (fun j s hj hR => by
    refine ⟨tput s l[j] true, ?_, fun p => ?_⟩
    · unfold nl_checkNetPins_b1
      rw [atI_lt hj, bnd_some]
    · rw [tlook_put, hR p, List.take_succ_eq_append_getElem hj]
      simp only [List.mem_append, List.mem_singleton]
      by_cases e : p = l[j] <;> by_cases q : p ∈ l.take j <;> simp [e, q]) l.length 0 y (Nat.zero_add _) (fun p => by simp)
  exact ⟨y', h1, by simpa using h2⟩
structure NetOk (t : List PartType) (x : Netlist) (i : Nat) (n : Net) : Prop where
  path : isP n.Name = true
  len : 0 < n.Pins.length ∧ n.Pins.length ≤ 500
  has : ∀ p ∈ n.Pins, hasF t x.Parts p = true
  rise : ∀ k (hk : k < n.Pins.length), ordP n.Pins k = false
  once : ∀ p ∈ n.Pins, inB (x.Nets.take i) p = false
  port : n.Ports.length = 0
  ord : ordC (·.Name) x.Nets i = false
theorem netPinF_none {t : List PartType} {x : Netlist} {i : Nat} {l : List Pin} (h : firstF l (netPinF t x i l) = none) : (∀ p ∈ l, hasF t x.Parts p = true) ∧ (∀ k (hk : k < l.length), ordP l k = false) ∧ ∀ p ∈ l, inB (x.Nets.take i) p = false := by
  have hn := firstF_none h
  have key : ∀ k (hk : k < l.length), hasF t x.Parts l[k] = true ∧ ordP l k = false ∧ inB (x.Nets.take i) l[k] = false := fun k hk => by
    have := hn k hk
    unfold netPinF at this
    split at this
    · rename_i h0
      split at this
      · cases this
      · rename_i h2
        split at this
        · cases this
        · rename_i h3
          exact ⟨h0, by simpa using h2, by simpa using h3⟩
    · cases this
  refine ⟨fun p hp => ?_, fun k hk => (key k hk).2.1, fun p hp => ?_⟩
  · obtain ⟨k, hk, rfl⟩ := List.mem_iff_getElem.1 hp; exact (key k hk).1
  · obtain ⟨k, hk, rfl⟩ := List.mem_iff_getElem.1 hp; exact (key k hk).2.2
theorem nl_netPins {t : List PartType} {x : Netlist} (ht : TypesOk t) (hp : PartsOk t x.Parts) {i : Nat} {l : List Pin} {y : List (Pin × Bool)} (hs : SeenIs y (x.Nets.take i)) (hl : l.length ≤ lim) :
    ∃ y', nl_checkNetPins l (fun z0 => nl_CheckList_1 z0 t x) y = some (if l.length > 500 then 2 else (firstF l (netPinF t x i l)).getD 0, y') ∧
      (¬ l.length > 500 → firstF l (netPinF t x i l) = none → ∀ p, tlook y' p = if p ∈ l then some true else tlook y p) := by
  unfold nl_checkNetPins
  by_cases h1 : l.length > 500
  · refine ⟨y, ?_, fun h => (h h1).elim⟩
    rw [if_pos h1, decide_eq_true (by omega)]; rfl
  rw [if_neg h1, decide_eq_false (by omega), cnd_f]
  have hbody : ∀ j (hj : j < l.length), nl_checkNetPins_b0 (fun z0 => nl_CheckList_1 z0 t x) l y j = some (match netPinF t x i l l[j] j with | some r => .ret (r, y) | none => .go ()) := fun j hj => by
    unfold nl_checkNetPins_b0 nl_CheckList_1 netPinF
    dsimp only
    rw [atI_lt hj, bnd_some, nl_hasPin_eq ht hp, bnd_some, bnd_some, ord_pins_nl hj hl rfl, bnd1_some, hs]
    cases hasF t x.Parts l[j] with
    | false => rfl
    | true =>
      simp only [Bool.not_true, cnd_f, if_true]
      cases ordP l j <;> cases inB (x.Nets.take i) l[j] <;> rfl
  rw [forN_first (ρ := Int × List (Pin × Bool)) (fun p k => (netPinF t x i l p k).map fun r => (r, y)) fun j hj => by rw [hbody j hj]; cases netPinF t x i l l[j] j <;> rfl]
  have e : firstF l (fun p k => (netPinF t x i l p k).map fun r => (r, y)) = (firstF l (netPinF t x i l)).map fun r => (r, y) := by
    unfold firstF
    rw [← findSome_map]
    congr 1
    funext j
    unfold atF
    cases l[j]? <;> rfl
  rw [e]
  cases firstF l (netPinF t x i l) with
  | some r => exact ⟨y, rfl, fun _ h => by cases h⟩
  | none =>
    obtain ⟨y', h2, h3⟩ := put_all (l := l) y
    refine ⟨y', ?_, fun _ _ => h3⟩
    simp only [Option.map_none, aft0_fin]
    rw [h2, aft1_fin]; rfl
end Go.Proofs.YtlbndchfmdogeaaDoor.Sym
