/- Plain facts on chapter 2's functions: in which net a pin is, and the pins in none. Conditions: none. -/
import Derived.Test.YtlbndchfmdogeaaDoorNld
set_option linter.unusedVariables false
set_option linter.unusedSimpArgs false
namespace Go.Proofs.YtlbndchfmdogeaaDoor.Sym
open Go Go.RowKit

/-- A loop that appends. -/
theorem forN_app {α β ρ : Type} {xs : List α} {f : α → List β} {b : Nat → List β → Option (Stp (List β) ρ)} (L : Nat) (h : ∀ j (hj : j < xs.length) (l : List β), l.length ≤ L + ((xs.take j).flatMap f).length → b j l = some (.go (l ++ f xs[j]))) {l : List β} (hl : l.length ≤ L) :
    forN b xs.length 0 l = some (.fin (l ++ xs.flatMap f)) := by
  obtain ⟨s', h1, h2⟩ := forN_go (b := b) (N := xs.length) (fun j s => s = l ++ (xs.take j).flatMap f) (fun j s hj hR => by
    refine ⟨_, h j hj s (by rw [hR, List.length_append]; omega), ?_⟩
    rw [hR, List.take_succ_eq_append_getElem hj]
    simp only [List.flatMap_append, List.flatMap_cons, List.flatMap_nil, List.append_nil, List.append_assoc]) xs.length 0 l (Nat.zero_add _) (by simp)
  rw [h1, h2]; simp
theorem flat_len_le {α β : Type} (xs : List α) (f : α → List β) (j : Nat) : ((xs.take j).flatMap f).length ≤ (xs.flatMap f).length := by
  conv => rhs; rw [← List.take_append_drop j xs]
  rw [List.flatMap_append, List.length_append]; omega

/-! ### Nets by pins -/
def netIx (x : Netlist) (p : Pin) : Int := ixBy (fun n => decide (p ∈ n.Pins)) x.Nets
theorem inB_false {l : List Net} {p : Pin} : inB l p = false ↔ ∀ n ∈ l, p ∉ n.Pins := by
  unfold inB; simp
theorem once' {t : List PartType} {x : Netlist} (h : ListOk t x) {i j : Nat} (hi : i < x.Nets.length) (hj : j < x.Nets.length) {p : Pin} (h1 : p ∈ x.Nets[i].Pins) (h2 : p ∈ x.Nets[j].Pins) : i = j := by
  have key : ∀ {i j : Nat} (hi : i < x.Nets.length) (hj : j < x.Nets.length), i < j → p ∈ x.Nets[i].Pins → p ∈ x.Nets[j].Pins → False := fun {i j} hi hj hij h1 h2 => by
    have := inB_false.1 ((h.net j hj).once p h2) x.Nets[i] (by
      rw [List.mem_take_iff_getElem]
      exact ⟨i, by omega, rfl⟩)
    exact this h1
  rcases Nat.lt_trichotomy i j with q | q | q
  · exact (key hi hj q h1 h2).elim
  · exact q
  · exact (key hj hi q h2 h1).elim
theorem nets_inner {x : Netlist} {i : Nat} {n : Net} (y : List (Pin × Int)) : ∃ y', forN (fun i5 s => nl_Nets_b1 x i n i5 s) n.Pins.length 0 y = some (.fin y') ∧ ∀ p, tlook y' p = if p ∈ n.Pins then some (i : Int) else tlook y p := by
  obtain ⟨y', h1, h2⟩ := forN_go (N := n.Pins.length) (b := fun i5 s => nl_Nets_b1 x i n i5 s) (fun j s => ∀ p, tlook s p = if p ∈ n.Pins.take j then some (i : Int) else tlook y p) (fun j s hj hR => by
    refine ⟨tput s n.Pins[j] (i : Int), ?_, fun p => ?_⟩
    · unfold nl_Nets_b1
      rw [atI_lt hj, bnd_some]
    · rw [tlook_put, hR p, List.take_succ_eq_append_getElem hj]
      simp only [List.mem_append, List.mem_singleton]
      by_cases e : p = n.Pins[j] <;> by_cases q : p ∈ n.Pins.take j <;> simp [e, q]) n.Pins.length 0 y (Nat.zero_add _) (fun p => by simp)
  exact ⟨y', h1, by simpa using h2⟩
theorem nl_Nets_eq {t : List PartType} {x : Netlist} (h : ListOk t x) : ∃ m, nl_Nets x = some m ∧ ∀ p, tlook m p = if 0 ≤ netIx x p then some (netIx x p) else none := by
  obtain ⟨m, h1, h2⟩ := forN_go (N := x.Nets.length) (b := fun i1 s => nl_Nets_b0 x i1 s) (fun j m => (∀ p v, tlook m p = some v → ∃ i, ∃ (hi : i < x.Nets.length), i < j ∧ p ∈ x.Nets[i].Pins ∧ v = (i : Int)) ∧ ∀ p i (hi : i < x.Nets.length), i < j → p ∈ x.Nets[i].Pins → tlook m p = some (i : Int)) (fun j m hj hR => by
    obtain ⟨y', q1, q2⟩ := nets_inner (x := x) (i := j) (n := x.Nets[j]) m
    refine ⟨y', ?_, fun p v hv => ?_, fun p i hi hij hp => ?_⟩
    · unfold nl_Nets_b0
      rw [atI_lt hj, bnd_some, q1, aft1_fin]
    · rw [q2 p] at hv
      split at hv
      · rename_i hp; cases hv; exact ⟨j, hj, by omega, hp, rfl⟩
      · obtain ⟨i, hi, a, b, c⟩ := hR.1 p v hv
        exact ⟨i, hi, by omega, b, c⟩
    · rw [q2 p]
      split
      · rename_i hp2
        have := once' h hi hj hp hp2
        rw [this]
      · rename_i hp2
        rcases Nat.lt_or_ge i j with q | q
        · exact hR.2 p i hi q hp
        · have : i = j := by omega
          subst this; exact (hp2 hp).elim) x.Nets.length 0 [] (Nat.zero_add _) ⟨fun p v hv => (by rw [tlook_nil] at hv; cases hv), fun p i hi hij => (by omega)⟩
  refine ⟨m, ?_, fun p => ?_⟩
  · unfold nl_Nets
    rw [h1, aft1_fin]
  · by_cases h0 : 0 ≤ netIx x p
    · rw [if_pos h0]
      obtain ⟨hi, hp, _⟩ := ixBy_at (p := fun n : Net => decide (p ∈ n.Pins)) h0
      rw [h2.2 p _ hi hi (by simpa using hp)]
      congr 1
      show _ = netIx x p
      unfold netIx at h0 ⊢
      omega
    · rw [if_neg h0]
      cases e : tlook m p with
      | none => rfl
      | some v =>
        obtain ⟨i, hi, _, hp, _⟩ := h2.1 p v e
        have := ixBy_neg.1 (show ixBy (fun n : Net => decide (p ∈ n.Pins)) x.Nets < 0 by unfold netIx at h0; omega) x.Nets[i] (List.getElem_mem hi)
        simp [hp] at this
/-! ### Loose pins -/
def pinsF' (t : List PartType) (p : Part) : List Pin := match byName (·.Name) t p.Type_ with
  | some y => y.Pins.map fun q => ⟨p.Name, q.Name⟩
  | none => []
def looseF (t : List PartType) (x : Netlist) : List Pin := x.Parts.flatMap fun p => (pinsF' t p).filter fun q => decide (netIx x q < 0)
theorem flat_one {α β : Type} (l : List α) (f : α → β) : l.flatMap (fun x => [f x]) = l.map f := by
  induction l with
  | nil => rfl
  | cons x l ih => simp [ih]
theorem nl_pinsOf_eq {t : List PartType} {p : Part} (ht : TypesOk t) (hp : ∃ y, byName (·.Name) t p.Type_ = some y) : nl_pinsOf t p = some (pinsF' t p) := by
  obtain ⟨y, hy⟩ := hp
  unfold nl_pinsOf pinsF'
  rw [nl_type_at ht.rise ht.len', bnd_some]
  rcases ixN_cases (fun x : PartType => x.Name) t p.Type_ with ⟨h0, z, h1, h2⟩ | ⟨_, h1⟩
  · have hz := (byName_mem h1).1
    have hlen := (ht.plen z hz).2
    have hlim : lim = 1099511627776 := rfl
    rw [h2, bnd_some, forN_app (xs := z.Pins) (f := fun q => [(⟨p.Name, q.Name⟩ : Pin)]) 0 (fun j hj l hl => by
      unfold nl_pinsOf_b0
      rw [atI_lt hj, bnd_some]
      rw [flat_one] at hl
      simp at hl
      rw [grd_pos (by simp; omega)]) (by simp), aft1_fin, flat_one]
    simp only [h1, List.nil_append]
  · rw [hy] at h1; cases h1
theorem pinsF'_len {t : List PartType} (ht : TypesOk t) (p : Part) : (pinsF' t p).length ≤ 200 := by
  unfold pinsF'
  cases h : byName (fun x : PartType => x.Name) t p.Type_ with
  | none => simp
  | some y => simpa using (ht.plen y (byName_mem h).1).2
theorem flat_bound {α β : Type} (f : α → List β) (B : Nat) (h : ∀ x, (f x).length ≤ B) : ∀ (l : List α), (l.flatMap f).length ≤ l.length * B
  | [] => by simp
  | x :: l => by
    have := flat_bound f B h l
    have := h x
    simp only [List.flatMap_cons, List.length_append, List.length_cons, Nat.succ_mul]
    omega
theorem nl_LooseOf_eq {t : List PartType} {x : Netlist} (h : ListOk t x) : nl_LooseOf t x = some (looseF t x) := by
  obtain ⟨m, h1, h2⟩ := nl_Nets_eq h
  unfold nl_LooseOf looseF
  have hlim : lim = 1099511627776 := rfl
  have hb : ∀ j, (((x.Parts.take j).flatMap fun p => (pinsF' t p).filter fun q => decide (netIx x q < 0))).length ≤ 200000 := fun j => by
    have := flat_bound (fun p => (pinsF' t p).filter fun q => decide (netIx x q < 0)) 200 (fun p => Nat.le_trans (List.length_filter_le _ _) (pinsF'_len h.types p)) (x.Parts.take j)
    have h3 := h.parts.len
    have : (x.Parts.take j).length ≤ 1000 := by rw [List.length_take]; omega
    have := Nat.mul_le_mul_right 200 this
    omega
  rw [h1, bnd_some, forN_app (xs := x.Parts) (f := fun p => (pinsF' t p).filter fun q => decide (netIx x q < 0)) 0 (fun j hj l hl => by
    have hbj := hb j
    unfold nl_LooseOf_b0
    rw [atI_lt hj, bnd_some, nl_pinsOf_eq h.types (h.parts.type _ (List.getElem_mem hj)), bnd_some]
    have hlen := pinsF'_len h.types x.Parts[j]
    rw [forN_app (xs := pinsF' t x.Parts[j]) (f := fun q => if netIx x q < 0 then [q] else []) 200000 (fun k hk l' hl' => by
      have hfb : (((pinsF' t x.Parts[j]).take k).flatMap fun q => if netIx x q < 0 then [q] else []).length ≤ ((pinsF' t x.Parts[j]).take k).length * 1 := flat_bound _ 1 (fun q => by split <;> simp) _
      have hk2 : ((pinsF' t x.Parts[j]).take k).length ≤ 200 := by rw [List.length_take]; omega
      unfold nl_LooseOf_b1
      rw [atI_lt hk, bnd_some, h2]
      by_cases h0 : 0 ≤ netIx x (pinsF' t x.Parts[j])[k]
      · rw [if_pos h0, opt_some, bnd1_some, if_neg (by omega)]
        simp only [Bool.not_true, cnd_f, bnd1_some, List.append_nil]
      · rw [if_neg h0, opt_none, bnd1_some, if_pos (by omega)]
        simp only [Bool.not_false, cnd_t]
        rw [grd_pos (by simp; omega), bnd1_some]) (by omega), aft1_fin]
    congr 2
    congr 1
    induction pinsF' t x.Parts[j] with
    | nil => rfl
    | cons q l ih => by_cases hq : netIx x q < 0 <;> simp [hq, ih]) (by simp), aft1_fin]
  rfl
theorem nl_Loose_eq {t : List PartType} {x : Netlist} (hs : Small t x) : nl_Loose t x = some (if listF t x = 0 then (looseF t x, 0) else ([], listF t x)) := by
  unfold nl_Loose
  rw [nl_list hs, bnd_some]
  by_cases h : listF t x = 0
  · rw [h, show ((0 : Int) != 0) = false from rfl, cnd_f, nl_LooseOf_eq (listF_zero h), bnd_some, if_pos rfl]
  · rw [bne_iff_ne.2 h, cnd_t, if_neg h]
end Go.Proofs.YtlbndchfmdogeaaDoor.Sym
