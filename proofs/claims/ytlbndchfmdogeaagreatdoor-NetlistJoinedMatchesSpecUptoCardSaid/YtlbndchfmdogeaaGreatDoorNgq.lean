/- Plain facts on right lists (chapter 2), told without numbers. Conditions: none. -/
import Derived.Test.YtlbndchfmdogeaaGreatDoorNlf
set_option linter.unusedVariables false
set_option linter.unusedSimpArgs false
namespace Go.Proofs.YtlbndchfmdogeaaGreatDoor.Sym
open Go Go.RowKit

theorem rising_pw {α : Type} {f : α → ByteArray} {xs : List α} : Rising f xs ↔ xs.Pairwise fun a b => slt (f a) (f b) := by
  rw [List.pairwise_iff_getElem]
  exact ⟨fun h i j hi hj hij => h i j hi hj hij, fun h i j hi hj hij => h i j hi hj hij⟩
theorem ordC_of {α : Type} {f : α → ByteArray} {xs : List α} (h : xs.Pairwise fun a b => slt (f a) (f b)) {i : Nat} (hi : i < xs.length) : ordC f xs i = false := by
  unfold ordC
  split
  · rename_i q
    have := (List.pairwise_iff_getElem.1 h) (i - 1) i (by omega) hi (by omega)
    simpa using this
  · rfl
theorem ordP_of {l : List Pin} (h : l.Pairwise plt) {i : Nat} (hi : i < l.length) : ordP l i = false := by
  unfold ordP
  split
  · rename_i q
    have := (List.pairwise_iff_getElem.1 h) (i - 1) i (by omega) hi (by omega)
    simpa using this
  · rfl
theorem pw_of_ordP {l : List Pin} (h : ∀ k (hk : k < l.length), ordP l k = false) : l.Pairwise plt := by
  rw [List.pairwise_iff_getElem]
  have key : ∀ (d i : Nat) (hi : i + d + 1 < l.length), plt (l[i]'(by omega)) l[i + d + 1] := by
    intro d
    have step : ∀ k (hk : k + 1 < l.length), plt (l[k]'(by omega)) l[k + 1] := fun k hk => by
      have := h (k + 1) hk
      unfold ordP at this
      rw [dif_pos ⟨by omega, hk⟩] at this
      simpa using this
    induction d with
    | zero => intro i hi; exact step i hi
    | succ d ih => intro i hi; exact plt_trans (ih i (by omega)) (step (i + d + 1) hi)
  intro i j hi hj hij
  have := key (j - i - 1) i (by omega)
  have e : i + (j - i - 1) + 1 = j := by omega
  simp only [e] at this
  exact this
/-- Two nets have no pin in common. -/
def Apart (n m : Net) : Prop := ∀ p ∈ m.Pins, p ∉ n.Pins
theorem inB_iff {l : List Net} {p : Pin} : inB l p = true ↔ ∃ n ∈ l, p ∈ n.Pins := by
  unfold inB
  rw [List.any_eq_true]
  simp
/-- A list that is right. -/
structure Right (t : List PartType) (x : Netlist) : Prop where
  types : typesF t = 0
  plen : x.Parts.length ≤ 1000
  prise : x.Parts.Pairwise fun a b => slt a.Name b.Name
  ppath : ∀ p ∈ x.Parts, isP p.Name = true
  ptype : ∀ p ∈ x.Parts, ∃ y, byName (·.Name) t p.Type_ = some y
  nlen : x.Nets.length ≤ 1000
  nrise : x.Nets.Pairwise fun a b => slt a.Name b.Name
  npath : ∀ n ∈ x.Nets, isP n.Name = true
  pins : ∀ n ∈ x.Nets, 0 < n.Pins.length ∧ n.Pins.length ≤ 500
  has : ∀ n ∈ x.Nets, ∀ p ∈ n.Pins, hasF t x.Parts p = true
  pord : ∀ n ∈ x.Nets, n.Pins.Pairwise plt
  port : ∀ n ∈ x.Nets, n.Ports = []
  once : x.Nets.Pairwise Apart
theorem listF_right {t : List PartType} {x : Netlist} (h : listF t x = 0) : Right t x := by
  have hl := listF_zero h
  have ht : typesF t = 0 := by
    unfold listF at h
    split at h
    · rename_i h1; exact (h1 h).elim
    · rename_i h1; exact Classical.byContradiction h1
  have hn : ∀ {Q : Net → Prop}, (∀ i (hi : i < x.Nets.length), Q x.Nets[i]) → ∀ n ∈ x.Nets, Q n := fun hq n hm => by
    obtain ⟨i, hi, rfl⟩ := List.mem_iff_getElem.1 hm
    exact hq i hi
  refine ⟨ht, hl.parts.len, rising_pw.1 hl.parts.rise, hl.parts.path, hl.parts.type, hl.len, rising_pw.1 hl.rise, hn fun i hi => (hl.net i hi).path, hn fun i hi => (hl.net i hi).len, hn fun i hi => (hl.net i hi).has, hn fun i hi => pw_of_ordP (hl.net i hi).rise, hn fun i hi => List.eq_nil_of_length_eq_zero (hl.net i hi).port, ?_⟩
  rw [List.pairwise_iff_getElem]
  intro i j hi hj hij p hp hpi
  have := (hl.net j hj).once p hp
  rw [show inB (x.Nets.take j) p = true from inB_iff.2 ⟨x.Nets[i], by rw [List.mem_take_iff_getElem]; exact ⟨i, by omega, rfl⟩, hpi⟩] at this
  cases this
theorem firstF_no {α ρ : Type} {xs : List α} {g : α → Nat → Option ρ} (h : ∀ j (hj : j < xs.length), g xs[j] j = none) : firstF xs g = none := by
  cases hf : firstF xs g with
  | none => rfl
  | some r =>
    obtain ⟨j, hj, e⟩ := firstF_mem hf
    rw [h j hj] at e; cases e
theorem right_listF {t : List PartType} {x : Netlist} (h : Right t x) : listF t x = 0 := by
  have hp : partsF t x.Parts = 0 := by
    unfold partsF
    rw [if_neg (by have := h.plen; omega), firstF_no fun j hj => ?_]
    have hm := List.getElem_mem hj
    unfold partF
    rw [if_pos (h.ppath _ hm)]
    obtain ⟨y, hy⟩ := h.ptype _ hm
    have hix : ¬ ixN (·.Name) t x.Parts[j].Type_ < 0 := by
      rcases ixN_cases (fun x : PartType => x.Name) t x.Parts[j].Type_ with ⟨h0, _⟩ | ⟨_, hb⟩
      · omega
      · rw [hy] at hb; cases hb
    rw [decide_eq_false hix, if_neg (by simp), ordC_of h.prise hj, if_neg (by simp)]
  have hn : firstF x.Nets (netF t x) = none := firstF_no fun i hi => by
    have hm := List.getElem_mem hi
    unfold netF
    have hl := h.pins _ hm
    rw [if_pos (h.npath _ hm), if_neg (by omega), if_neg (by omega), firstF_no fun k hk => ?_]
    · rw [if_neg (by rw [h.port _ hm]; simp), ordC_of h.nrise hi, if_neg (by simp)]
    · unfold netPinF
      rw [if_pos (h.has _ hm _ (List.getElem_mem hk)), ordP_of (h.pord _ hm) hk, if_neg (by simp)]
      have : inB (x.Nets.take i) x.Nets[i].Pins[k] = false := by
        rw [Bool.eq_false_iff, Ne, inB_iff]
        rintro ⟨n, hn, hpn⟩
        obtain ⟨j, hj, rfl⟩ := List.mem_take_iff_getElem.1 hn
        exact (List.pairwise_iff_getElem.1 h.once) j i (by omega) hi (by omega) _ (List.getElem_mem hk) hpn
      rw [this, if_neg (by simp)]
  unfold listF
  rw [if_neg (by simpa using h.types), if_neg (by simpa using hp), if_neg (by have := h.nlen; omega), hn]
end Go.Proofs.YtlbndchfmdogeaaGreatDoor.Sym
