/- Plain facts: maps as lists of entries, how much there is of data. Conditions: none. -/
import Derived.Test.YtajmjfdopminbaaPlc
set_option linter.unusedVariables false
set_option linter.unusedSimpArgs false
namespace Go.Proofs.Ytajmjfdopminbaa.Sym
open Go Go.RowKit

theorem tlook_nil {K V : Type} (k : K) : tlook ([] : List (K × V)) k = none := by simp [tlook]
theorem tlook_cons {K V : Type} (q : K × V) (l : List (K × V)) (k : K) [Decidable (q.1 = k)] : tlook (q :: l) k = if q.1 = k then some q.2 else tlook l k := by
  classical
  unfold tlook
  rw [List.find?_cons]
  by_cases h : q.1 = k <;> simp [h]
theorem tlook_append {K V : Type} (l m : List (K × V)) (k : K) : tlook (l ++ m) k = match tlook l k with
    | some v => some v
    | none => tlook m k := by
  classical
  induction l with
  | nil => simp [tlook_nil]
  | cons q l ih =>
    simp only [List.cons_append]
    rw [tlook_cons, tlook_cons]
    by_cases h : q.1 = k
    · simp [h]
    · rw [if_neg h, if_neg h]; exact ih
theorem tlook_none_iff {K V : Type} {l : List (K × V)} {k : K} : tlook l k = none ↔ ∀ q ∈ l, q.1 ≠ k := by
  classical
  unfold tlook
  simp
open Classical in
theorem tlook_map {K V : Type} {l : List (K × V)} {k k' : K} {v : V} (f : K × V → K × V) (hf : ∀ q : K × V, q.1 = k → f q = (k, v)) (hf' : ∀ q : K × V, q.1 ≠ k → f q = q) : tlook (l.map f) k' = if k' = k then (if (∃ q ∈ l, q.1 = k) then some v else none) else tlook l k' := by
  classical
  induction l with
  | nil => simp [tlook_nil]
  | cons q l ih =>
    simp only [List.map_cons]
    rw [tlook_cons, tlook_cons, ih]
    by_cases h : q.1 = k
    · rw [hf q h]
      by_cases e : k' = k
      · subst e; simp [h]
      · have : ¬ k = k' := fun x => e x.symm
        simp [e, this, h]
    · rw [hf' q h]
      by_cases e : k' = k
      · subst e; simp [h]
      · simp [e]
theorem tlook_put {K V : Type} (l : List (K × V)) (k k' : K) (v : V) [Decidable (k' = k)] : tlook (tput l k v) k' = if k' = k then some v else tlook l k' := by
  classical
  unfold tput
  split
  · rename_i h
    rw [tlook_map (k := k) (v := v) (fun q => if q.1 = k then (k, v) else q) (fun q hq => by simp [hq]) (fun q hq => by simp [hq])]
    have hex : ∃ q ∈ l, q.1 = k := by
      obtain ⟨q, hq, hd⟩ := List.any_eq_true.1 h
      exact ⟨q, hq, by simpa using hd⟩
    by_cases e : k' = k
    · rw [if_pos e, if_pos e, if_pos hex]
    · rw [if_neg e, if_neg e]
  · rename_i h
    rw [tlook_append, tlook_cons, tlook_nil]
    have hno : ∀ q ∈ l, q.1 ≠ k := fun q hq e => h (List.any_eq_true.2 ⟨q, hq, by simpa using e⟩)
    by_cases e : k' = k
    · subst e
      rw [tlook_none_iff.2 hno]; simp
    · have : ¬ k = k' := fun x => e x.symm
      simp only [this, if_false, e]
      cases tlook l k' <;> rfl

/-! ### Names found -/
theorem ix_find {α : Type} {p : α → Bool} {xs : List α} : (0 ≤ ixBy p xs ∧ ∃ y, xs.find? p = some y ∧ atI xs (ixBy p xs) = some y) ∨ (ixBy p xs = -1 ∧ xs.find? p = none) := by
  rcases Int.lt_or_le (ixBy p xs) 0 with h | h
  · right
    refine ⟨by have := ixBy_ge p xs; omega, List.find?_eq_none.2 fun x hx => by rw [ixBy_neg.1 h x hx]; simp⟩
  · left
    obtain ⟨hi, hp, hlt⟩ := ixBy_at h
    refine ⟨h, xs[(ixBy p xs).toNat], ?_, ?_⟩
    · rw [List.find?_eq_some_iff_getElem]
      exact ⟨hp, _, hi, rfl, fun j hj => by rw [hlt j (by omega) hj]; rfl⟩
    · rw [atI_int h, List.getElem?_eq_getElem hi]
end Go.Proofs.Ytajmjfdopminbaa.Sym
