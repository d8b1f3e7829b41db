/- Plain facts: loops that look for something in a list, names in order, splitting a string. Conditions: none. -/
import Derived.Test.YtajmjfdopminbaaPlb
set_option linter.unusedVariables false
set_option linter.unusedSimpArgs false
namespace Go.Proofs.Ytajmjfdopminbaa.Sym
open Go Go.RowKit

theorem forN_any {α ρ : Type} {b : Nat → Unit → Option (Stp Unit ρ)} {xs : List α} {p : α → Bool} {r : ρ} (h : ∀ j (hj : j < xs.length), b j () = some (if p xs[j] then .ret r else .go ())) : forN b xs.length 0 () = some (if xs.any p then .ret r else .fin ()) := by
  have key : ∀ (n i : Nat), i + n = xs.length → forN b n i () = some (if (xs.drop i).any p then .ret r else .fin ()) := by
    intro n
    induction n with
    | zero => intro i hi; rw [List.drop_of_length_le (by omega)]; rfl
    | succ n ih =>
      intro i hi
      have hlt : i < xs.length := by omega
      rw [List.drop_eq_getElem_cons hlt, List.any_cons]
      simp only [forN, h i hlt]
      cases hp : p xs[i] with
      | true => simp
      | false => simp only [Bool.false_or]; exact ih (i + 1) (by omega)
  exact key xs.length 0 (by omega)
theorem ixBy_any {α : Type} {p : α → Bool} {xs : List α} : decide (ixBy p xs ≥ 0) = xs.any p := by
  rcases Int.lt_or_le (ixBy p xs) 0 with h | h
  · have h2 := ixBy_neg.1 h
    rw [decide_eq_false (by omega)]
    symm; rw [List.any_eq_false]
    intro x hx; rw [h2 x hx]; simp
  · rw [decide_eq_true h]
    obtain ⟨hi, hp, _⟩ := ixBy_at h
    symm; rw [List.any_eq_true]
    exact ⟨_, List.getElem_mem hi, hp⟩
/-- Not in order behind the one before. -/
def ordC {α : Type} (f : α → ByteArray) (xs : List α) (i : Nat) : Bool := if h : 0 < i ∧ i < xs.length then !decide (slt (f (xs[i - 1]'(by omega))) (f xs[i])) else false
theorem ord_eq {α : Type} (f : α → ByteArray) {xs : List α} {i : Nat} (hi : i < xs.length) (hl : xs.length ≤ lim) {x : α} (hx : x = xs[i]) :
    cnd (decide ((i : Int) > 0)) (bnd (atI xs (w64 ((i : Int) - 1))) fun y => some (sLe (f x) (f y))) (some false) = some (ordC f xs i) := by
  subst hx
  unfold ordC
  by_cases h : 0 < i
  · rw [decide_eq_true (by omega), cnd_t, atI_pred h hi hl, bnd_some, dif_pos ⟨h, hi⟩, sLe_iff, decide_not]
  · rw [decide_eq_false (by omega), cnd_f, dif_neg (by omega)]
theorem ordC_false {α : Type} {f : α → ByteArray} {xs : List α} {i : Nat} (h : ordC f xs i = false) (h0 : 0 < i) (hi : i < xs.length) : slt (f (xs[i - 1]'(by omega))) (f xs[i]) := by
  unfold ordC at h
  rw [dif_pos ⟨h0, hi⟩] at h
  simpa using h
theorem Rising.ofC {α : Type} {f : α → ByteArray} {xs : List α} (h : ∀ i, i < xs.length → ordC f xs i = false) : Rising f xs := Rising.of fun i hi h0 => ordC_false (h i hi) h0 hi

/-! ### Words -/
theorem index_lt : ∀ (l : List UInt8) (c : UInt8), Lib.indexByte l c < (l.length : Int) ∨ Lib.indexByte l c = -1
  | [], c => .inr rfl
  | b :: l, c => by
    have ih := index_lt l c
    unfold Lib.indexByte
    split
    · left; simp only [List.length_cons]; omega
    · split
      · right; rfl
      · rename_i h
        left
        simp only [List.length_cons]
        rcases ih with h1 | h1
        · omega
        · rw [h1] at h; simp at h
theorem index_ge (l : List UInt8) (c : UInt8) : -1 ≤ Lib.indexByte l c := Lib.indexByte_ge l c
end Go.Proofs.Ytajmjfdopminbaa.Sym
