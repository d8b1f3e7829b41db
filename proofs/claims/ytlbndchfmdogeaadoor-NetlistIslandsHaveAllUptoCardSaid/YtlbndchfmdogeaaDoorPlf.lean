/- Plain facts: numbers that are joined (the union of sets by their least ones). Conditions: none. -/
import Derived.Test.YtlbndchfmdogeaaDoorPle
set_option linter.unusedVariables false
set_option linter.unusedSimpArgs false
namespace Go.Proofs.YtlbndchfmdogeaaDoor.Sym
open Go Go.RowKit

/-! ### Roots -/
/-- Each is joined with one that is not greater. -/
def UfOk (n : Nat) (y : List Int) : Prop := y.length = n ∧ ∀ i (h : i < y.length), 0 ≤ y[i] ∧ y[i] ≤ (i : Int)
def upN (y : List Int) (i : Nat) : Nat := if h : i < y.length then y[i].toNat else i
def root (y : List Int) (i : Nat) : Nat := if h : upN y i < i then root y (upN y i) else i
termination_by i
theorem root_eq (y : List Int) (i : Nat) : root y i = if upN y i < i then root y (upN y i) else i := by
  conv => lhs; unfold root
  by_cases h : upN y i < i
  · rw [dif_pos h, if_pos h]
  · rw [dif_neg h, if_neg h]
section
variable {n : Nat} {y : List Int}
theorem UfOk.up_le (h : UfOk n y) (i : Nat) : upN y i ≤ i := by
  unfold upN
  split
  · rename_i hi; have := h.2 i hi; omega
  · exact Nat.le_refl _
theorem UfOk.at (h : UfOk n y) {i : Nat} (hi : i < n) : atI y (i : Int) = some ((upN y i : Nat) : Int) := by
  have hl : i < y.length := by rw [h.1]; exact hi
  rw [atI_lt hl]
  have := h.2 i hl
  unfold upN
  rw [dif_pos hl]
  congr 1
  omega
theorem UfOk.root_le (h : UfOk n y) : ∀ i, root y i ≤ i := fun i => by
  induction i using Nat.strongRecOn with
  | _ i ih =>
    rw [root_eq]
    split
    · rename_i hu; have := ih _ hu; omega
    · exact Nat.le_refl _
theorem UfOk.up_root (h : UfOk n y) : ∀ i, upN y (root y i) = root y i := fun i => by
  induction i using Nat.strongRecOn with
  | _ i ih =>
    rw [root_eq]
    split
    · rename_i hu; exact ih _ hu
    · rename_i hu; have := h.up_le i; omega
theorem root_of_up {i : Nat} (h : upN y i = i) : root y i = i := by rw [root_eq, if_neg (by omega)]
theorem UfOk.root_root (h : UfOk n y) (i : Nat) : root y (root y i) = root y i := root_of_up (h.up_root i)
theorem UfOk.root_up (h : UfOk n y) (i : Nat) : root y (upN y i) = root y i := by
  conv => rhs; rw [root_eq]
  split
  · rfl
  · have := h.up_le i
    have e : upN y i = i := by omega
    rw [e]; exact root_of_up e
theorem UfOk.up_lt (h : UfOk n y) {i : Nat} (hi : i < n) : upN y i < n := Nat.lt_of_le_of_lt (h.up_le i) hi
theorem UfOk.root_lt (h : UfOk n y) {i : Nat} (hi : i < n) : root y i < n := Nat.lt_of_le_of_lt (h.root_le i) hi
theorem up_set {i v : Nat} (hi : i < y.length) (j : Nat) : upN (y.set i (v : Int)) j = if j = i then v else upN y j := by
  unfold upN
  simp only [List.length_set]
  by_cases e : j = i
  · subst e
    rw [dif_pos hi, if_pos rfl]
    simp
  · rw [if_neg e]
    by_cases hj : j < y.length
    · rw [dif_pos hj, dif_pos hj, List.getElem_set_ne (fun q => e q.symm)]
    · rw [dif_neg hj, dif_neg hj]
theorem UfOk.set (h : UfOk n y) {i v : Nat} (hv : v ≤ i) : UfOk n (y.set i (v : Int)) := by
  refine ⟨by simpa using h.1, fun j hj => ?_⟩
  have hj' : j < y.length := by simpa using hj
  by_cases e : i = j
  · subst e
    rw [List.getElem_set_self]; omega
  · rw [List.getElem_set_ne e]; exact h.2 j hj'
/-- A path is halved: the roots stay. -/
theorem UfOk.halve (h : UfOk n y) {i : Nat} (hi : i < n) (j : Nat) : root (y.set i ((upN y (upN y i) : Nat) : Int)) j = root y j := by
  have hl : i < y.length := by rw [h.1]; exact hi
  induction j using Nat.strongRecOn with
  | _ j ih =>
    rw [root_eq, up_set hl]
    by_cases e : j = i
    · subst e
      rw [if_pos rfl]
      have h1 := h.up_le j
      have h2 := h.up_le (upN y j)
      split
      · rename_i hlt
        rw [ih _ hlt, h.root_up, h.root_up]
      · rename_i hge
        have e1 : upN y j = j := by omega
        rw [root_of_up e1]
    · rw [if_neg e]
      conv => rhs; rw [root_eq]
      split
      · rename_i hlt; exact ih _ hlt
      · rfl
/-- Two are joined. -/
theorem UfOk.join (h : UfOk n y) {a b : Nat} (ha : upN y a = a) (hb : upN y b = b) (hab : a ≤ b) (hbn : b < n) (j : Nat) : root (y.set b (a : Int)) j = if root y j = b then a else root y j := by
  have hl : b < y.length := by rw [h.1]; exact hbn
  induction j using Nat.strongRecOn with
  | _ j ih =>
    rw [root_eq, up_set hl]
    by_cases e : j = b
    · subst e
      rw [if_pos rfl, root_of_up hb, if_pos rfl]
      split
      · rename_i hlt
        rw [ih a hlt, root_of_up ha]
        split
        · rfl
        · rfl
      · omega
    · rw [if_neg e]
      split
      · rename_i hlt
        rw [ih _ hlt, h.root_up]
      · rename_i hge
        have := h.up_le j
        have e1 : upN y j = j := by omega
        rw [root_of_up e1, if_neg e]
end

/-! ### The loops -/
def TOPb {ρ : Type} (y1 : Int) (y2 : List Int) : Option (Stp (Int × List Int) ρ) :=
 bnd (atI y2 y1) fun x3 =>
 cnd (x3 != y1) (bnd (atI y2 y1) fun x6 =>
 bnd (atI y2 x6) fun x8 =>
 bnd (atI y2 y1) fun x10 =>
 bnd (atI (y2.set (Int.toNat y1) x8) y1) fun x12 =>
 some (.go (x12, y2.set (Int.toNat y1) x8))) (some (.brk (y1, y2)))
theorem TOP_iter {ρ : Type} {n : Nat} : ∀ (f i : Nat) (y : List Int), i < f → i < n → UfOk n y → ∃ y', UfOk n y' ∧ (∀ j, root y' j = root y j) ∧ iter (fun s : Int × List Int => TOPb (ρ := ρ) s.1 s.2) f ((i : Int), y) = some (.fin (((root y i : Nat) : Int), y'))
  | 0, i, y, hf, _, _ => by omega
  | f + 1, i, y, hf, hi, h => by
    have hu := h.at hi
    by_cases e : upN y i = i
    · refine ⟨y, h, fun _ => rfl, ?_⟩
      have hb : TOPb (ρ := ρ) (i : Int) y = some (.brk ((i : Int), y)) := by
        unfold TOPb
        rw [hu, bnd_some, e, show ((i : Int) != (i : Int)) = false by simp, cnd_f]
      simp only [iter, hb, root_of_up e]
    · have hlt : upN y i < i := by have := h.up_le i; omega
      have hpn : upN y i < n := by omega
      have hg := h.at hpn
      have hgl := h.up_le (upN y i)
      have hset := h.set (i := i) (v := upN y (upN y i)) (by omega)
      have hl : i < y.length := by rw [h.1]; exact hi
      have hb : TOPb (ρ := ρ) (i : Int) y = some (.go (((upN y (upN y i) : Nat) : Int), y.set i ((upN y (upN y i) : Nat) : Int))) := by
        unfold TOPb
        have hne : (((upN y i : Nat) : Int) != (i : Int)) = true := by rw [bne_iff_ne]; omega
        have ht : Int.toNat (i : Int) = i := by simp
        rw [hu, bnd_some, hne, cnd_t, bnd_some, hg, bnd_some, bnd_some, ht, hset.at hi, bnd_some, up_set hl, if_pos rfl]
      obtain ⟨y', q1, q2, q3⟩ := TOP_iter (ρ := ρ) f (upN y (upN y i)) (y.set i ((upN y (upN y i) : Nat) : Int)) (by omega) (by omega) hset
      refine ⟨y', q1, fun j => by rw [q2, h.halve hi], ?_⟩
      simp only [iter, hb]
      rw [q3, h.halve hi, h.root_up, h.root_up]
theorem TOP_loop {ρ : Type} {n i : Nat} {y : List Int} (hi : i < n) (h : UfOk n y) : ∃ y', UfOk n y' ∧ (∀ j, root y' j = root y j) ∧ loop (fun s : Int × List Int => TOPb (ρ := ρ) s.1 s.2) ((i : Int), y) = some (.fin (((root y i : Nat) : Int), y')) := by
  obtain ⟨y', q1, q2, q3⟩ := TOP_iter (ρ := ρ) (i + 1) i y (by omega) hi h
  exact ⟨y', q1, q2, loop_i q3⟩

/-! ### What is joined -/
inductive Con (es : List (Nat × Nat)) : Nat → Nat → Prop where
  | edge {a b : Nat} (h : (a, b) ∈ es) : Con es a b
  | refl (a : Nat) : Con es a a
  | symm {a b : Nat} (h : Con es a b) : Con es b a
  | trans {a b c : Nat} (h : Con es a b) (k : Con es b c) : Con es a c
theorem Con.mono {es fs : List (Nat × Nat)} (hs : ∀ e ∈ es, e ∈ fs) {a b : Nat} (h : Con es a b) : Con fs a b := by
  induction h with
  | edge h => exact .edge (hs _ h)
  | refl a => exact .refl a
  | symm _ ih => exact .symm ih
  | trans _ _ ih1 ih2 => exact .trans ih1 ih2
/-- What is told by roots is what has been joined. -/
def UfIs (y : List Int) (es : List (Nat × Nat)) : Prop := ∀ a b, root y a = root y b ↔ Con es a b
theorem UfIs.join {n : Nat} {y : List Int} {es : List (Nat × Nat)} (h : UfOk n y) (hi : UfIs y es) {i k : Nat} (hin : i < n) (hkn : k < n) {a b : Nat} (hab : a ≤ b) (hr : (a = root y i ∧ b = root y k) ∨ (a = root y k ∧ b = root y i)) : UfIs (y.set b (a : Int)) (es ++ [(i, k)]) ∧ UfOk n (y.set b (a : Int)) := by
  have ha : upN y a = a := by rcases hr with ⟨rfl, _⟩ | ⟨rfl, _⟩ <;> exact h.up_root _
  have hb : upN y b = b := by rcases hr with ⟨_, rfl⟩ | ⟨_, rfl⟩ <;> exact h.up_root _
  have hbn : b < n := by rcases hr with ⟨_, rfl⟩ | ⟨_, rfl⟩ <;> exact h.root_lt (by assumption)
  have hj := h.join ha hb hab hbn
  have hmono : ∀ {u v}, Con es u v → Con (es ++ [(i, k)]) u v := fun q => q.mono fun e he => List.mem_append_left _ he
  have hik : Con (es ++ [(i, k)]) i k := .edge (by simp)
  have hcon : ∀ u v, root y u = b → root y v = a → Con (es ++ [(i, k)]) u v := fun u v hu hv => by
    rcases hr with ⟨h1, h2⟩ | ⟨h1, h2⟩
    · exact .trans (hmono ((hi u k).1 (by rw [hu, h2]))) (.trans (.symm hik) (.symm (hmono ((hi v i).1 (by rw [hv, h1])))))
    · exact .trans (hmono ((hi u i).1 (by rw [hu, h2]))) (.trans hik (.symm (hmono ((hi v k).1 (by rw [hv, h1])))))
  refine ⟨fun u v => ⟨fun e => ?_, fun e => ?_⟩, h.set hab⟩
  · rw [hj, hj] at e
    by_cases hu : root y u = b
    · by_cases hv : root y v = b
      · exact hmono ((hi u v).1 (hu.trans hv.symm))
      · rw [if_pos hu, if_neg hv] at e
        exact hcon u v hu e.symm
    · by_cases hv : root y v = b
      · rw [if_neg hu, if_pos hv] at e
        exact .symm (hcon v u hv e)
      · rw [if_neg hu, if_neg hv] at e
        exact hmono ((hi u v).1 e)
  · induction e with
    | @edge u v hm =>
      rcases List.mem_append.1 hm with hm | hm
      · rw [hj, hj, (hi u v).2 (.edge hm)]
      · simp at hm
        obtain ⟨rfl, rfl⟩ := hm
        rw [hj, hj]
        rcases hr with ⟨h1, h2⟩ | ⟨h1, h2⟩
        · rw [← h1, ← h2, if_pos rfl]; split <;> rfl
        · rw [← h1, ← h2, if_pos rfl]; split <;> rfl
    | refl u => rfl
    | symm _ ih => exact ih.symm
    | trans _ _ ih1 ih2 => exact ih1.trans ih2
end Go.Proofs.YtlbndchfmdogeaaDoor.Sym
