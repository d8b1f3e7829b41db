/- Plain facts on names that must be there, in order (chapter 2): any list of things with names. Conditions: none. -/
import Derived.Test.YtlbndchfmdogeaaDoorNlf
set_option linter.unusedVariables false
set_option linter.unusedSimpArgs false
namespace Go.Proofs.YtlbndchfmdogeaaDoor.Sym
open Go Go.RowKit
open Classical

/-! ### Names in order that must be there -/
section
variable {α : Type}
noncomputable def nameG (f : α → ByteArray) (xs : List α) (l : List ByteArray) (w : ByteArray) (i : Nat) : Option Int := if ixN f xs w < 0 then some 9 else if ordC (fun s => s) l i then some 8 else none
noncomputable def namesG (f : α → ByteArray) (xs : List α) (l : List ByteArray) : Int := if l.length > 1000 then 2 else match firstF l (nameG f xs l) with
  | some r => r
  | none => 0
theorem nl_namesG {f : α → ByteArray} {xs : List α} {l : List ByteArray} {g : ByteArray → Option Bool} (hg : ∀ s, g s = some (decide (0 ≤ ixN f xs s))) (hl : l.length ≤ lim) : nl_checkNames l 1000 g = some (namesG f xs l) := by
  unfold nl_checkNames namesG
  by_cases h : l.length > 1000
  · rw [decide_eq_true (by omega), cnd_t, if_pos h]
  · rw [decide_eq_false (by omega), cnd_f, if_neg h, forN_first (xs := l) (nameG f xs l) fun j hj => ?_]
    · cases firstF l (nameG f xs l) <;> rfl
    · unfold nl_checkNames_b0 nameG
      rw [atI_lt hj, bnd_some, hg, bnd_some]
      by_cases h0 : ixN f xs l[j] < 0
      · rw [decide_eq_false (by omega), if_pos h0]; rfl
      · rw [decide_eq_true (by omega), if_neg h0, show (!true) = false from rfl, cnd_f, ord_eq (fun s : ByteArray => s) hj hl rfl, bnd1_some]
        cases ordC (fun s : ByteArray => s) l j <;> rfl
theorem namesG_zero {f : α → ByteArray} {xs : List α} {l : List ByteArray} (h : namesG f xs l = 0) : l.length ≤ 1000 ∧ Rising (fun s : ByteArray => s) l ∧ ∀ s ∈ l, 0 ≤ ixN f xs s := by
  unfold namesG at h
  by_cases h0 : l.length > 1000
  · rw [if_pos h0] at h; cases h
  · rw [if_neg h0] at h
    cases hf : firstF l (nameG f xs l) with
    | some r =>
      rw [hf] at h
      simp only at h
      obtain ⟨j, hj, hr⟩ := firstF_mem hf
      unfold nameG at hr
      split at hr
      · cases hr; cases h
      · split at hr
        · cases hr; cases h
        · cases hr
    | none =>
      refine ⟨by omega, .ofC fun i hi => ?_, fun s hs => ?_⟩
      · have := firstF_none hf i hi
        unfold nameG at this
        split at this
        · cases this
        · split at this
          · cases this
          · rename_i q; simpa using q
      · obtain ⟨i, hi, rfl⟩ := List.mem_iff_getElem.1 hs
        have := firstF_none hf i hi
        unfold nameG at this
        split at this
        · cases this
        · rename_i q; omega
theorem namesG_of {f : α → ByteArray} {xs : List α} {l : List ByteArray} (h1 : l.length ≤ 1000) (h2 : Rising (fun s : ByteArray => s) l) (h3 : ∀ s ∈ l, 0 ≤ ixN f xs s) : namesG f xs l = 0 := by
  unfold namesG
  rw [if_neg (by omega)]
  cases hf : firstF l (nameG f xs l) with
  | none => rfl
  | some v =>
    obtain ⟨j, hj, hv⟩ := firstF_mem hf
    unfold nameG at hv
    have hor : ordC (fun s : ByteArray => s) l j = false := by
      unfold ordC
      split
      · rename_i q
        have := h2 (j - 1) j (by omega) hj (by omega)
        simpa using this
      · rfl
    rw [if_neg (by have := h3 _ (List.getElem_mem hj); omega), hor] at hv
    simp at hv
theorem ixN_iff {f : α → ByteArray} {xs : List α} {s : ByteArray} : 0 ≤ ixN f xs s ↔ ∃ x ∈ xs, f x = s := by
  unfold ixN
  constructor
  · intro h
    obtain ⟨hi, hp, _⟩ := ixBy_at h
    exact ⟨_, List.getElem_mem hi, by simpa using hp⟩
  · rintro ⟨x, hx, hs⟩
    rcases Int.lt_or_le (ixBy (fun x => decide (f x = s)) xs) 0 with q | q
    · have := ixBy_neg.1 q x hx
      simp [hs] at this
    · exact q
end

/-! ### A binary search for a word -/
theorem less_eq (a b : ByteArray) : cmp_Less_string a b = some (sLt a b) := by
  unfold cmp_Less_string cmp_isNaN_string
  rw [bnd_some, show sNe a a = false by rw [sNe_iff]; simp, cnd_f, bnd1_some]
theorem bin_eq (l : List ByteArray) (s : ByteArray) : slices_BinarySearch_string_string l s = BS l s (fun x t => some (scmp x t)) := by
  have hb : (fun q : Int × Int => slices_BinarySearch_string_string_b0 l s q.1 q.2) = fun q => BSb (fun x t => some (scmp x t)) l s q.1 q.2 := by
    funext q
    unfold slices_BinarySearch_string_string_b0 BSb
    congr 2
    refine congrArg (bnd _) (funext fun x => ?_)
    rw [less_eq, bnd_some, bnd_some, sLt_iff, show decide (slt x s) = decide (scmp x s < 0) from decide_eq_decide.2 scmp_neg.symm]
    cases decide (scmp x s < 0) <;> rfl
  unfold slices_BinarySearch_string_string BS
  rw [show loop (fun s_1 : Int × Int => slices_BinarySearch_string_string_b0 l s s_1.fst s_1.snd) (0, (l.length : Int)) = loop (fun q : Int × Int => BSb (fun x t => some (scmp x t)) l s q.1 q.2) (0, (l.length : Int)) by rw [← hb]]
  congr 1
  funext a b
  congr 1
  congr 1
  cases hx : atI l a with
  | none => rfl
  | some x =>
    simp only [bnd_some, slices_isNaN_string]
    rw [show sNe x x = false by rw [sNe_iff]; simp, cnd_f]
    by_cases h : x = s
    · rw [show sEq x s = true by rw [sEq_iff]; simpa using h, cnd_t, show (scmp x s == 0) = true by rw [beq_iff_eq, scmp_zero]; exact h]
    · rw [show sEq x s = false by rw [sEq_iff]; simpa using h, cnd_f, show (scmp x s == 0) = false by rw [beq_eq_false_iff_ne, Ne, scmp_zero]; exact h]
theorem nl_has_eq {l : List ByteArray} {s : ByteArray} (hr : Rising (fun s : ByteArray => s) l) (hl : l.length ≤ lim) : nl_has l s = some (decide (s ∈ l)) := by
  unfold nl_has
  rw [bin_eq]
  obtain ⟨k, b, h1, h2, h3⟩ := BS_name (f := fun s : ByteArray => s) (c := fun x t => some (scmp x t)) (s := s) (fun x _ => rfl) hr hl
  rw [h1, bnd_some]
  congr 1
  have hiff : s ∈ l ↔ 0 ≤ ixBy (fun x => decide (x = s)) l := by
    constructor
    · intro hm
      rcases Int.lt_or_le (ixBy (fun x => decide (x = s)) l) 0 with q | q
      · have := ixBy_neg.1 q s hm; simp at this
      · exact q
    · intro h0
      obtain ⟨hi, hp, _⟩ := ixBy_at h0
      have : l[(ixBy (fun x => decide (x = s)) l).toNat] = s := by simpa using hp
      rw [← this]; exact List.getElem_mem hi
  cases b with
  | true => rw [decide_eq_true]; exact hiff.2 (by have := h2 rfl; omega)
  | false => rw [decide_eq_false]; intro hm; have := hiff.1 hm; have := h3 rfl; omega
end Go.Proofs.YtlbndchfmdogeaaDoor.Sym
