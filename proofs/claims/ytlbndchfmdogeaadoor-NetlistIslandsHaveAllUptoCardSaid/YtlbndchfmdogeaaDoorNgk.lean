/- Plain facts on chapter 2's Islands: all parts are in them, each once. Conditions: none. -/
import Derived.Test.YtlbndchfmdogeaaDoorNgf
import Derived.Test.YtlbndchfmdogeaaDoorPle
import Derived.Test.YtlbndchfmdogeaaDoorSymz
set_option linter.unusedVariables false
set_option linter.unusedSimpArgs false
namespace Go.Proofs.YtlbndchfmdogeaaDoor.Sym
open Go Go.RowKit
open Classical

/-! ### Classes make all -/
theorem flat_cons {α : Type} [DecidableEq α] {β : Type} {f g : α → List β} {i : β} {t0 : α} : ∀ {R : List α}, R.Nodup → t0 ∈ R → (∀ t ∈ R, f t = if t0 = t then i :: g t else g t) → (R.flatMap f).Perm (i :: R.flatMap g)
  | [], _, h, _ => by cases h
  | t :: R, hn, h, hf => by
    rw [List.nodup_cons] at hn
    simp only [List.flatMap_cons]
    rw [hf t (by simp)]
    by_cases e : t0 = t
    · subst e
      rw [if_pos rfl]
      have : R.flatMap f = R.flatMap g := by
        rw [List.flatMap_def, List.flatMap_def]
        congr 1
        refine List.map_congr_left fun u hu => ?_
        have hne : ¬ t0 = u := fun e => hn.1 (by rw [e]; exact hu)
        rw [hf u (by simp [hu]), if_neg hne]
      rw [this]
      exact List.Perm.refl _
    · rw [if_neg e]
      have ih := flat_cons (f := f) (g := g) (i := i) hn.2 (by simpa [e] using h) fun u hu => hf u (by simp [hu])
      exact (ih.append_left (g t)).trans List.perm_middle
theorem classes_perm {r : Nat → Nat} {R : List Nat} (hn : R.Nodup) : ∀ {l : List Nat}, (∀ i ∈ l, r i ∈ R) → (R.flatMap fun t => l.filter fun i => decide (r i = t)).Perm l
  | [], _ => by
    have : (R.flatMap fun t => ([] : List Nat).filter fun i => decide (r i = t)) = [] := by simp
    rw [this]
  | i :: l, h => by
    have ih := classes_perm (r := r) hn (l := l) fun j hj => h j (by simp [hj])
    refine (flat_cons (t0 := r i) (i := i) (g := fun t => l.filter fun i => decide (r i = t)) hn (h i (by simp)) fun t _ => ?_).trans (ih.cons i)
    by_cases e : r i = t <;> simp [e]
theorem islF_perm {x : Netlist} {r : Nat → Nat} (hle : ∀ i, r i ≤ i) (hrr : ∀ i, r (r i) = r i) : (islF x r).flatten.Perm (x.Parts.map (·.Name)) := by
  have h1 := classes_perm (r := r) (rts_nodup r x.Parts.length) (l := List.range x.Parts.length) fun i hi => mem_rts.2 ⟨by have := hle i; have := List.mem_range.1 hi; omega, hrr i⟩
  have h2 := h1.map fun i : Nat => nmAt x (i : Int)
  have e1 : ((rts r x.Parts.length).flatMap fun t => (List.range x.Parts.length).filter fun i => decide (r i = t)).map (fun i : Nat => nmAt x (i : Int)) = (islF x r).flatten := by
    rw [List.map_flatMap, List.flatMap_def]
    unfold islF
    congr 1
    refine List.map_congr_left fun t _ => ?_
    unfold cls
    rw [List.map_map]
    rfl
  have e2 : (List.range x.Parts.length).map (fun i : Nat => nmAt x (i : Int)) = x.Parts.map (·.Name) := by
    refine List.ext_getElem (by simp) fun k h1 h2 => ?_
    have hk : k < x.Parts.length := by simpa using h2
    simp [nmAt, hk]
  rw [e1, e2] at h2
  exact h2

/-! ### Sorted -/
theorem sortS_eq {l m : List ByteArray} (h : l.Perm m) (hm : Rising (fun s : ByteArray => s) m) : sortS l = m := by
  have hle : ∀ a b : List UInt8, (decide (a ≤ b) = true) ↔ ¬ b < a := fun a b => by rw [decide_eq_true_iff]; exact Iff.rfl
  have key : (l.map (·.data.toList)).mergeSort (fun x y => decide (x ≤ y)) = m.map (·.data.toList) := by
    refine List.Perm.eq_of_pairwise (le := fun x y => decide (x ≤ y) = true) (fun a b _ _ h1 h2 => ?_) (List.pairwise_mergeSort (fun a b c h1 h2 => ?_) (fun a b => ?_) _) ?_ ((List.mergeSort_perm _ _).trans (h.map _))
    · rw [hle] at h1 h2
      exact Std.le_antisymm (show a ≤ b from h1) (show b ≤ a from h2)
    · rw [hle] at h1 h2 ⊢
      exact Std.le_trans (show a ≤ b from h1) (show b ≤ c from h2)
    · rw [Bool.or_eq_true, hle, hle]
      exact Std.le_total (a := a) (b := b)
    · rw [List.pairwise_map, List.pairwise_iff_getElem]
      intro i j hi hj hij
      rw [hle]
      have := hm i j hi hj hij
      exact fun q => slt_asymm this q
  unfold sortS
  rw [key, List.map_map]
  conv => rhs; rw [← List.map_id m]
  refine List.map_congr_left fun s _ => ?_
  show (⟨s.data.toList.toArray⟩ : ByteArray) = s
  rw [Array.toArray_toList]

/-! ### No nets -/
theorem namesF_own {x : Netlist} (hr : Rising (·.Name) x.Nets) (hl : x.Nets.length ≤ 1000) : namesF x (x.Nets.map (·.Name)) = 0 := by
  unfold namesF
  rw [if_neg (by rw [List.length_map]; omega)]
  cases hf : firstF (x.Nets.map (·.Name)) (nameF x (x.Nets.map (·.Name))) with
  | none => rfl
  | some v =>
    obtain ⟨j, hj, hv⟩ := firstF_mem hf
    have hj' : j < x.Nets.length := by simpa using hj
    unfold nameF at hv
    have hin : ¬ ixN (·.Name) x.Nets (x.Nets.map (·.Name))[j] < 0 := fun q => by
      have := ixBy_neg.1 q x.Nets[j] (List.getElem_mem hj')
      simp at this
    have hor : ordC (fun s : ByteArray => s) (x.Nets.map (·.Name)) j = false := by
      unfold ordC
      split
      · rename_i q
        have := hr (j - 1) j (by omega) hj' (by omega)
        simpa using this
      · rfl
    rw [if_neg hin, hor] at hv
    simp at hv
theorem edgesF_own (x : Netlist) : edgesF x (x.Nets.map (·.Name)) = [] := by
  unfold edgesF
  rw [List.flatMap_eq_nil_iff]
  intro n hn
  unfold edgesN
  rw [if_pos (List.mem_map.2 ⟨n, hn, rfl⟩)]
theorem con_nil {a b : Nat} (h : Con [] a b) : a = b := by
  induction h with
  | edge h => cases h
  | refl => rfl
  | symm _ ih => exact ih.symm
  | trans _ _ ih1 ih2 => exact ih1.trans ih2
theorem islF_own {x : Netlist} {y : List Int} (h : UfOk x.Parts.length y) (hu : UfIs y []) : (islF x (root y)).length = x.Parts.length := by
  have hid : ∀ i, root y i = i := fun i => con_nil ((hu _ _).1 (h.root_root i))
  unfold islF
  rw [List.length_map]
  unfold rts
  rw [List.filter_eq_self.2 (fun i _ => by simp [hid]), List.length_range]
end Go.Proofs.YtlbndchfmdogeaaDoor.Sym
