/- Plain facts on chapter 2's Without: the reference's, and lists that are alike. Conditions: none. -/
import Derived.Test.YtlbndchfmdogeaaDoorNgw
set_option linter.unusedVariables false
set_option linter.unusedSimpArgs false
namespace Go.Proofs.YtlbndchfmdogeaaDoor.Sym
open Go Go.RowKit
open Classical
theorem contains_str (l : List ByteArray) (s : ByteArray) : slices_Contains_string_string l s = some (decide (s ∈ l)) := by
  unfold slices_Contains_string_string
  have e : slices_Index_string_string l s = LIN' (fun x => sEq s x) l := rfl
  rw [e, LIN'_eq, bnd_some, ixBy_any]
  congr 1
  rw [Bool.eq_iff_iff, List.any_eq_true]
  simp only [sEq_iff, decide_eq_true_eq]
  exact ⟨fun ⟨x, hx, e⟩ => e ▸ hx, fun h => ⟨s, h, rfl⟩⟩

theorem flat_if {α : Type} (p : α → Prop) [DecidablePred p] (l : List α) : (l.flatMap fun x => if p x then [x] else []) = l.filter fun x => decide (p x) := by
  induction l with
  | nil => rfl
  | cons x l ih =>
    rw [List.flatMap_cons, ih]
    by_cases h : p x <;> simp [h]
theorem flatMap_len' {α β : Type} (f : α → List β) (h : ∀ x, (f x).length ≤ 1) (l : List α) : (l.flatMap f).length ≤ l.length := by
  induction l with
  | nil => simp
  | cons x l ih =>
    have := h x
    simp only [List.flatMap_cons, List.length_append, List.length_cons]
    omega
theorem ref_Without_eq {t : List PartType} {x : Netlist} (hs : Small t x) (hx : Short x) {w : List ByteArray} (hw : w.length ≤ lim) :
    ref_Without t x w = some (if listF t x ≠ 0 then (⟨[], []⟩, listF t x) else if namesG (·.Name) x.Parts w ≠ 0 then (⟨[], []⟩, namesG (·.Name) x.Parts w) else (cutL x w, 0)) := by
  have hlim : lim = 1099511627776 := rfl
  unfold ref_Without
  rw [ref_list hs, bnd_some]
  by_cases h0 : listF t x = 0
  · have hl := listF_zero h0
    rw [h0, show ((0 : Int) != 0) = false from rfl, cnd_f, if_neg (by simp)]
    unfold namesG
    by_cases h1 : w.length > 1000
    · rw [decide_eq_true (by omega), cnd_t, if_pos h1]; rfl
    · rw [decide_eq_false (by omega), cnd_f, if_neg h1, forN_first (ρ := Netlist × Int) (xs := w) (fun s i => (nameG (·.Name) x.Parts w s i).map fun r => ((⟨[], []⟩ : Netlist), r)) fun j hj => ?_]
      · have hfm : firstF w (fun s i => (nameG (·.Name) x.Parts w s i).map fun r => ((⟨[], []⟩ : Netlist), r)) = (firstF w (nameG (·.Name) x.Parts w)).map fun r => ((⟨[], []⟩ : Netlist), r) := by
          unfold firstF
          rw [List.map_findSome?]
          congr 1
          funext i
          show _ = Option.map _ (atF _ _ i)
          unfold atF
          cases w[i]? <;> rfl
        rw [hfm]
        cases hf : firstF w (nameG (·.Name) x.Parts w) with
        | some r =>
          have hr : r ≠ 0 := by
            obtain ⟨j, hj, hv⟩ := firstF_mem hf
            unfold nameG at hv
            split at hv
            · cases hv; decide
            · split at hv
              · cases hv; decide
              · cases hv
          simp only [Option.map_some]
          rw [if_pos hr]
          rfl
        | none =>
          simp only [Option.map_none]
          rw [if_neg (by simp), aft0_fin, forN_app (xs := x.Parts) (f := fun p : Part => if p.Name ∉ w then [p] else []) 0 (fun j hj l hl' => ?_) (by simp), aft1_fin, List.nil_append, flat_if,
            forN_app (xs := x.Nets) (f := fun n : Net => if 0 < (cutN w n).Pins.length then [cutN w n] else []) 0 (fun j hj l hl' => ?_) (by simp), aft1_fin, List.nil_append]
          · unfold cutL
            have e1 : (x.Nets.flatMap fun n : Net => if 0 < (cutN w n).Pins.length then [cutN w n] else []) = (x.Nets.map (cutN w)).filter fun n => decide (0 < n.Pins.length) := by
              rw [← flat_if (fun n : Net => 0 < n.Pins.length), List.flatMap_map]
            rw [e1]
          · have hb : l.length ≤ x.Nets.length := by
              have := flatMap_len' (fun n : Net => if 0 < (cutN w n).Pins.length then [cutN w n] else []) (fun n => by split <;> simp) (x.Nets.take j)
              rw [List.length_take] at this
              omega
            have hn := hx.pins _ (List.getElem_mem hj)
            have hll := hl.len
            unfold ref_Without_b2
            rw [atI_lt hj, bnd_some, forN_app (xs := x.Nets[j].Pins) (f := fun p : Pin => if p.Part ∉ w then [p] else []) 0 (fun k hk l' hl2 => ?_) (by simp), aft1_fin, List.nil_append, flat_if]
            · by_cases hp : 0 < (cutN w x.Nets[j]).Pins.length
              · rw [if_pos hp]
                unfold cutN at hp ⊢
                rw [decide_eq_true (by simpa using hp), cnd_t, grd_pos (by simp; omega), bnd1_some]
              · rw [if_neg hp]
                unfold cutN at hp
                rw [decide_eq_false (by simpa using hp), cnd_f, bnd1_some, List.append_nil]
            · have hb2 : l'.length ≤ k := by
                have := flatMap_len' (fun p : Pin => if p.Part ∉ w then [p] else []) (fun n => by split <;> simp) (x.Nets[j].Pins.take k)
                rw [List.length_take] at this
                omega
              unfold ref_Without_b3
              rw [atI_lt hk, bnd_some, contains_str, bnd_some]
              by_cases hp : x.Nets[j].Pins[k].Part ∈ w
              · rw [decide_eq_true hp, show (!true) = false from rfl, cnd_f, bnd1_some, if_neg (fun q => q hp), List.append_nil]
              · rw [decide_eq_false hp, show (!false) = true from rfl, cnd_t, grd_pos (by simp; omega), bnd1_some, if_pos hp]
          · have hb : l.length ≤ j := by
              have := flatMap_len' (fun p : Part => if p.Name ∉ w then [p] else []) (fun n => by split <;> simp) (x.Parts.take j)
              rw [List.length_take] at this
              omega
            have hll := hl.parts.len
            unfold ref_Without_b1
            rw [atI_lt hj, bnd_some, contains_str, bnd_some]
            by_cases hp : x.Parts[j].Name ∈ w
            · rw [decide_eq_true hp, show (!true) = false from rfl, cnd_f, bnd1_some, if_neg (fun q => q hp), List.append_nil]
            · rw [decide_eq_false hp, show (!false) = true from rfl, cnd_t, grd_pos (by simp; omega), bnd1_some, if_pos hp]
      · unfold ref_Without_b0 nameG
        rw [atI_lt hj, bnd_some, ref_part_of, bnd_some]
        by_cases h0 : ixN (·.Name) x.Parts w[j] < 0
        · rw [decide_eq_true h0, if_pos h0]; rfl
        · rw [decide_eq_false h0, if_neg h0, cnd_f, ord_eq (fun s : ByteArray => s) hj hw rfl, bnd1_some]
          cases ordC (fun s : ByteArray => s) w j <;> rfl
  · rw [bne_iff_ne.2 h0, cnd_t, if_pos h0]
end Go.Proofs.YtlbndchfmdogeaaDoor.Sym
