/- Plain facts on chapter 2's Without. Conditions: none. -/
import Derived.Test.YtlbndchfmdogeaaDoorNgn
import Derived.Test.YtlbndchfmdogeaaDoorPlg
set_option linter.unusedVariables false
set_option linter.unusedSimpArgs false
namespace Go.Proofs.YtlbndchfmdogeaaDoor.Sym
open Go Go.RowKit
open Classical

/-! ### A copy -/
theorem clone_eq {α : Type} {xs : List α} (h : xs.length ≤ lim) : (grd (([] : List α).length + xs.length ≤ lim) <| some (([] : List α) ++ xs)) = some xs := by
  rw [grd_pos (by simpa using h), List.nil_append]
theorem nl_Own_eq {x : Netlist} (h1 : x.Parts.length ≤ lim) (h2 : x.Nets.length ≤ lim) (h3 : ∀ n ∈ x.Nets, n.Pins.length ≤ lim) : nl_Own x = some ⟨x.Parts, x.Nets.map fun n => ⟨n.Name, n.Pins, []⟩⟩ := by
  unfold nl_Own
  have e1 : slices_Clone_api_Part_api_Part_new x.Parts = some x.Parts := clone_eq h1
  have e2 : slices_Clone_api_Net_api_Net_new x.Nets = some x.Nets := clone_eq h2
  rw [e1, bnd_some, e2, bnd_some, grd_pos h2, forN_upd (g := fun n : Net => (⟨n.Name, n.Pins, []⟩ : Net)) fun j hj s hs e => ?_, aft1_fin, grd_pos (by simp)]
  have hjs : j < s.length := by omega
  have e3 : slices_Clone_api_Pin_api_Pin_new x.Nets[j].Pins = some x.Nets[j].Pins := clone_eq (h3 _ (List.getElem_mem hj))
  unfold nl_Own_b0
  rw [atI_lt hjs, e, bnd_some, e3, bnd_some, bnd_some, bnd_some, show Int.toNat (j : Int) = j by simp, List.set_set]

/-! ### What is left -/
noncomputable def cutN (w : List ByteArray) (n : Net) : Net := ⟨n.Name, n.Pins.filter fun p => decide (p.Part ∉ w), []⟩
noncomputable def cutL (x : Netlist) (w : List ByteArray) : Netlist := ⟨x.Parts.filter fun p => decide (p.Name ∉ w), (x.Nets.map (cutN w)).filter fun n => decide (0 < n.Pins.length)⟩
theorem nl_without_names {x : Netlist} {w : List ByteArray} (hr : Rising (·.Name) x.Parts) (hx : x.Parts.length ≤ lim) (hw : w.length ≤ lim) : nl_checkNames w 1000 (fun z0 => nl_Without_1 z0 x) = some (namesG (·.Name) x.Parts w) :=
  nl_namesG (fun s => by
    unfold nl_Without_1
    rw [nl_part_at hr hx, bnd_some]) hw
theorem del_part (xs : List Part) (f : Part → Option Bool) : slices_DeleteFunc_api_Part_api_Part xs f = DEL (⟨(⟨#[]⟩ : ByteArray), (⟨#[]⟩ : ByteArray)⟩ : Part) xs f := rfl
theorem del_pin (xs : List Pin) (f : Pin → Option Bool) : slices_DeleteFunc_api_Pin_api_Pin xs f = DEL (⟨(⟨#[]⟩ : ByteArray), (⟨#[]⟩ : ByteArray)⟩ : Pin) xs f := rfl
theorem del_net (xs : List Net) (f : Net → Option Bool) : slices_DeleteFunc_api_Net_api_Net xs f = DEL (⟨(⟨#[]⟩ : ByteArray), [], []⟩ : Net) xs f := rfl
/-- Its lengths are those of a list that is right. -/
structure Short (x : Netlist) : Prop where
  parts : x.Parts.length ≤ lim
  nets : x.Nets.length ≤ lim
  pins : ∀ n ∈ x.Nets, n.Pins.length ≤ lim
theorem Small.short {t : List PartType} {x : Netlist} (h : Small t x) : Short x := ⟨h.lp, h.ln, h.lnp⟩
theorem nl_Without_eq {t : List PartType} {x : Netlist} (hs : Small t x) (hx : Short x) {w : List ByteArray} (hw : w.length ≤ lim) :
    nl_Without t x w = some (if listF t x ≠ 0 then (⟨[], []⟩, listF t x) else if namesG (·.Name) x.Parts w ≠ 0 then (⟨[], []⟩, namesG (·.Name) x.Parts w) else (cutL x w, 0)) := by
  have hlim : lim = 1099511627776 := rfl
  unfold nl_Without
  rw [nl_list hs, bnd_some]
  by_cases h0 : listF t x = 0
  · have hl := listF_zero h0
    rw [h0, show ((0 : Int) != 0) = false from rfl, cnd_f, nl_without_names hl.parts.rise hl.parts.len' hw, bnd_some, if_neg (by simp)]
    by_cases h1 : namesG (·.Name) x.Parts w = 0
    · obtain ⟨k1, k2, k3⟩ := namesG_zero h1
      rw [h1, show ((0 : Int) != 0) = false from rfl, cnd_f, if_neg (by simp), nl_Own_eq hx.parts hx.nets hx.pins, bnd_some]
      have hdp : slices_DeleteFunc_api_Part_api_Part x.Parts (fun z0 => nl_Without_2 z0 w) = some (x.Parts.filter fun p => decide (p.Name ∉ w)) := by
        rw [del_part, DEL_eq (p := fun p : Part => decide (p.Name ∈ w)) _ (fun p _ => ?_) hx.parts]
        · simp
        · unfold nl_Without_2
          rw [nl_has_eq k2 hw, bnd_some]
      rw [hdp, bnd_some]
      simp only
      rw [grd_pos (by rw [List.length_map]; exact hx.nets), forN_upd (g := cutN w) fun j hj s hs' e => ?_, aft1_fin, del_net, DEL_eq (p := fun n : Net => decide (n.Pins.length = 0)) _ (fun n _ => ?_) ?_, bnd_some]
      · congr 2
        unfold cutL
        rw [List.map_map]
        congr 1
        have e1 : (cutN w ∘ fun n : Net => (⟨n.Name, n.Pins, []⟩ : Net)) = cutN w := by funext n; rfl
        rw [e1]
        refine List.filter_congr fun n _ => ?_
        by_cases h : n.Pins.length = 0
        · simp [h]
        · have h2 : 0 < n.Pins.length := by omega
          simp [h, h2]
      · rw [List.length_map, List.length_map]; exact hx.nets
      · unfold nl_Without_4
        congr 1
        rw [Bool.eq_iff_iff]
        simp
      · have hjs : j < s.length := by omega
        have hj' : j < x.Nets.length := by simpa using hj
        have hpl : ((x.Nets.map fun n => (⟨n.Name, n.Pins, []⟩ : Net))[j]).Pins.length ≤ lim := by
          rw [List.getElem_map]
          show x.Nets[j].Pins.length ≤ lim
          exact hx.pins _ (List.getElem_mem hj')
        unfold nl_Without_b0
        rw [atI_lt hjs, e, bnd_some, del_pin, DEL_eq (p := fun p : Pin => decide (p.Part ∈ w)) _ (fun p _ => ?_) hpl, bnd_some, bnd_some, show Int.toNat (j : Int) = j by simp]
        · unfold cutN
          rw [List.getElem_map]
          simp
        · unfold nl_Without_3
          rw [nl_has_eq k2 hw, bnd_some]
    · rw [bne_iff_ne.2 h1, cnd_t, if_pos h1]
  · rw [bne_iff_ne.2 h0, cnd_t, if_pos h0]
end Go.Proofs.YtlbndchfmdogeaaDoor.Sym
