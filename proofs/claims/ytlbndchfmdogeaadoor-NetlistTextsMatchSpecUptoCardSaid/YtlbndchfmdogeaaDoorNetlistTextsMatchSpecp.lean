/- The law on texts: its plain form is true. Conditions: the list has at most so many cells and bytes. -/
import Derived.Test.YtlbndchfmdogeaaDoorNgu
import Derived.Test.YtlbndchfmdogeaaDoorNgy
set_option linter.unusedVariables false
set_option linter.unusedSimpArgs false
namespace Go.Proofs.YtlbndchfmdogeaaDoor.Sym
open Go Go.RowKit
theorem NetlistTextsMatchSpec_true (x : Netlist) (h : cBs (e_Netlist x) ≤ 1048576) : law_NetlistTextsMatchSpec x = some true := by
  have hlim : lim = 1099511627776 := rfl
  have hsz := text_size h
  have hpa : ∀ y : Part, 1 ≤ cBs (e_Part y) := fun y => by simp only [e_Part, cBs, cB]; omega
  have hne : ∀ y : Net, 1 ≤ cBs (e_Net y) := fun y => by simp only [e_Net, cBs, cB]; omega
  have hl2 := cBss_map_len hpa x.Parts
  have hl3 := cBss_map_len hne x.Nets
  have h2 := h
  simp only [e_Netlist, cBs, cB] at h2
  unfold law_NetlistTextsMatchSpec
  rw [ref_Text_nl, nl_Text_eq (by omega), bnd_some, bnd_some, awake_true]
  have e1 : ((textR x).2 != (textR x).2) = false := by simp
  have e2 : sNe (textR x).1 (textR x).1 = false := by rw [sNe_iff]; simp
  rw [e1, cnd_f, e2, cnd_f, bnd_some, bnd1_some, show (!true) = false from rfl, cnd_f]
  by_cases hr : (textR x).2 = 0
  · rw [show ((textR x).2 != 0) = false by rw [hr]; rfl, cnd_f]
    have hok : (x.Parts.all okPart && x.Nets.all okNet) = true ∧ ¬ ((textB x).size : Int) > 2000000 := by
      unfold textR at hr
      split at hr
      · cases hr
      · rename_i q
        split at hr
        · cases hr
        · exact ⟨by simpa using q, by assumption⟩
    have ht : (textR x).1 = textB x := by
      unfold textR
      rw [if_neg (by rw [hok.1]; simp), if_neg hok.2]
    have hloop : forN (fun i15 s => law_NetlistTextsMatchSpec_b0 x (textR x) i15) x.Nets.length 0 () = some (if x.Nets.any (fun n => decide ((n.Ports.length : Int) > 0)) then .ret true else .fin ()) := forN_any (p := fun n : Net => decide ((n.Ports.length : Int) > 0)) (r := true) fun j hj => by
      unfold law_NetlistTextsMatchSpec_b0
      rw [atI_lt hj, bnd_some, cnd_some]
      cases decide ((x.Nets[j].Ports.length : Int) > 0) <;> rfl
    rw [hloop]
    cases hany : x.Nets.any (fun n => decide ((n.Ports.length : Int) > 0)) with
    | true => rfl
    | false =>
      rw [if_neg (by simp), aft0_fin, ht]
      have hand := hok.1
      rw [Bool.and_eq_true, List.all_eq_true, List.all_eq_true] at hand
      have hports : ∀ n ∈ x.Nets, n.Ports = [] := fun n hn => by
        have := (List.any_eq_false.1 hany) n hn
        have h0 : n.Ports.length = 0 := by
          simp only [decide_eq_true_eq] at this; omega
        exact List.eq_nil_of_length_eq_zero h0
      rw [read_back hand.1 hand.2 hports hok.2 (by omega) (by omega), bnd_some]
      simp only [ref_Same_refl, bnd_some]
      rfl
  · rw [show ((textR x).2 != 0) = true by simpa using hr, cnd_t]
end Go.Proofs.YtlbndchfmdogeaaDoor.Sym
