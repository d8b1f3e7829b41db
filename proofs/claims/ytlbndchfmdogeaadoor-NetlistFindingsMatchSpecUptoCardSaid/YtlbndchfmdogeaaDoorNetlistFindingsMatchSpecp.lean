/- The second law's plain form is true. Conditions: of all data together there is at most so much. -/
import Derived.Test.YtlbndchfmdogeaaDoorNge
set_option linter.unusedVariables false
set_option linter.unusedSimpArgs false
namespace Go.Proofs.YtlbndchfmdogeaaDoor.Sym
open Go Go.RowKit
theorem same_pins (l : List Pin) : slices_Equal_api_Pin_api_Pin l l = some true := by
  unfold slices_Equal_api_Pin_api_Pin
  rw [show ((l.length : Int) != (l.length : Int)) = false by simp, cnd_f, forN_any (p := fun _ : Pin => false) (r := false) fun j hj => ?_]
  · simp [aft0_fin]
  · unfold slices_Equal_api_Pin_api_Pin_b0
    rw [atI_lt hj, bnd_some, bnd_some]
    simp [sEq_iff, cnd]
theorem same_findings (l : List Finding) : ref_SameFindings l l = some true := by
  unfold ref_SameFindings
  rw [show ((l.length : Int) != (l.length : Int)) = false by simp, cnd_f, forN_any (p := fun _ : Finding => false) (r := false) fun j hj => ?_]
  · simp [aft0_fin]
  · unfold ref_SameFindings_b0
    simp only [atI_lt hj, bnd_some, same_pins, sNe_iff]
    simp [cnd, bnd1]
theorem NetlistFindingsMatchSpec_true (t : List PartType) (x : Netlist) (h : (cBss (List.map e_PartType t) + 1) + cBs (e_Netlist x) ≤ 1048576) : law_NetlistFindingsMatchSpec t x = some true := by
  have hlim : lim = 1099511627776 := rfl
  have hs : Small t x := small_of (n := 1048576) (m := 1048576) (by omega) (by omega) (by omega) (by omega)
  unfold law_NetlistFindingsMatchSpec
  rw [nl_Findings_eq hs, bnd_some, ref_Findings_eq hs, bnd_some]
  generalize (if listF t x = 0 then (findF t x, (0 : Int)) else ([], listF t x)) = q
  rw [show (q.2 == q.2) = true by simp, cnd_t, same_findings, bnd_some, cnd_t, awake_true]
  rfl
end Go.Proofs.YtlbndchfmdogeaaDoor.Sym
