/- The fourth law's plain form is true. Conditions: of all data together there is at most so much. -/
import Derived.Test.YtlbndchfmdogeaaDoorNga
set_option linter.unusedVariables false
set_option linter.unusedSimpArgs false
namespace Go.Proofs.YtlbndchfmdogeaaDoor.Sym
open Go Go.RowKit
theorem NetlistChangesMatchSpec_true (t : List PartType) (a b : Netlist) (h : (cBss (List.map e_PartType t) + 1) + cBs (e_Netlist a) + cBs (e_Netlist b) ≤ 1048576) : law_NetlistChangesMatchSpec t a b = some true := by
  have hlim : lim = 1099511627776 := rfl
  have ha : Small t a := small_of (n := 1048576) (m := 1048576) (by omega) (by omega) (by omega) (by omega)
  have hb : Small t b := small_of (n := 1048576) (m := 1048576) (by omega) (by omega) (by omega) (by omega)
  unfold law_NetlistChangesMatchSpec
  rw [nl_Changes_eq ha hb, bnd_some, ref_Changes_eq ha hb, bnd_some]
  generalize (if listF t a ≠ 0 then (([] : List ListChange), listF t a) else if listF t b ≠ 0 then ([], listF t b) else (chg t a b, 0)) = q
  rw [show (q.2 != q.2) = false by simp, cnd_f, equal_changes, bnd_some, show (!true) = false from rfl, cnd_f, awake_true, bnd_some, bnd1_some, show (!true) = false from rfl, cnd_f, nl_Changes_eq ha ha, bnd_some]
  by_cases h1 : listF t a = 0
  · rw [if_neg (fun q => q h1), if_neg (fun q => q h1), chg_self (listF_zero h1)]
    rfl
  · rw [if_pos h1, bne_iff_ne.2 h1, cnd_t, bnd1_some]
end Go.Proofs.YtlbndchfmdogeaaDoor.Sym
