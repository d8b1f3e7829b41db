/- The first law's plain form is true. Conditions: of all data together there is at most so much. -/
import Derived.Test.YtlbndchfmdogeaaDoorNlf
set_option linter.unusedVariables false
set_option linter.unusedSimpArgs false
namespace Go.Proofs.YtlbndchfmdogeaaDoor.Sym
open Go Go.RowKit
theorem NetlistListsMatchSpec_true (t : List PartType) (x : Netlist) (p : Pin) (h : (cBss (List.map e_PartType t) + 1) + cBs (e_Netlist x) + cBs (e_Pin p) ≤ 1048576) : law_NetlistListsMatchSpec t x p = some true := by
  have hlim : lim = 1099511627776 := rfl
  have hs : Small t x := small_of (n := 1048576) (m := 1048576) (by omega) (by omega) (by omega) (by omega)
  obtain ⟨v, h1, h2⟩ := netOf_both hs p
  unfold law_NetlistListsMatchSpec
  rw [h1, bnd_some, h2, bnd_some, nl_list hs, bnd_some, ref_list hs, bnd_some, nl_Loose_eq hs, bnd_some, ref_Loose_eq hs, bnd_some]
  rw [show (listF t x != listF t x) = false by simp, cnd_f, show (v.2.2 != v.2.2) = false by simp, cnd_f, show sNe v.1 v.1 = false by rw [sNe_iff]; simp, cnd_f, bnd1_some, show (!v.2.1 == v.2.1) = false by simp, cnd_f]
  generalize (if listF t x = 0 then (looseF t x, 0) else ([], listF t x)) = q
  rw [show (q.2 == q.2) = true by simp, cnd_t, equal_pins, bnd_some, cnd_t, awake_true]
  rfl
end Go.Proofs.YtlbndchfmdogeaaDoor.Sym
