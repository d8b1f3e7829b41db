/- The sixth law's plain form is true. Conditions: of all data together there is at most so much. -/
import Derived.Test.YtlbndchfmdogeaaDoorNgx
import Derived.Test.YtlbndchfmdogeaaDoorNgy
set_option linter.unusedVariables false
set_option linter.unusedSimpArgs false
namespace Go.Proofs.YtlbndchfmdogeaaDoor.Sym
open Go Go.RowKit
theorem NetlistWithoutMatchesSpec_true (t : List PartType) (x : Netlist) (w : List ByteArray) (h : (cBss (List.map e_PartType t) + 1) + cBs (e_Netlist x) + (cBss (List.map e_str w) + 1) ≤ 1048576) : law_NetlistWithoutMatchesSpec t x w = some true := by
  have hlim : lim = 1099511627776 := rfl
  have hs : Small t x := small_of (n := 1048576) (m := 1048576) (by omega) (by omega) (by omega) (by omega)
  have hw : w.length ≤ lim := by
    have := cBss_map_len (f := e_str) (fun x => by simp only [e_str, cBs, cB]; omega) w
    omega
  unfold law_NetlistWithoutMatchesSpec
  rw [nl_Without_eq hs hs.short hw, bnd_some, ref_Without_eq hs hs.short hw, bnd_some, show ∀ i : Int, (i == i) = true from fun i => by simp, cnd_t, ref_Same_refl, bnd_some, cnd_t, awake_true]
  rfl
end Go.Proofs.YtlbndchfmdogeaaDoor.Sym
