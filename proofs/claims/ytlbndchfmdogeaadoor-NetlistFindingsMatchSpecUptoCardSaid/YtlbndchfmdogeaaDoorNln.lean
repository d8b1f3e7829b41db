/- Plain facts on chapter 2's functions: the reference's search for a pin's net. Conditions: none. -/
import Derived.Test.YtlbndchfmdogeaaDoorNlf
set_option linter.unusedVariables false
set_option linter.unusedSimpArgs false
namespace Go.Proofs.YtlbndchfmdogeaaDoor.Sym
open Go Go.RowKit
theorem ref_netOf_eq (x : Netlist) (p : Pin) : ref_netOf x p = some (netIx x p) := by
  have e : ref_netOf x p = LIN (fun n => slices_Contains_api_Pin_api_Pin n.Pins p) x.Nets := rfl
  rw [e, LIN_eq (q := fun n => decide (p ∈ n.Pins)) fun n _ => contains_pin n.Pins p]
  rfl
end Go.Proofs.YtlbndchfmdogeaaDoor.Sym
