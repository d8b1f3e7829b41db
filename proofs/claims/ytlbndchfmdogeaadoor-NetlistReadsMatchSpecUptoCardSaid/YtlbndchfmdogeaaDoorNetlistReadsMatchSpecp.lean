/- The third law's plain form is true. Conditions: the text has at most so many bytes. -/
import Derived.Test.YtlbndchfmdogeaaDoorNgc
set_option linter.unusedVariables false
set_option linter.unusedSimpArgs false
namespace Go.Proofs.YtlbndchfmdogeaaDoor.Sym
open Go Go.RowKit
theorem same_parts (l : List Part) : slices_Equal_api_Part_api_Part l l = some true := by
  unfold slices_Equal_api_Part_api_Part
  rw [show ((l.length : Int) != (l.length : Int)) = false by simp, cnd_f, forN_any (p := fun _ : Part => false) (r := false) fun j hj => ?_]
  · simp [aft0_fin]
  · unfold slices_Equal_api_Part_api_Part_b0
    rw [atI_lt hj, bnd_some, bnd_some]
    simp [sEq_iff, cnd]
theorem same_pins (l : List Pin) : slices_Equal_api_Pin_api_Pin l l = some true := by
  unfold slices_Equal_api_Pin_api_Pin
  rw [show ((l.length : Int) != (l.length : Int)) = false by simp, cnd_f, forN_any (p := fun _ : Pin => false) (r := false) fun j hj => ?_]
  · simp [aft0_fin]
  · unfold slices_Equal_api_Pin_api_Pin_b0
    rw [atI_lt hj, bnd_some, bnd_some]
    simp [sEq_iff, cnd]
theorem same_strs (l : List ByteArray) : slices_Equal_string_string l l = some true := by
  unfold slices_Equal_string_string
  rw [show ((l.length : Int) != (l.length : Int)) = false by simp, cnd_f, forN_any (p := fun _ : ByteArray => false) (r := false) fun j hj => ?_]
  · simp [aft0_fin]
  · unfold slices_Equal_string_string_b0
    rw [atI_lt hj, bnd_some, bnd_some]
    simp [sNe_iff, cnd]
theorem same_self (x : Netlist) : ref_Same x x = some true := by
  unfold ref_Same
  rw [same_parts, bnd_some, show (!true) = false from rfl, cnd_f, show ((x.Nets.length : Int) != (x.Nets.length : Int)) = false by simp, bnd1_some, cnd_f, forN_any (p := fun _ : Net => false) (r := false) fun j hj => ?_]
  · simp [aft0_fin]
  · unfold ref_Same_b0
    rw [atI_lt hj, bnd_some]
    simp only [bnd_some, same_pins, same_strs, sNe_iff]
    simp [cnd, bnd1]
theorem NetlistReadsMatchSpec_true (s : ByteArray) (h : s.size + 1 ≤ 1048576) : law_NetlistReadsMatchSpec s = some true := by
  obtain ⟨q, h1, h2⟩ := read_both s
  unfold law_NetlistReadsMatchSpec
  rw [h1, bnd_some, h2, bnd_some, show (q.2.2 == q.2.2) = true by simp, cnd_t, show (q.2.1 == q.2.1) = true by simp, cnd_t, same_self, bnd_some, cnd_t, awake_true]
  rfl
end Go.Proofs.YtlbndchfmdogeaaDoor.Sym
