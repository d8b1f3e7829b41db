/- The eighth law's plain form is true. Conditions: of all data together there is at most so much. -/
import Derived.Test.YtlbndchfmdogeaaDoorNgh
set_option linter.unusedVariables false
set_option linter.unusedSimpArgs false
namespace Go.Proofs.YtlbndchfmdogeaaDoor.Sym
open Go Go.RowKit
theorem same_strs (l : List ByteArray) : slices_Equal_string_string l l = some true := by
  unfold slices_Equal_string_string
  rw [show ((l.length : Int) != (l.length : Int)) = false by simp, cnd_f, forN_any (p := fun _ : ByteArray => false) (r := false) fun j hj => ?_]
  · simp [aft0_fin]
  · unfold slices_Equal_string_string_b0
    rw [atI_lt hj, bnd_some, bnd_some]
    simp [sNe_iff, cnd]
theorem same_rows (l : List (List ByteArray)) : ref_SameRows l l = some true := by
  unfold ref_SameRows
  rw [show ((l.length : Int) != (l.length : Int)) = false by simp, cnd_f, forN_any (p := fun _ : List ByteArray => false) (r := false) fun j hj => ?_]
  · simp [aft0_fin]
  · unfold ref_SameRows_b0
    rw [atI_lt hj, bnd_some, bnd_some, same_strs, bnd_some]
    simp [cnd]
theorem NetlistIslandsMatchSpec_true (t : List PartType) (x : Netlist) (w : List ByteArray) (h : (cBss (List.map e_PartType t) + 1) + cBs (e_Netlist x) + (cBss (List.map e_str w) + 1) ≤ 1048576) : law_NetlistIslandsMatchSpec t x w = some true := by
  have hlim : lim = 1099511627776 := rfl
  have hs : Small t x := small_of (n := 1048576) (m := 1048576) (by omega) (by omega) (by omega) (by omega)
  have hw : w.length ≤ lim := by
    have := cBss_map_len (f := e_str) (fun x => by simp only [e_str, cBs, cB]; omega) w
    omega
  have key : ∃ q, nl_Islands t x w = some q ∧ ref_Islands t x w = some q := by
    by_cases h0 : listF t x = 0 ∧ namesF x w = 0
    · obtain ⟨y, h1, h2, h3⟩ := (nl_Islands_eq hs hw).1 h0
      exact ⟨_, h3, (ref_Islands_eq hs hw).1 h0 y h1 h2⟩
    · exact ⟨_, (nl_Islands_eq hs hw).2 h0, (ref_Islands_eq hs hw).2 h0⟩
  obtain ⟨q, h1, h2⟩ := key
  unfold law_NetlistIslandsMatchSpec
  rw [h1, bnd_some, h2, bnd_some, show (q.2 == q.2) = true by simp, cnd_t, same_rows, bnd_some, cnd_t, awake_true]
  rfl
end Go.Proofs.YtlbndchfmdogeaaDoor.Sym
