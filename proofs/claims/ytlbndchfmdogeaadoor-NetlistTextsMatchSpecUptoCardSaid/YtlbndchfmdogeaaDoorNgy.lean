/- Plain facts on chapter 2's lists: that equal lists are found alike. Conditions: none. -/
import Derived.Test.YtlbndchfmdogeaaDoorNlf
set_option linter.unusedVariables false
set_option linter.unusedSimpArgs false
namespace Go.Proofs.YtlbndchfmdogeaaDoor.Sym
open Go Go.RowKit

/-- slices.Equal of a list with itself. -/
noncomputable def EQL {α : Type} (ne : α → α → Bool) (a0 a1 : List α) : Option Bool :=
 cnd ((a0.length : Int) != (a1.length : Int)) (some false) (aft0 (forN (ρ := Bool) (fun i _ => bnd (atI a0 (i : Int)) fun x => bnd (atI a1 (i : Int)) fun y => cnd (ne x y) (some (.ret false)) (some (.go ()))) a0.length 0 ()) (some true) (fun r => some r))
theorem EQL_refl {α : Type} {ne : α → α → Bool} (h : ∀ x, ne x x = false) (l : List α) : EQL ne l l = some true := by
  unfold EQL
  rw [show ((l.length : Int) != (l.length : Int)) = false by simp, cnd_f, forN_any (p := fun _ : α => false) (r := false) fun j hj => ?_]
  · simp [aft0_fin]
  · rw [atI_lt hj, bnd_some, bnd_some, h, cnd_f]
    rfl
theorem sNe_self (s : ByteArray) : sNe s s = false := by rw [sNe_iff]; simp
theorem sEq_self (s : ByteArray) : sEq s s = true := by rw [sEq_iff]; simp
theorem eq_parts (l : List Part) : slices_Equal_api_Part_api_Part l l = some true := by
  have e : slices_Equal_api_Part_api_Part l l = EQL (fun x y : Part => !(sEq x.Name y.Name && (sEq x.Type_ y.Type_ && true))) l l := rfl
  rw [e]
  exact EQL_refl (fun x => by simp [sEq_self]) l
theorem eq_pins (l : List Pin) : slices_Equal_api_Pin_api_Pin l l = some true := by
  have e : slices_Equal_api_Pin_api_Pin l l = EQL (fun x y : Pin => !(sEq x.Part y.Part && (sEq x.Pin y.Pin && true))) l l := rfl
  rw [e]
  exact EQL_refl (fun x => by simp [sEq_self]) l
theorem eq_strs (l : List ByteArray) : slices_Equal_string_string l l = some true := by
  have e : slices_Equal_string_string l l = EQL sNe l l := rfl
  rw [e]
  exact EQL_refl sNe_self l
theorem ref_Same_refl (x : Netlist) : ref_Same x x = some true := by
  unfold ref_Same
  rw [eq_parts, bnd_some, show (!true) = false from rfl, cnd_f, bnd1_some, show ((x.Nets.length : Int) != (x.Nets.length : Int)) = false by simp, cnd_f, forN_any (p := fun _ : Net => false) (r := false) fun j hj => ?_]
  · simp [aft0_fin]
  · unfold ref_Same_b0
    rw [atI_lt hj, bnd_some, bnd_some, sNe_self, cnd_f, bnd_some, eq_pins, bnd_some, show (!true) = false from rfl, cnd_f, bnd_some, eq_strs, bnd_some, bnd1_some]
    rfl
end Go.Proofs.YtlbndchfmdogeaaDoor.Sym
