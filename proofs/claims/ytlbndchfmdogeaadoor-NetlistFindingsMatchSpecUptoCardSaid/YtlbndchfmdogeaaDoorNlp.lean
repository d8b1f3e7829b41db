/- Plain facts on chapter 2's functions: the reference's pins that are in no net. Conditions: none. -/
import Derived.Test.YtlbndchfmdogeaaDoorNln
set_option linter.unusedVariables false
set_option linter.unusedSimpArgs false
namespace Go.Proofs.YtlbndchfmdogeaaDoor.Sym
open Go Go.RowKit
theorem ref_loose_eq {t : List PartType} {x : Netlist} (h : ListOk t x) : ref_loose t x = some (looseF t x) := by
  unfold ref_loose looseF
  have hlim : lim = 1099511627776 := rfl
  have hb : ∀ j, (((x.Parts.take j).flatMap fun p => (pinsF' t p).filter fun q => decide (netIx x q < 0))).length ≤ 200000 := fun j => by
    have := flat_bound (fun p => (pinsF' t p).filter fun q => decide (netIx x q < 0)) 200 (fun p => Nat.le_trans (List.length_filter_le _ _) (pinsF'_len h.types p)) (x.Parts.take j)
    have h3 := h.parts.len
    have : (x.Parts.take j).length ≤ 1000 := by rw [List.length_take]; omega
    have := Nat.mul_le_mul_right 200 this
    omega
  rw [forN_app (xs := x.Parts) (f := fun p => (pinsF' t p).filter fun q => decide (netIx x q < 0)) 0 (fun j hj l hl => by
    have hbj := hb j
    unfold ref_loose_b0
    rw [atI_lt hj, bnd_some, ref_type_of, bnd_some]
    obtain ⟨y, hy⟩ := h.parts.type _ (List.getElem_mem hj)
    rcases ixN_cases (fun x : PartType => x.Name) t x.Parts[j].Type_ with ⟨h0, z, h1, h2⟩ | ⟨_, h1⟩
    · have hz := (byName_mem h1).1
      have hlen := (h.types.plen z hz).2
      rw [h2, bnd_some, forN_app (xs := z.Pins) (f := fun q => if netIx x ⟨x.Parts[j].Name, q.Name⟩ < 0 then [(⟨x.Parts[j].Name, q.Name⟩ : Pin)] else []) 200000 (fun k hk l' hl' => by
        have hfb : ((z.Pins.take k).flatMap fun q => if netIx x ⟨x.Parts[j].Name, q.Name⟩ < 0 then [(⟨x.Parts[j].Name, q.Name⟩ : Pin)] else []).length ≤ (z.Pins.take k).length * 1 := flat_bound _ 1 (fun q => by split <;> simp) _
        have hk2 : (z.Pins.take k).length ≤ 200 := by rw [List.length_take]; omega
        unfold ref_loose_b1
        rw [atI_lt hk, bnd_some, ref_netOf_eq, bnd_some]
        by_cases h0 : netIx x ⟨x.Parts[j].Name, z.Pins[k].Name⟩ < 0
        · rw [if_pos h0, decide_eq_true h0, cnd_t, grd_pos (by simp; omega), bnd1_some]
        · rw [if_neg h0, decide_eq_false h0, cnd_f, bnd1_some, List.append_nil]) (by omega), aft1_fin]
      congr 2
      congr 1
      unfold pinsF'
      simp only [h1]
      induction z.Pins with
      | nil => rfl
      | cons q l ih => by_cases hq : netIx x ⟨x.Parts[j].Name, q.Name⟩ < 0 <;> simp [hq, ih]
    · rw [hy] at h1; cases h1) (by simp), aft1_fin]
  rfl
end Go.Proofs.YtlbndchfmdogeaaDoor.Sym
