/- The fifth law's plain form is true. Conditions: of all data together there is at most so much; the number is of 64 bits. -/
import Derived.Test.YtlbndchfmdogeaaDoorNgr
import Derived.Test.YtlbndchfmdogeaaDoorNgy
set_option linter.unusedVariables false
set_option linter.unusedSimpArgs false
namespace Go.Proofs.YtlbndchfmdogeaaDoor.Sym
open Go Go.RowKit
theorem ref_Below_eq {k : Int} {n : Nat} (hk : r64 k) (h0 : 0 < n) (hn : n ≤ lim) : ∃ m : Nat, ref_Below k (n : Int) = some (m : Int) ∧ m < n := by
  have hlim : lim = 1099511627776 := rfl
  obtain ⟨k1, k2⟩ := hk
  unfold ref_Below
  have hlt : k.tmod (n : Int) < n := Int.tmod_lt_of_pos k (by omega)
  have hgt : -(n : Int) < k.tmod (n : Int) := by
    have := Int.tmod_lt_of_pos (-k) (show (0 : Int) < n by omega)
    rw [Int.neg_tmod] at this
    omega
  rw [grd_pos (by omega)]
  by_cases h : k.tmod (n : Int) < 0
  · rw [decide_eq_true h, cnd_t, bnd1_some, w64_id (by omega) (by omega)]
    exact ⟨(k.tmod (n : Int) + n).toNat, by rw [Int.toNat_of_nonneg (by omega)], by omega⟩
  · rw [decide_eq_false h, cnd_f, bnd1_some]
    exact ⟨(k.tmod (n : Int)).toNat, by rw [Int.toNat_of_nonneg (by omega)], by omega⟩
theorem NetlistWithoutTwice_true (t : List PartType) (x : Netlist) (w : List ByteArray) (k : Int) (hk : r64 k) (h : (cBss (List.map e_PartType t) + 1) + cBs (e_Netlist x) + (cBss (List.map e_str w) + 1) ≤ 1048576) : law_NetlistWithoutTwice t x w k = some true := by
  have hlim : lim = 1099511627776 := rfl
  have hs : Small t x := small_of (n := 1048576) (m := 1048576) (by omega) (by omega) (by omega) (by omega)
  have hw : w.length ≤ lim ∧ w.length ≤ 1048576 := by
    have := cBss_map_len (f := e_str) (fun x => by simp only [e_str, cBs, cB]; omega) w
    omega
  unfold law_NetlistWithoutTwice
  rw [nl_Without_eq hs hs.short hw.1, bnd_some]
  by_cases h0 : listF t x = 0
  · rw [if_neg (by simpa using h0)]
    by_cases h1 : namesG (·.Name) x.Parts w = 0
    · rw [if_neg (by simpa using h1)]
      simp only
      obtain ⟨m, e1, e2⟩ := ref_Below_eq (n := w.length + 1) hk (by omega) (by omega)
      have ew : w64 ((w.length : Int) + 1) = ((w.length + 1 : Nat) : Int) := by rw [w64_id (by omega) (by omega)]; omega
      rw [show ((0 : Int) != 0) = false from rfl, cnd_f, ew, e1, bnd_some, grd_pos ⟨by omega, by omega, by omega⟩]
      have ht : Int.toNat (m : Int) = m := by simp
      obtain ⟨n1, n2⟩ := names_cut h1 m
      have hs1 := small_cut hs (w.take m)
      have hr1 := right_listF (cut_right (listF_right h0) (w.take m))
      rw [ht, show Int.toNat 0 = 0 from rfl, List.drop_zero, nl_Without_eq hs hs.short (by rw [List.length_take]; omega), bnd_some, if_neg (by simpa using h0), if_neg (by simpa using n1)]
      simp only
      rw [show ((0 : Int) != 0) = false from rfl, cnd_f, grd_pos ⟨by omega, by omega⟩, nl_Without_eq hs1 hs1.short (by rw [List.length_drop]; omega), bnd_some, if_neg (by simpa using hr1), if_neg (by simpa using n2)]
      simp only
      rw [show ((0 : Int) == 0) = true from rfl, cnd_t, cut_twice, List.take_append_drop, ref_Same_refl, bnd_some, cnd_t, awake_true]
      rfl
    · rw [if_pos h1]
      simp only
      rw [bne_iff_ne.2 h1, cnd_t, show ((([] : List Part).length : Int) == 0) = true from rfl, cnd_t, awake_true]
      rfl
  · rw [if_pos h0]
    simp only
    rw [bne_iff_ne.2 h0, cnd_t, show ((([] : List Part).length : Int) == 0) = true from rfl, cnd_t, awake_true]
    rfl
end Go.Proofs.YtlbndchfmdogeaaDoor.Sym
