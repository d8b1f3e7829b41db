/- The eleventh law's plain form is true. Conditions: of all data together there is at most so much. -/
import Derived.Test.YtlbndchfmdogeaaDoorNgk
set_option linter.unusedVariables false
set_option linter.unusedSimpArgs false
namespace Go.Proofs.YtlbndchfmdogeaaDoor.Sym
open Go Go.RowKit
theorem NetlistIslandsHaveAll_true (t : List PartType) (x : Netlist) (w : List ByteArray) (h : (cBss (List.map e_PartType t) + 1) + cBs (e_Netlist x) + (cBss (List.map e_str w) + 1) ≤ 1048576) : law_NetlistIslandsHaveAll t x w = some true := by
  have hlim : lim = 1099511627776 := rfl
  have hs : Small t x := small_of (n := 1048576) (m := 1048576) (by omega) (by omega) (by omega) (by omega)
  have hw : w.length ≤ lim := by
    have := cBss_map_len (f := e_str) (fun x => by simp only [e_str, cBs, cB]; omega) w
    omega
  unfold law_NetlistIslandsHaveAll
  by_cases h0 : listF t x = 0 ∧ namesF x w = 0
  · obtain ⟨y, h1, h2, h3⟩ := (nl_Islands_eq hs hw).1 h0
    have hl := listF_zero h0.1
    have hpl := hl.parts.len
    rw [h3, bnd_some]
    simp only
    rw [show ((0 : Int) != 0) = false from rfl, cnd_f]
    have hperm := islF_perm (x := x) (r := root y) h1.root_le h1.root_root
    have hfl : (islF x (root y)).flatten.length = x.Parts.length := by rw [hperm.length_eq, List.length_map]
    have hc : ∀ xss : List (List ByteArray), slices_Concat_string_string xss = CONCAT (⟨#[]⟩ : ByteArray) xss := fun _ => rfl
    rw [hc, CONCAT_eq _ (by omega), bnd_some]
    have hsort : h_Sort_string (islF x (root y)).flatten = some (x.Parts.map (·.Name)) := by
      unfold h_Sort_string
      rw [sortS_eq hperm fun i j hi hj hij => by
        have hi' : i < x.Parts.length := by simpa using hi
        have hj' : j < x.Parts.length := by simpa using hj
        have := hl.parts.rise i j hi' hj' hij
        simpa using this]
    rw [hsort, bnd_some, List.length_map, show ((x.Parts.length : Int) != (x.Parts.length : Int)) = false by simp, cnd_f,
      forN_any (p := fun _ : Part => false) (r := false) fun j hj => ?_]
    · simp only [List.any_eq_true]
      rw [if_neg (by simp), aft0_fin]
      rw [forN_app (xs := x.Nets) (f := fun n : Net => [n.Name]) 0 (fun j hj l hl' => ?_) (by simp), aft1_fin, List.nil_append, flat_one]
      · have hn0 := namesF_own hl.rise hl.len
        obtain ⟨y2, k1, k2, k3⟩ := (nl_Islands_eq hs (w := x.Nets.map (·.Name)) (by rw [List.length_map]; have := hl.len; omega)).1 ⟨h0.1, hn0⟩
        rw [edgesF_own] at k2
        have hlen := islF_own k1 k2
        rw [k3, bnd_some]
        simp only
        rw [hlen, show ((0 : Int) == 0) = true from rfl, cnd_t, show ((x.Parts.length : Int) == (x.Parts.length : Int)) = true by simp, cnd_t, awake_true]
        rfl
      · unfold law_NetlistIslandsHaveAll_b1
        have hb : l.length ≤ x.Nets.length := by
          rw [flat_one, List.length_map, List.length_take] at hl'
          omega
        have := hl.len
        rw [atI_lt hj, bnd_some, grd_pos (by simp; omega)]
    · unfold law_NetlistIslandsHaveAll_b0
      have hj2 : j < (x.Parts.map (·.Name)).length := by simpa using hj
      rw [atI_lt hj, bnd_some, atI_lt hj2, bnd_some, List.getElem_map, show sNe x.Parts[j].Name x.Parts[j].Name = false by rw [sNe_iff]; simp, cnd_f]
      rfl
  · rw [(nl_Islands_eq hs hw).2 h0, bnd_some]
    simp only
    have hne : (if listF t x ≠ 0 then listF t x else namesF x w) ≠ 0 := by
      split
      · assumption
      · rename_i q
        have q : listF t x = 0 := by simpa using q
        exact fun e => h0 ⟨q, e⟩
    rw [bne_iff_ne.2 hne, cnd_t]
    simp only [List.length_nil]
    rw [show ((((0 : Nat) : Int)) == 0) = true from rfl, cnd_t, awake_true]
    rfl
end Go.Proofs.YtlbndchfmdogeaaDoor.Sym
