/- Plain facts on chapter 2's Findings: all of it; both packages. Conditions: none. -/
import Derived.Test.YtlbndchfmdogeaaDoorNgd
set_option linter.unusedVariables false
set_option linter.unusedSimpArgs false
namespace Go.Proofs.YtlbndchfmdogeaaDoor.Sym
open Go Go.RowKit

theorem hasF_loose {t : List PartType} {x : Netlist} (h : ListOk t x) : ∀ p ∈ looseF t x, hasF t x.Parts p = true := fun p hp => by
  unfold looseF at hp
  obtain ⟨y, hy, hp⟩ := List.mem_flatMap.1 hp
  have hp := (List.mem_filter.1 hp).1
  unfold pinsF' at hp
  obtain ⟨z, hz⟩ := h.parts.type y hy
  simp only [hz] at hp
  obtain ⟨q, hq, rfl⟩ := List.mem_map.1 hp
  unfold hasF
  have hb : byName (fun x : Part => x.Name) x.Parts y.Name = some y := by
    cases hb : byName (fun x : Part => x.Name) x.Parts y.Name with
    | none =>
      have := List.find?_eq_none.1 hb y hy
      simp at this
    | some u =>
      obtain ⟨hu, hn⟩ := byName_mem hb
      obtain ⟨i, hi, rfl⟩ := List.mem_iff_getElem.1 hu
      obtain ⟨j, hj, rfl⟩ := List.mem_iff_getElem.1 hy
      have := h.parts.rise.inj hi hj hn
      subst this; rfl
  simp only [hb, hz, decide_eq_true_eq]
  rcases ixN_cases (fun x : PinType => x.Name) z.Pins q.Name with ⟨h0, _⟩ | ⟨_, h1⟩
  · exact h0
  · have := List.find?_eq_none.1 h1 q hq
    simp at this

theorem nl_net_eq {t : List PartType} {x : Netlist} (ht : TypesOk t) (hp : PartsOk t x.Parts) {i : Nat} (hi : i < x.Nets.length) (hn : ∀ p ∈ x.Nets[i].Pins, hasF t x.Parts p = true) (hl : x.Nets[i].Pins.length ≤ 500) {acc : List Finding} (ha : acc.length ≤ 100000) :
    nl_Findings_b0 t x i acc = some (.go (acc ++ netFd t x x.Nets[i])) := by
  have hlim : lim = 1099511627776 := rfl
  unfold nl_Findings_b0
  rw [atI_lt hi, bnd_some]
  generalize x.Nets[i] = n at hn hl
  obtain ⟨m, h1, hm⟩ := by_loop ht hp hn hl i acc
  rw [h1, aft2_fin]
  have hmany : ∀ k, 1 ≤ k → k ≤ 7 → nl_Findings_2 k m = some ((ofK t x n.Pins k).length : Int) := fun k h1 h2 => many_eq hm (r64_small (by omega) (by omega))
  have hfl : ∀ k, (ofK t x n.Pins k).length ≤ 500 := fun k => Nat.le_trans (List.length_filter_le _ _) hl
  have hfl2 : ∀ ks, (ofKs t x n.Pins ks).length ≤ 500 := fun k => Nat.le_trans (List.length_filter_le _ _) hl
  have hput : ∀ (b : Bool) (k : Int) (pins : List Pin) (l : List Finding), pins.length ≤ 500 → l.length ≤ 100010 → nl_Findings_3 b k pins l n = some (l ++ if b then [⟨k, n.Name, pins⟩] else []) := fun b k pins l h1 h2 => put_find (by omega) (by omega)
  have hr : ∀ k : Int, 1 ≤ k → k ≤ 7 → r64 k := fun k h1 h2 => r64_small (by omega) (by omega)
  simp only [hmany 2 (by omega) (by omega), hmany 5 (by omega) (by omega), hmany 1 (by omega) (by omega), hmany 3 (by omega) (by omega), hmany 6 (by omega) (by omega), hmany 4 (by omega) (by omega), hmany 7 (by omega) (by omega), bnd_some]
  -- the first
  have e1 : (cnd (decide (((ofK t x n.Pins 2).length : Int) > 1)) (bnd (nl_Findings_3 true 1 (ofKs t x n.Pins [2, 5]) acc n) fun r47 => some r47) (cnd (decide (((ofK t x n.Pins 2).length : Int) > 0)) (bnd (nl_Findings_3 (decide (((ofK t x n.Pins 5).length : Int) > 0)) 1 (ofKs t x n.Pins [2, 5]) acc n) fun r54 => some r54) (bnd (nl_Findings_3 false 1 (ofKs t x n.Pins [2, 5]) acc n) fun r56 => some r56))) =
      some (acc ++ if c1F t x n.Pins then [⟨1, n.Name, ofKs t x n.Pins [2, 5]⟩] else []) := by
    simp only [hput _ _ _ _ (hfl2 [2, 5]) (by omega : acc.length ≤ 100010), bnd_some]
    unfold c1F
    rw [show decide (((ofK t x n.Pins 2).length : Int) > 1) = decide ((ofK t x n.Pins 2).length > 1) from lenI _ 1, show decide (((ofK t x n.Pins 2).length : Int) > 0) = decide ((ofK t x n.Pins 2).length > 0) from lenI _ 0, show decide (((ofK t x n.Pins 5).length : Int) > 0) = decide ((ofK t x n.Pins 5).length > 0) from lenI _ 0]
    cases decide ((ofK t x n.Pins 2).length > 1) <;> cases decide ((ofK t x n.Pins 2).length > 0) <;> cases decide ((ofK t x n.Pins 5).length > 0) <;> rfl
  rw [e1, bnd1_some]
  have a1 := ad_len (c1F t x n.Pins) (⟨1, n.Name, ofKs t x n.Pins [2, 5]⟩ : Finding)
  generalize hA : (acc ++ if c1F t x n.Pins then [(⟨1, n.Name, ofKs t x n.Pins [2, 5]⟩ : Finding)] else []) = l1
  have b1 : l1.length ≤ 100001 := by rw [← hA, List.length_append]; omega
  -- the second
  have hsum : w64 (w64 (((ofKs t x n.Pins [2, 5]).length : Int) + ((ofK t x n.Pins 3).length : Int)) + ((ofK t x n.Pins 6).length : Int)) = (((ofKs t x n.Pins [2, 5]).length + (ofK t x n.Pins 3).length + (ofK t x n.Pins 6).length : Nat) : Int) := by
    have q1 := hfl2 [2, 5]
    have q2 := hfl 3
    have q3 := hfl 6
    rw [w64_id (n := ((ofKs t x n.Pins [2, 5]).length : Int) + ((ofK t x n.Pins 3).length : Int)) (by omega) (by omega), w64_id (by omega) (by omega)]
    omega
  have e2 : (cnd (decide (((ofK t x n.Pins 1).length : Int) > 0)) (grd (r64 1) <| opt (tlook m 1) (fun v69 => bnd (nl_Findings_3 ((w64 ((w64 (((ofKs t x n.Pins [2, 5]).length : Int) + ((ofK t x n.Pins 3).length : Int))) + ((ofK t x n.Pins 6).length : Int))) == 0) 2 v69 l1 n) fun r72 => some r72) (bnd (nl_Findings_3 ((w64 ((w64 (((ofKs t x n.Pins [2, 5]).length : Int) + ((ofK t x n.Pins 3).length : Int))) + ((ofK t x n.Pins 6).length : Int))) == 0) 2 [] l1 n) fun r74 => some r74))
      (grd (r64 1) <| opt (tlook m 1) (fun v76 => bnd (nl_Findings_3 false 2 v76 l1 n) fun r79 => some r79) (bnd (nl_Findings_3 false 2 [] l1 n) fun r81 => some r81))) = some (l1 ++ if c2F t x n.Pins then [⟨2, n.Name, ofK t x n.Pins 1⟩] else []) := by
    rw [grd_pos (hr 1 (by omega) (by omega)), grd_pos (hr 1 (by omega) (by omega)), hsum]
    have q : ((((ofKs t x n.Pins [2, 5]).length + (ofK t x n.Pins 3).length + (ofK t x n.Pins 6).length : Nat) : Int) == 0) = decide ((ofKs t x n.Pins [2, 3, 6, 5]).length = 0) := by
      rw [Bool.eq_iff_iff, beq_iff_eq, decide_eq_true_eq, ← drive_len]; omega
    rw [q]
    have o1 := by_opt hm (k := 1) (f := fun v => bnd (nl_Findings_3 (decide ((ofKs t x n.Pins [2, 3, 6, 5]).length = 0)) 2 v l1 n) fun r72 => some r72)
    have o2 := by_opt hm (k := 1) (f := fun v => bnd (nl_Findings_3 false 2 v l1 n) fun r72 => some r72)
    rw [o1, o2, hput _ _ _ _ (hfl 1) (by omega), hput _ _ _ _ (hfl 1) (by omega), bnd_some, bnd_some]
    unfold c2F
    rw [show decide (((ofK t x n.Pins 1).length : Int) > 0) = decide ((ofK t x n.Pins 1).length > 0) from lenI _ 0]
    cases decide ((ofK t x n.Pins 1).length > 0) <;> rfl
  rw [e2, bnd1_some]
  have a2 := ad_len (c2F t x n.Pins) (⟨2, n.Name, ofK t x n.Pins 1⟩ : Finding)
  generalize hB : (l1 ++ if c2F t x n.Pins then [(⟨2, n.Name, ofK t x n.Pins 1⟩ : Finding)] else []) = l2
  have b2 : l2.length ≤ 100002 := by rw [← hB, List.length_append]; omega
  -- the third
  have e3 : (cnd (decide (((ofK t x n.Pins 4).length : Int) > 0)) (grd (r64 4) <| opt (tlook m 4) (fun v92 => bnd (nl_Findings_3 (((ofK t x n.Pins 5).length : Int) == 0) 3 v92 l2 n) fun r95 => some r95) (bnd (nl_Findings_3 (((ofK t x n.Pins 5).length : Int) == 0) 3 [] l2 n) fun r97 => some r97))
      (grd (r64 4) <| opt (tlook m 4) (fun v99 => bnd (nl_Findings_3 false 3 v99 l2 n) fun r102 => some r102) (bnd (nl_Findings_3 false 3 [] l2 n) fun r104 => some r104))) = some (l2 ++ if c3F t x n.Pins then [⟨3, n.Name, ofK t x n.Pins 4⟩] else []) := by
    rw [grd_pos (hr 4 (by omega) (by omega)), grd_pos (hr 4 (by omega) (by omega)), show (((ofK t x n.Pins 5).length : Int) == 0) = decide ((ofK t x n.Pins 5).length = 0) from lenE _ 0]
    have o1 := by_opt hm (k := 4) (f := fun v => bnd (nl_Findings_3 (decide ((ofK t x n.Pins 5).length = 0)) 3 v l2 n) fun r72 => some r72)
    have o2 := by_opt hm (k := 4) (f := fun v => bnd (nl_Findings_3 false 3 v l2 n) fun r72 => some r72)
    rw [o1, o2, hput _ _ _ _ (hfl 4) (by omega), hput _ _ _ _ (hfl 4) (by omega), bnd_some, bnd_some]
    unfold c3F
    rw [show decide (((ofK t x n.Pins 4).length : Int) > 0) = decide ((ofK t x n.Pins 4).length > 0) from lenI _ 0]
    cases decide ((ofK t x n.Pins 4).length > 0) <;> rfl
  rw [e3, bnd1_some]
  have a3 := ad_len (c3F t x n.Pins) (⟨3, n.Name, ofK t x n.Pins 4⟩ : Finding)
  generalize hC : (l2 ++ if c3F t x n.Pins then [(⟨3, n.Name, ofK t x n.Pins 4⟩ : Finding)] else []) = l3
  have b3 : l3.length ≤ 100003 := by rw [← hC, List.length_append]; omega
  -- the fourth
  have e4 : (grd (r64 7) <| opt (tlook m 7) (fun v112 => bnd (nl_Findings_3 (decide (((ofK t x n.Pins 7).length : Int) > 0)) 4 v112 l3 n) fun r115 => some r115) (bnd (nl_Findings_3 (decide (((ofK t x n.Pins 7).length : Int) > 0)) 4 [] l3 n) fun r117 => some r117)) = some (l3 ++ if c4F t x n.Pins then [⟨4, n.Name, ofK t x n.Pins 7⟩] else []) := by
    rw [grd_pos (hr 7 (by omega) (by omega)), show decide (((ofK t x n.Pins 7).length : Int) > 0) = c4F t x n.Pins from lenI _ 0]
    have o1 := by_opt hm (k := 7) (f := fun v => bnd (nl_Findings_3 (c4F t x n.Pins) 4 v l3 n) fun r72 => some r72)
    rw [o1, hput _ _ _ _ (hfl 7) (by omega), bnd_some]
  rw [e4, bnd1_some]
  have a4 := ad_len (c4F t x n.Pins) (⟨4, n.Name, ofK t x n.Pins 7⟩ : Finding)
  generalize hD : (l3 ++ if c4F t x n.Pins then [(⟨4, n.Name, ofK t x n.Pins 7⟩ : Finding)] else []) = l4
  have b4 : l4.length ≤ 100004 := by rw [← hD, List.length_append]; omega
  -- the fifth
  have e5 : (cnd ((n.Pins.length : Int) == 1) (bnd (nl_Findings_3 (((ofK t x n.Pins 7).length : Int) == 0) 5 n.Pins l4 n) fun r126 => some r126) (bnd (nl_Findings_3 false 5 n.Pins l4 n) fun r128 => some r128)) = some (l4 ++ if c5F t x n.Pins then [⟨5, n.Name, n.Pins⟩] else []) := by
    rw [hput _ _ _ _ hl (by omega), hput _ _ _ _ hl (by omega), bnd_some, bnd_some, show (((ofK t x n.Pins 7).length : Int) == 0) = decide ((ofK t x n.Pins 7).length = 0) from lenE _ 0, show ((n.Pins.length : Int) == 1) = decide (n.Pins.length = 1) from lenE _ 1]
    unfold c5F
    cases decide (n.Pins.length = 1) <;> rfl
  rw [e5, bnd1_some]
  unfold netFd
  rw [← hD, ← hC, ← hB, ← hA]
  simp only [List.append_assoc]

def openF (t : List PartType) (x : Netlist) (p : Pin) : List Finding := if kindP t x p ≠ 7 ∧ kindP t x p ≠ 6 then [⟨6, (⟨#[]⟩ : ByteArray), [p]⟩] else []
theorem openF_len (t : List PartType) (x : Netlist) (p : Pin) : (openF t x p).length ≤ 1 := by unfold openF; split <;> simp
def findF (t : List PartType) (x : Netlist) : List Finding := x.Nets.flatMap (netFd t x) ++ (looseF t x).flatMap (openF t x)
theorem open_step {t : List PartType} {x : Netlist} {p : Pin} {acc : List Finding} (ha : acc.length ≤ 1000000) {ρ : Type} :
    (bnd1 (cnd (kindP t x p != 7) (some (kindP t x p != 6)) (some false)) fun v22 => bnd1 (cnd v22 (grd (acc.length + ([(⟨6, (⟨#[]⟩ : ByteArray), [p]⟩ : Finding)]).length ≤ lim) <| some (acc ++ ([(⟨6, (⟨#[]⟩ : ByteArray), [p]⟩ : Finding)]))) (some acc)) fun v27 => some (Stp.go (ρ := ρ) v27)) = some (.go (acc ++ openF t x p)) := by
  have hlim : lim = 1099511627776 := rfl
  have e : cnd (kindP t x p != 7) (some (kindP t x p != 6)) (some false) = some (decide (kindP t x p ≠ 7 ∧ kindP t x p ≠ 6)) := by
    by_cases c7 : kindP t x p = 7
    · rw [c7]; rfl
    · rw [bne_iff_ne.2 c7, cnd_t]
      congr 1
      by_cases c6 : kindP t x p = 6 <;> simp [c6, c7]
  rw [e, bnd1_some]
  unfold openF
  by_cases h : kindP t x p ≠ 7 ∧ kindP t x p ≠ 6
  · rw [decide_eq_true h, cnd_t, grd_pos (by simp; omega), bnd1_some, if_pos h]
  · rw [decide_eq_false h, cnd_f, bnd1_some, if_neg h, List.append_nil]
theorem loose_len {t : List PartType} {x : Netlist} (h : ListOk t x) : (looseF t x).length ≤ 200000 := by
  unfold looseF
  have := flatMap_len (fun p => (pinsF' t p).filter fun q => decide (netIx x q < 0)) 200 (fun p => Nat.le_trans (List.length_filter_le _ _) (pinsF'_len h.types p)) x.Parts
  have h3 := h.parts.len
  have := Nat.mul_le_mul_right 200 h3
  omega
theorem nets_len {t : List PartType} {x : Netlist} (h : ListOk t x) (j : Nat) : ((x.Nets.take j).flatMap (netFd t x)).length ≤ 5000 :=
  Nat.le_trans (flatMap_take_len (netFd t x) 5 1000 (netFd_len t x) h.len j) (by omega)
theorem open_len {t : List PartType} {x : Netlist} (h : ListOk t x) (j : Nat) : (((looseF t x).take j).flatMap (openF t x)).length ≤ 200000 :=
  Nat.le_trans (flatMap_take_len (openF t x) 1 200000 (openF_len t x) (loose_len h) j) (by omega)
theorem nl_Findings_eq {t : List PartType} {x : Netlist} (hs : Small t x) : nl_Findings t x = some (if listF t x = 0 then (findF t x, 0) else ([], listF t x)) := by
  have hlim : lim = 1099511627776 := rfl
  unfold nl_Findings
  rw [nl_list hs, bnd_some]
  by_cases h0 : listF t x = 0
  · have h := listF_zero h0
    rw [h0, show ((0 : Int) != 0) = false from rfl, cnd_f, if_pos rfl, forN_app (xs := x.Nets) (f := netFd t x) 0 (fun j hj l hl => by
      have := nets_len h j
      have hn := h.net j hj
      exact nl_net_eq h.types h.parts hj hn.has hn.len.2 (by omega)) (by simp), aft1_fin, nl_LooseOf_eq h, bnd_some, List.nil_append]
    have hb := nets_len h x.Nets.length
    rw [List.take_of_length_le (Nat.le_refl _)] at hb
    rw [forN_app (xs := looseF t x) (f := openF t x) 5000 (fun j hj l hl => by
      have := open_len h j
      unfold nl_Findings_b2
      rw [atI_lt hj, bnd_some, (kind_both h.types h.parts (hasF_loose h _ (List.getElem_mem hj))).1, bnd_some]
      exact open_step (by omega)) hb, aft1_fin]
    rfl
  · rw [bne_iff_ne.2 h0, cnd_t, if_neg h0]
theorem ref_Findings_eq {t : List PartType} {x : Netlist} (hs : Small t x) : ref_Findings t x = some (if listF t x = 0 then (findF t x, 0) else ([], listF t x)) := by
  have hlim : lim = 1099511627776 := rfl
  unfold ref_Findings
  rw [ref_list hs, bnd_some]
  by_cases h0 : listF t x = 0
  · have h := listF_zero h0
    rw [h0, show ((0 : Int) != 0) = false from rfl, cnd_f, if_pos rfl, forN_app (xs := x.Nets) (f := netFd t x) 0 (fun j hj l hl => by
      have := nets_len h j
      have hn := h.net j hj
      have h5 := netFd_len t x x.Nets[j]
      unfold ref_Findings_b0
      rw [atI_lt hj, bnd_some, ref_netFindings_eq h.types h.parts hn.has hn.len.2, bnd_some, grd_pos (by omega)]) (by simp), aft1_fin, ref_loose_eq h, bnd_some, List.nil_append]
    have hb := nets_len h x.Nets.length
    rw [List.take_of_length_le (Nat.le_refl _)] at hb
    rw [forN_app (xs := looseF t x) (f := openF t x) 5000 (fun j hj l hl => by
      have := open_len h j
      unfold ref_Findings_b1
      rw [atI_lt hj, bnd_some, (kind_both h.types h.parts (hasF_loose h _ (List.getElem_mem hj))).2.1, bnd_some]
      exact open_step (by omega)) hb, aft1_fin]
    rfl
  · rw [bne_iff_ne.2 h0, cnd_t, if_neg h0]
end Go.Proofs.YtlbndchfmdogeaaDoor.Sym
