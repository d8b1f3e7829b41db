/- Plain facts on chapter 2's Changes: both answers are the same list. Conditions: none. -/
import Derived.Test.YtlbndchfmdogeaaDoorNlf
import Derived.Test.YtlbndchfmdogeaaDoorPle
set_option linter.unusedVariables false
set_option linter.unusedSimpArgs false
namespace Go.Proofs.YtlbndchfmdogeaaDoor.Sym
open Go Go.RowKit

theorem ref_list2 {t : List PartType} {x : Netlist} (hs : Small t x) (h : typesF t = 0) : ref_checkList t x = some (listF t x) := by
  have := ref_list hs
  unfold ref_CheckList at this
  rw [ref_types hs.lt hs.ltp, bnd_some, h, show ((0 : Int) != 0) = false from rfl, cnd_f] at this
  revert this
  cases ref_checkList t x with
  | none => intro h; cases h
  | some r => intro h; exact h
def e0 : ByteArray := ⟨#[]⟩
def netNm (x : Netlist) (p : Pin) : ByteArray := match x.Nets.find? (fun n => decide (p ∈ n.Pins)) with
  | some n => n.Name
  | none => e0
def ch1 (a : Netlist) (p : Part) : List ListChange := if ixN (·.Name) a.Parts p.Name < 0 then [⟨1, p.Name, e0⟩] else []
def ch2 (b : Netlist) (p : Part) : List ListChange := if ixN (·.Name) b.Parts p.Name < 0 then [⟨2, p.Name, e0⟩] else []
def ch3 (b : Netlist) (p : Part) : List ListChange := match byName (·.Name) b.Parts p.Name with
  | some q => if q.Type_ = p.Type_ then [] else [⟨3, p.Name, e0⟩]
  | none => []
def chP (a b : Netlist) (q : Pin) : List ListChange := if netNm a q = netNm b q then [] else [⟨4, q.Part, q.Pin⟩]
def ch4 (t : List PartType) (a b : Netlist) (p : Part) : List ListChange := match byName (·.Name) b.Parts p.Name with
  | some q => if q.Type_ = p.Type_ then (pinsF' t p).flatMap (chP a b) else []
  | none => []
theorem ch1_len (a : Netlist) (p : Part) : (ch1 a p).length ≤ 1 := by unfold ch1; split <;> simp
theorem ch2_len (a : Netlist) (p : Part) : (ch2 a p).length ≤ 1 := by unfold ch2; split <;> simp
theorem ch3_len (a : Netlist) (p : Part) : (ch3 a p).length ≤ 1 := by
  unfold ch3; split
  · split <;> simp
  · simp
theorem chP_len (a b : Netlist) (p : Pin) : (chP a b p).length ≤ 1 := by unfold chP; split <;> simp
theorem ch4_len {t : List PartType} (ht : TypesOk t) (a b : Netlist) (p : Part) : (ch4 t a b p).length ≤ 200 := by
  unfold ch4; split
  · split
    · have := flatMap_len (chP a b) 1 (chP_len a b) (pinsF' t p)
      have := pinsF'_len ht p
      omega
    · simp
  · simp
/-- The answer. -/
def chg (t : List PartType) (a b : Netlist) : List ListChange := b.Parts.flatMap (ch1 a) ++ a.Parts.flatMap (ch2 b) ++ a.Parts.flatMap (ch3 b) ++ a.Parts.flatMap (ch4 t a b)

/-! ### Nets' names -/
theorem netIx_cases (x : Netlist) (p : Pin) : (0 ≤ netIx x p ∧ ∃ n, x.Nets.find? (fun n => decide (p ∈ n.Pins)) = some n ∧ atI x.Nets (netIx x p) = some n) ∨ (netIx x p = -1 ∧ x.Nets.find? (fun n => decide (p ∈ n.Pins)) = none) := ix_find
theorem ref_netName_eq (x : Netlist) (p : Pin) : ref_netName x p = some (netNm x p) := by
  unfold ref_netName netNm
  rw [ref_netOf_eq, bnd_some]
  rcases netIx_cases x p with ⟨h0, n, h1, h2⟩ | ⟨h0, h1⟩
  · rw [decide_eq_true (by omega), cnd_t, h2, bnd_some, h1]
  · rw [decide_eq_false (by omega), cnd_f, h1]; rfl
theorem split_e : strings_Split e0 (⟨#[47]⟩ : ByteArray) = some [e0] := by
  have h : loop (fun q : ByteArray × Int × List ByteArray => strings_genSplit_b0 e0 (⟨#[47]⟩ : ByteArray) 0 1 q.1 q.2.1 q.2.2) (e0, (0 : Int), [(⟨#[]⟩ : ByteArray)]) = some (.fin (e0, (0 : Int), [(⟨#[]⟩ : ByteArray)])) := loop_i (n := 1) (by kernel_rfl)
  have e : strings_genSplit e0 (⟨#[47]⟩ : ByteArray) 0 (-1) = aft3 (loop (fun q : ByteArray × Int × List ByteArray => strings_genSplit_b0 e0 (⟨#[47]⟩ : ByteArray) 0 1 q.1 q.2.1 q.2.2) (e0, (0 : Int), [(⟨#[]⟩ : ByteArray)])) (fun u24 u25 u26 =>
      bnd (atI u26 u25) fun x29 =>
      grd ((0 : Int) ≤ 0 ∧ 0 ≤ w64 (u25 + 1) ∧ w64 (u25 + 1) ≤ ((u26.set (Int.toNat u25) u24).length : Int)) <|
      some (((u26.set (Int.toNat u25) u24).take (Int.toNat 0 + ((w64 (u25 + 1)) - 0).toNat)).drop (Int.toNat 0)))
      (fun r28 => some r28) := by kernel_rfl
  unfold strings_Split
  rw [e, h]
  rfl
theorem isP_ne {s : ByteArray} (h : isP s = true) : s ≠ e0 := by
  intro q
  subst q
  have : isP e0 = false := by
    unfold isP wordsOf
    rw [split_e]
    kernel_rfl
  rw [this] at h; cases h
theorem netNm_ne {t : List PartType} {x : Netlist} (h : ListOk t x) {p : Pin} {n : Net} (hn : x.Nets.find? (fun n => decide (p ∈ n.Pins)) = some n) : n.Name ≠ e0 := by
  obtain ⟨i, hi, e⟩ := List.mem_iff_getElem.1 (List.mem_of_find?_eq_some hn)
  have := (h.net i hi).path
  rw [e] at this
  exact isP_ne this

/-! ### The implementation -/
theorem nl_Changes_eq {t : List PartType} {a b : Netlist} (ha : Small t a) (hb : Small t b) : nl_Changes t a b = some (if listF t a ≠ 0 then ([], listF t a) else if listF t b ≠ 0 then ([], listF t b) else (chg t a b, 0)) := by
  have hlim : lim = 1099511627776 := rfl
  unfold nl_Changes nl_checkTwo
  rw [nl_list ha, bnd_some]
  by_cases h1 : listF t a = 0
  · rw [h1, show ((0 : Int) != 0) = false from rfl, cnd_f, nl_list hb, bnd_some, bnd_some, if_neg (fun q => q rfl)]
    by_cases h2 : listF t b = 0
    · rw [h2, show ((0 : Int) != 0) = false from rfl, cnd_f, if_neg (fun q => q rfl)]
      have oka := listF_zero h1
      have okb := listF_zero h2
      obtain ⟨ma, m1, m2⟩ := nl_Nets_eq oka
      obtain ⟨mb, m3, m4⟩ := nl_Nets_eq okb
      have la := oka.parts.len
      have lb := okb.parts.len
      have ta1 := fun j => flatMap_take_len (ch1 a) 1 1000 (ch1_len a) lb j
      have ta2 := fun j => flatMap_take_len (ch2 b) 1 1000 (ch2_len b) la j
      have ta3 := fun j => flatMap_take_len (ch3 b) 1 1000 (ch3_len b) la j
      have ta4 := fun j => flatMap_take_len (ch4 t a b) 200 1000 (ch4_len oka.types a b) la j
      have l1 := flatMap_len (ch1 a) 1 (ch1_len a) b.Parts
      have l2 := flatMap_len (ch2 b) 1 (ch2_len b) a.Parts
      have l3 := flatMap_len (ch3 b) 1 (ch3_len b) a.Parts
      have l4 := flatMap_len (ch4 t a b) 200 (ch4_len oka.types a b) a.Parts
      rw [m1, bnd_some, m3, bnd_some]
      rw [forN_app (xs := b.Parts) (f := ch1 a) 0 (fun j hj l hl => by
        have := ta1 j
        unfold nl_Changes_b0
        rw [atI_lt hj, bnd_some, nl_part_at oka.parts.rise oka.parts.len', bnd_some]
        unfold ch1 nl_Changes_1
        by_cases q : ixN (fun x : Part => x.Name) a.Parts b.Parts[j].Name < 0
        · rw [if_pos q, decide_eq_true q, cnd_t, grd_pos (by simp; omega), bnd_some, bnd1_some]; rfl
        · rw [if_neg q, decide_eq_false q, cnd_f, bnd1_some, List.append_nil]) (by simp), aft1_fin, List.nil_append]
      rw [forN_app (xs := a.Parts) (f := ch2 b) 1000 (fun j hj l hl => by
        have := ta2 j
        unfold nl_Changes_b1
        rw [atI_lt hj, bnd_some, nl_part_at okb.parts.rise okb.parts.len', bnd_some]
        unfold ch2 nl_Changes_1
        by_cases q : ixN (fun x : Part => x.Name) b.Parts a.Parts[j].Name < 0
        · rw [if_pos q, decide_eq_true q, cnd_t, grd_pos (by simp; omega), bnd_some, bnd1_some]; rfl
        · rw [if_neg q, decide_eq_false q, cnd_f, bnd1_some, List.append_nil]) (by omega), aft1_fin]
      rw [forN_app2 (xs := a.Parts) (f := ch4 t a b) (g := ch3 b) 0 2000 (fun j hj l m hl hm => by
        have := ta3 j
        have := ta4 j
        unfold nl_Changes_b2
        simp only
        rw [atI_lt hj, bnd_some, nl_part_at okb.parts.rise okb.parts.len', bnd_some]
        unfold ch3 ch4 nl_Changes_1
        rcases ixN_cases (fun x : Part => x.Name) b.Parts a.Parts[j].Name with ⟨h0, z, q1, q2⟩ | ⟨h0, q1⟩
        · rw [decide_eq_false (by omega), cnd_f, q2, bnd_some, sNe_iff]
          simp only [q1]
          by_cases q3 : z.Type_ = a.Parts[j].Type_
          · rw [if_pos q3, if_pos q3, decide_eq_false (fun q => q q3), cnd_f, nl_pinsOf_eq oka.types (oka.parts.type _ (List.getElem_mem hj)), bnd_some]
            have hpl := pinsF'_len oka.types a.Parts[j]
            rw [forN_app (xs := pinsF' t a.Parts[j]) (f := chP a b) 200000 (fun k hk l' hl' => by
              have := flatMap_take_len (chP a b) 1 200 (chP_len a b) hpl k
              unfold nl_Changes_b3
              rw [atI_lt hk, bnd_some, m2, m4]
              generalize hq : (pinsF' t a.Parts[j])[k] = q
              unfold chP netNm
              rcases netIx_cases a q with ⟨c0, n1, c1, c2⟩ | ⟨c0, c1⟩ <;> rcases netIx_cases b q with ⟨d0, n2, d1, d2⟩ | ⟨d0, d1⟩
              · rw [if_pos c0, if_pos d0, opt_some, opt_some, bnd2_some, bnd2_some]
                simp only [BEq.rfl, Bool.not_true, cnd_f, cnd_t, c2, d2, bnd_some, bnd1_some, c1, d1, sNe_iff]
                by_cases q4 : n1.Name = n2.Name
                · rw [decide_eq_false (fun z => z q4), cnd_f, bnd1_some, if_pos q4, List.append_nil]
                · rw [decide_eq_true q4, cnd_t, grd_pos (by simp; omega), bnd1_some, if_neg q4]
              · have hne := netNm_ne oka c1
                rw [if_pos c0, if_neg (by omega), opt_some, opt_none, bnd2_some, bnd2_some]
                simp only [c1, d1]
                rw [show (!(true == false)) = true from rfl, cnd_t, bnd1_some, cnd_t, grd_pos (by simp; omega), bnd1_some, if_neg hne]
              · have hne := netNm_ne okb d1
                rw [if_neg (by omega), if_pos d0, opt_some, opt_none, bnd2_some, bnd2_some]
                simp only [c1, d1]
                rw [show (!(false == true)) = true from rfl, cnd_t, bnd1_some, cnd_t, grd_pos (by simp; omega), bnd1_some, if_neg (fun q => hne q.symm)]
              · rw [if_neg (by omega), if_neg (by omega), opt_none, bnd2_some, bnd2_some]
                simp only [c1, d1]
                rw [show (!(false == false)) = false from rfl, cnd_f, cnd_f, bnd1_some, cnd_f, bnd1_some, if_pos trivial, List.append_nil]) (by omega), aft1_fin, List.append_nil]
          · rw [if_neg q3, if_neg q3, decide_eq_true q3, cnd_t, grd_pos (by simp; omega), bnd_some, List.append_nil]; rfl
        · rw [decide_eq_true (by omega), cnd_t]
          simp only [q1, List.append_nil]) (by simp) (by rw [List.length_append]; omega), aft2_fin, List.nil_append]
      rw [grd_pos (by simp only [List.length_append]; omega)]
      rfl
    · rw [bne_iff_ne.2 h2, cnd_t, if_pos h2]
  · rw [bne_iff_ne.2 h1, cnd_t, bnd_some, bne_iff_ne.2 h1, cnd_t, if_pos h1]

/-! ### The reference -/
theorem ref_Changes_eq {t : List PartType} {a b : Netlist} (ha : Small t a) (hb : Small t b) : ref_Changes t a b = some (if listF t a ≠ 0 then ([], listF t a) else if listF t b ≠ 0 then ([], listF t b) else (chg t a b, 0)) := by
  have hlim : lim = 1099511627776 := rfl
  unfold ref_Changes
  rw [ref_list ha, bnd_some]
  by_cases h1 : listF t a = 0
  · have oka := listF_zero h1
    have hty : typesF t = 0 := by
      unfold listF at h1
      split at h1
      · rename_i q; exact (q h1).elim
      · rename_i q; exact Classical.byContradiction q
    rw [h1, show ((0 : Int) != 0) = false from rfl, cnd_f, ref_list2 hb hty, bnd_some, if_neg (fun q => q rfl)]
    by_cases h2 : listF t b = 0
    · rw [h2, show ((0 : Int) != 0) = false from rfl, cnd_f, if_neg (fun q => q rfl)]
      have okb := listF_zero h2
      have la := oka.parts.len
      have lb := okb.parts.len
      have ta1 := fun j => flatMap_take_len (ch1 a) 1 1000 (ch1_len a) lb j
      have ta2 := fun j => flatMap_take_len (ch2 b) 1 1000 (ch2_len b) la j
      have ta3 := fun j => flatMap_take_len (ch3 b) 1 1000 (ch3_len b) la j
      have ta4 := fun j => flatMap_take_len (ch4 t a b) 200 1000 (ch4_len oka.types a b) la j
      have l1 := flatMap_len (ch1 a) 1 (ch1_len a) b.Parts
      have l2 := flatMap_len (ch2 b) 1 (ch2_len b) a.Parts
      have l3 := flatMap_len (ch3 b) 1 (ch3_len b) a.Parts
      have l4 := flatMap_len (ch4 t a b) 200 (ch4_len oka.types a b) a.Parts
      rw [forN_app (xs := b.Parts) (f := ch1 a) 0 (fun j hj l hl => by
        have := ta1 j
        unfold ref_Changes_b0
        rw [atI_lt hj, bnd_some, ref_part_of, bnd_some]
        unfold ch1
        by_cases q : ixN (fun x : Part => x.Name) a.Parts b.Parts[j].Name < 0
        · rw [if_pos q, decide_eq_true q, cnd_t, grd_pos (by simp; omega), bnd1_some]; rfl
        · rw [if_neg q, decide_eq_false q, cnd_f, bnd1_some, List.append_nil]) (by simp), aft1_fin, List.nil_append]
      rw [forN_app3 (xs := a.Parts) (f := ch2 b) (g := ch3 b) (k := ch4 t a b) (fun j hj l m n hl hm hn => by
        have := ta2 j
        have := ta3 j
        have := ta4 j
        unfold ref_Changes_b1
        simp only
        rw [atI_lt hj, bnd_some, ref_part_of, bnd_some]
        unfold ch2 ch3 ch4
        rcases ixN_cases (fun x : Part => x.Name) b.Parts a.Parts[j].Name with ⟨h0, z, q1, q2⟩ | ⟨h0, q1⟩
        · rw [decide_eq_false (by omega), cnd_f, q2, bnd_some, sNe_iff, if_neg (by omega), List.append_nil]
          simp only [q1]
          by_cases q3 : z.Type_ = a.Parts[j].Type_
          · rw [if_pos q3, if_pos q3, decide_eq_false (fun q => q q3), cnd_f, ref_type_of, bnd_some, List.append_nil]
            obtain ⟨y, hy⟩ := oka.parts.type _ (List.getElem_mem hj)
            rcases ixN_cases (fun x : PartType => x.Name) t a.Parts[j].Type_ with ⟨c0, y', c1, c2⟩ | ⟨_, c1⟩
            · have hpl := (oka.types.plen y' (byName_mem c1).1).2
              rw [c2, bnd_some, forN_app (xs := y'.Pins) (f := fun q => chP a b ⟨a.Parts[j].Name, q.Name⟩) 200000 (fun k hk l' hl' => by
                have := flatMap_take_len (fun q : PinType => chP a b ⟨a.Parts[j].Name, q.Name⟩) 1 200 (fun q => chP_len a b _) hpl k
                unfold ref_Changes_b2
                rw [atI_lt hk, bnd_some, ref_netName_eq, bnd_some, ref_netName_eq, bnd_some, sNe_iff]
                unfold chP
                by_cases q4 : netNm a ⟨a.Parts[j].Name, y'.Pins[k].Name⟩ = netNm b ⟨a.Parts[j].Name, y'.Pins[k].Name⟩
                · rw [decide_eq_false (fun z => z q4), cnd_f, bnd1_some, if_pos q4, List.append_nil]
                · rw [decide_eq_true q4, cnd_t, grd_pos (by simp; omega), bnd1_some, if_neg q4]) (by omega), aft1_fin]
              unfold pinsF'
              simp only [c1, List.flatMap_map]
            · rw [hy] at c1; cases c1
          · rw [if_neg q3, if_neg q3, decide_eq_true q3, cnd_t, grd_pos (by simp; omega), List.append_nil]; rfl
        · rw [decide_eq_true (by omega), cnd_t, if_pos (by omega), grd_pos (by simp; omega)]
          simp only [q1, List.append_nil]; rfl), aft3_fin]
      have hc : ∀ xss : List (List ListChange), slices_Concat_api_ListChange_api_ListChange xss = CONCAT (⟨0, (⟨#[]⟩ : ByteArray), (⟨#[]⟩ : ByteArray)⟩ : ListChange) xss := fun _ => rfl
      rw [hc, CONCAT_eq _ (by simp only [List.flatten_cons, List.flatten_nil, List.length_append, List.length_nil]; omega), bnd_some]
      unfold chg
      simp
    · rw [bne_iff_ne.2 h2, cnd_t, if_pos h2]
  · rw [bne_iff_ne.2 h1, cnd_t, if_pos h1]

theorem equal_changes (l : List ListChange) : slices_Equal_api_ListChange_api_ListChange l l = some true := by
  unfold slices_Equal_api_ListChange_api_ListChange
  rw [show ((l.length : Int) != (l.length : Int)) = false by simp, cnd_f, forN_any (p := fun _ : ListChange => false) (r := false) fun j hj => ?_]
  · simp [aft0_fin]
  · unfold slices_Equal_api_ListChange_api_ListChange_b0
    rw [atI_lt hj, bnd_some, bnd_some]
    simp only [sEq_iff, decide_true, BEq.rfl, Bool.and_true, Bool.not_true, cnd_f]
    rfl
/-- A list does not differ from itself. -/
theorem chg_self {t : List PartType} {a : Netlist} (h : ListOk t a) : chg t a a = [] := by
  have key : ∀ p ∈ a.Parts, ∃ z, byName (·.Name) a.Parts p.Name = some z ∧ 0 ≤ ixN (·.Name) a.Parts p.Name := fun p hp => by
    rcases ixN_cases (fun x : Part => x.Name) a.Parts p.Name with ⟨h0, z, q1, _⟩ | ⟨_, q1⟩
    · exact ⟨z, q1, h0⟩
    · have := List.find?_eq_none.1 q1 p hp
      simp at this
  unfold chg
  have e1 : a.Parts.flatMap (ch1 a) = [] := List.flatMap_eq_nil_iff.2 fun p hp => by
    obtain ⟨z, _, h0⟩ := key p hp
    unfold ch1; rw [if_neg (by omega)]
  have e2 : a.Parts.flatMap (ch2 a) = [] := List.flatMap_eq_nil_iff.2 fun p hp => by
    obtain ⟨z, _, h0⟩ := key p hp
    unfold ch2; rw [if_neg (by omega)]
  have e4 : a.Parts.flatMap (ch4 t a a) = [] := List.flatMap_eq_nil_iff.2 fun p hp => by
    unfold ch4
    split
    · split
      · exact List.flatMap_eq_nil_iff.2 fun q _ => by unfold chP; rw [if_pos rfl]
      · rfl
    · rfl
  have e3 : a.Parts.flatMap (ch3 a) = [] := List.flatMap_eq_nil_iff.2 fun p hp => by
    obtain ⟨z, h1, _⟩ := key p hp
    have hz : z = p := by
      obtain ⟨i, hi, rfl⟩ := List.mem_iff_getElem.1 hp
      obtain ⟨j, hj, rfl⟩ := List.mem_iff_getElem.1 (byName_mem h1).1
      have hn : a.Parts[j].Name = a.Parts[i].Name := (byName_mem h1).2
      have := h.parts.rise.inj hj hi hn
      subst this; rfl
    unfold ch3
    simp only [h1]
    rw [if_pos (by rw [hz])]
  rw [e1, e2, e3, e4]; rfl
end Go.Proofs.YtlbndchfmdogeaaDoor.Sym
