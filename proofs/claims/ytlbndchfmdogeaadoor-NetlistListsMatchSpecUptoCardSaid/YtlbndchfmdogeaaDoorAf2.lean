/- Printed by gen2.py: the plain forms of functions, and that calling them gives what these give. Conditions: none. -/
import Derived.Test.YtlbndchfmdogeaaDoorAf1
set_option linter.unusedVariables false
set_option maxHeartbeats 4000000
namespace Go.Proofs.YtlbndchfmdogeaaDoor.Sym
open Go Go.RowKit
noncomputable def ref_checkList_c : Code := (Go.Proofs.Tryd.f53.body).getD .skip
theorem ref_checkList_fn : FnOk PG 53 ref_checkList_c 132 [.tmp 4] := ⟨⟨Go.Proofs.Tryd.f53, by kernel_rfl, by kernel_rfl, by kernel_rfl, by kernel_rfl, by kernel_rfl⟩⟩
noncomputable def ref_checkList_c0 : Code := cL (cL (cR (cL (cR (cR ref_checkList_c)))))
noncomputable def ref_checkList_R (r : Int) : Oc := .ret [(4, iA r)] []
noncomputable def ref_checkList_F0 (a0 : List PartType) (a1 : Netlist) (i2 : Nat) : Fr := [(0, lA 2 (List.map e_PartType a0)), (3, .t (.v (.ptr 0 0))), (16, lA 2 (List.map e_Part a1.Parts)), (17, iA (a1.Parts.length : Int)), (18, iA (i2 : Int))]
noncomputable def ref_checkList_H0 (a0 : List PartType) (a1 : Netlist) (i2 : Nat) : Hp := [(0, .cells 26 [.c (.sl 2 (List.map e_Part a1.Parts)), .c (.sl 3 (List.map e_Net a1.Nets))])]
noncomputable def ref_checkList_B0 (a0 : List PartType) (a1 : Netlist) (s : Unit) : Oc := .ex 0 [(0, lA 2 (List.map e_PartType a0)), (3, .t (.v (.ptr 0 0)))] [(0, .cells 26 [.c (.sl 2 (List.map e_Part a1.Parts)), .c (.sl 3 (List.map e_Net a1.Nets))])]
noncomputable def ref_checkList_b0 (a0 : List PartType) (a1 : Netlist) (i2 : Nat) : Option (Stp Unit Int) :=
 bnd (atI a1.Parts (i2 : Int)) fun x3 =>
 bnd (ref_IsPath x3.Name) fun r5 =>
 cnd (!r5) (some (.ret 5)) (bnd (ref_typeOf a0 x3.Type_) fun r8 =>
 cnd (decide (r8 < 0)) (some (.ret 9)) (bnd1 (cnd (decide ((i2 : Int) > 0)) (bnd (atI a1.Parts (w64 ((i2 : Int) - 1))) fun x15 =>
 some (sLe x3.Name x15.Name)) (some false)) fun v11 =>
 cnd v11 (some (.ret 8)) (some (.go ()))))
theorem ref_checkList_b0_r (a0 : List PartType) (a1 : Netlist) (i2 : Nat) (o : Stp Unit Int) (hi : i2 < a1.Parts.length) (h : ref_checkList_b0 a0 a1 i2 = some o) :
    Runs PG 132 0 ref_checkList_c0 (ref_checkList_F0 a0 a1 i2 ) (ref_checkList_H0 a0 a1 i2 ) (stpOc (fun s' => .nor (ref_checkList_F0 a0 a1 (i2 + 1) ) (ref_checkList_H0 a0 a1 (i2 + 1) )) (ref_checkList_B0 a0 a1) ref_checkList_R o) := by
  unfold ref_checkList_b0 at h
  refine Runs.len (s := 16) (sz := 2) (xs := List.map e_Part a1.Parts) (by kernel_rfl) fun hl => ?_
  have hM : a1.Parts.length ≤ lim := len_of hl
  obtain ⟨x3, h4, h⟩ := bnd_e h
  obtain ⟨r5, h6, h⟩ := bnd_e h
  rcases cnd_e h with ⟨h7, h⟩ | ⟨h7, h⟩
  · have h := Option.some.inj h
    subst h
    exact Runs.path XTok PGmix [.r [], .b true, .r [.el (e_Part x3), .id 1], .r [.val (bA r5)], .b true, .r []] [] (an (lt_true hi) (an (idx_ok e_Part h4) (an (ref_IsPath_ok x3.Name r5 h6) h7))) (by kernel_rfl)
  · obtain ⟨r8, h9, h⟩ := bnd_e h
    rcases cnd_e h with ⟨h10, h⟩ | ⟨h10, h⟩
    · have h := Option.some.inj h
      subst h
      exact Runs.path XTok PGmix [.r [], .b true, .r [.el (e_Part x3), .id 1], .r [.val (bA r5)], .b false, .r [.val (iA r8)], .b true, .r []] [] (an (lt_true hi) (an (idx_ok e_Part h4) (an (ref_IsPath_ok x3.Name r5 h6) (an h7 (an (ref_typeOf_ok a0 x3.Type_ r8 h9) h10))))) (by kernel_rfl)
    · obtain ⟨v11, h12, h⟩ := bnd1_e h
      let q17_f : Fr := [(0, lA 2 (List.map e_PartType a0)), (3, .t (.v (.ptr 0 0))), (5, iA (i2 : Int)), (6, .t (.v (.ptr 1 0))), (16, lA 2 (List.map e_Part a1.Parts)), (17, iA (a1.Parts.length : Int)), (18, iA (i2 : Int))]
      let q17_g : Hp := [(0, .cells 26 [.c (.sl 2 (List.map e_Part a1.Parts)), .c (.sl 3 (List.map e_Net a1.Nets))]), (1, .cells 73 [.c (sC x3.Name), .c (sC x3.Type_)])]
      let q17_f' : Fr := [(0, lA 2 (List.map e_PartType a0)), (3, .t (.v (.ptr 0 0))), (16, lA 2 (List.map e_Part a1.Parts)), (17, iA (a1.Parts.length : Int)), (18, iA (i2 : Int)), (34, bA v11)]
      let q17_g' : Hp := [(0, .cells 26 [.c (.sl 2 (List.map e_Part a1.Parts)), .c (.sl 3 (List.map e_Net a1.Nets))])]
      have R13 : Runs PG 132 0 (cL (cR (cR (cR (cR (cL (cR (cL (cL (cR (cR ref_checkList_c0))))))))))) q17_f q17_g (.nor q17_f' q17_g') := by
        rcases cnd_e h12 with ⟨h14, h12⟩ | ⟨h14, h12⟩
        · obtain ⟨x15, h16, h12⟩ := bnd_e h12
          have h12 := Option.some.inj h12
          subst h12
          exact Runs.path XTok PGmix [.d [([], []), ([], []), ([], []), ([], [.b true]), ([1], [.b true]), ([], [.b true]), ([0], [.b true]), ([], [.b true]), ([], [.b true]), ([], [.b true, .el (e_Part x15)]), ([], [.b true]), ([], [.b true]), ([], [.b true]), ([], [.b true]), ([], [])]] [] (an h14 (an h14 (an h14 (an h14 (an h14 (an h14 (an h14 (an (idx_ok e_Part h16) (an h14 (an h14 (an h14 h14))))))))))) (by kernel_rfl)
        · have h12 := Option.some.inj h12
          subst h12
          exact Runs.path XTok PGmix [.d [([], []), ([], []), ([], []), ([], [.b false]), ([], [.b false]), ([], [.b false]), ([], [.b false]), ([], [.b false]), ([], [.b false]), ([], [.b false]), ([], [.b false]), ([], [.b false]), ([], [.b false]), ([], [.b false]), ([], [])]] [] (an h14 (an h14 (an h14 (an h14 (an h14 (an h14 (an h14 (an h14 (an h14 (an h14 h14)))))))))) (by kernel_rfl)
      rcases cnd_e h with ⟨h18, h⟩ | ⟨h18, h⟩
      · have h := Option.some.inj h
        subst h
        exact Runs.path XTok PGmix [.r [], .b true, .r [.el (e_Part x3), .id 1], .r [.val (bA r5)], .b false, .r [.val (iA r8)], .b false, .s q17_f q17_g [] (.nor q17_f' q17_g'), .b true, .r []] [] (an (lt_true hi) (an (idx_ok e_Part h4) (an (ref_IsPath_ok x3.Name r5 h6) (an h7 (an (ref_typeOf_ok a0 x3.Type_ r8 h9) (an h10 (an R13 h18))))))) (by kernel_rfl)
      · have h := Option.some.inj h
        subst h
        exact Runs.path XTok PGmix [.r [], .b true, .r [.el (e_Part x3), .id 1], .r [.val (bA r5)], .b false, .r [.val (iA r8)], .b false, .s q17_f q17_g [] (.nor q17_f' q17_g'), .b false, .r [.eq 49 (iA ((i2 + 1 : Nat) : Int))]] [] (an (lt_true hi) (an (idx_ok e_Part h4) (an (ref_IsPath_ok x3.Name r5 h6) (an h7 (an (ref_typeOf_ok a0 x3.Type_ r8 h9) (an h10 (an R13 (an h18 (wrap_eq hi hM))))))))) (by kernel_rfl)
theorem ref_checkList_b0_e (a0 : List PartType) (a1 : Netlist) : Runs PG 132 0 ref_checkList_c0 (ref_checkList_F0 a0 a1 (a1.Parts.length) ) (ref_checkList_H0 a0 a1 (a1.Parts.length) ) (ref_checkList_B0 a0 a1 ()) := by
  exact Runs.path XTok PGmix [.r [], .b false] [] (lt_false (a1.Parts.length)) (by kernel_rfl)
theorem ref_checkList_l0 (a0 : List PartType) (a1 : Netlist) (r : Fin' Unit Int) (h : forN (fun i2 s => ref_checkList_b0 a0 a1 i2 ) (a1.Parts.length) 0 () = some r) : Runs PG 132 0 (cL (cR (cL (cR (cR ref_checkList_c))))) (ref_checkList_F0 a0 a1 0 ) (ref_checkList_H0 a0 a1 0 ) (finOc (ref_checkList_B0 a0 a1) ref_checkList_R r) :=
  Runs.loop' (by kernel_rfl) (forN_rounds (σ := Unit) (ρ := Int) (body := fun i2 s => ref_checkList_b0 a0 a1 i2 ) (F := fun i2 s => ref_checkList_F0 a0 a1 i2 ) (H := fun i2 s => ref_checkList_H0 a0 a1 i2 ) (B := ref_checkList_B0 a0 a1) (R := ref_checkList_R) (M := a1.Parts.length) (fun _ => rfl) (fun _ => rfl) (fun s => ref_checkList_b0_e a0 a1 ) (fun i s o hi h => ref_checkList_b0_r a0 a1 i o hi h) _ 0 _ r (Nat.zero_add _) h)
noncomputable def ref_checkList_c1 : Code := cL (cL (cR (cL (cR (cR (cR (cR ref_checkList_c)))))))
noncomputable def ref_checkList_c2 : Code := cL (cL (cR (cL (cR (cR (cL (cL (cR (cR ref_checkList_c1)))))))))
noncomputable def ref_checkList_F2 (a0 : List PartType) (a1 : Netlist) (i22 : Nat) (x23 : Net) (i30 : Nat) : Fr := [(0, lA 2 (List.map e_PartType a0)), (3, .t (.v (.ptr 0 0))), (7, iA (i22 : Int)), (8, .t (.v (.ptr 1 0))), (55, lA 3 (List.map e_Net a1.Nets)), (56, iA (a1.Nets.length : Int)), (57, iA (i22 : Int)), (78, lA 2 (List.map e_Pin x23.Pins)), (79, iA (x23.Pins.length : Int)), (80, iA (i30 : Int))]
noncomputable def ref_checkList_H2 (a0 : List PartType) (a1 : Netlist) (i22 : Nat) (x23 : Net) (i30 : Nat) : Hp := [(0, .cells 26 [.c (.sl 2 (List.map e_Part a1.Parts)), .c (.sl 3 (List.map e_Net a1.Nets))]), (1, .cells 64 [.c (sC x23.Name), .c (.sl 2 (List.map e_Pin x23.Pins)), .c (.sl 1 (List.map e_str x23.Ports))])]
noncomputable def ref_checkList_B2 (a0 : List PartType) (a1 : Netlist) (i22 : Nat) (x23 : Net) (s : Unit) : Oc := .ex 6 [(0, lA 2 (List.map e_PartType a0)), (3, .t (.v (.ptr 0 0))), (7, iA (i22 : Int)), (8, .t (.v (.ptr 1 0))), (55, lA 3 (List.map e_Net a1.Nets)), (56, iA (a1.Nets.length : Int)), (57, iA (i22 : Int))] [(0, .cells 26 [.c (.sl 2 (List.map e_Part a1.Parts)), .c (.sl 3 (List.map e_Net a1.Nets))]), (1, .cells 64 [.c (sC x23.Name), .c (.sl 2 (List.map e_Pin x23.Pins)), .c (.sl 1 (List.map e_str x23.Ports))])]
noncomputable def ref_checkList_b2 (a0 : List PartType) (a1 : Netlist) (i22 : Nat) (x23 : Net) (i30 : Nat) : Option (Stp Unit Int) :=
 bnd (atI x23.Pins (i30 : Int)) fun x31 =>
 bnd (ref_HasPin a0 a1 x31) fun r33 =>
 cnd (!r33) (some (.ret 9)) (bnd1 (cnd (decide ((i30 : Int) > 0)) (bnd (atI x23.Pins (w64 ((i30 : Int) - 1))) fun x40 =>
 bnd (ref_before x40 x31) fun r42 =>
 some (!r42)) (some false)) fun v36 =>
 cnd v36 (some (.ret 8)) (grd ((0 : Int) ≤ 0 ∧ 0 ≤ (i22 : Int) ∧ (i22 : Int) ≤ (a1.Nets.length : Int)) <|
 bnd (ref_inNets ((a1.Nets.take (Int.toNat (i22 : Int))).drop (Int.toNat 0)) x31) fun r47 =>
 cnd r47 (some (.ret 7)) (some (.go ()))))
theorem ref_checkList_b2_r (a0 : List PartType) (a1 : Netlist) (i22 : Nat) (x23 : Net) (i30 : Nat) (o : Stp Unit Int) (hi : i30 < x23.Pins.length) (h : ref_checkList_b2 a0 a1 i22 x23 i30 = some o) :
    Runs PG 132 0 ref_checkList_c2 (ref_checkList_F2 a0 a1 i22 x23 i30 ) (ref_checkList_H2 a0 a1 i22 x23 i30 ) (stpOc (fun s' => .nor (ref_checkList_F2 a0 a1 i22 x23 (i30 + 1) ) (ref_checkList_H2 a0 a1 i22 x23 (i30 + 1) )) (ref_checkList_B2 a0 a1 i22 x23) ref_checkList_R o) := by
  unfold ref_checkList_b2 at h
  refine Runs.len (s := 78) (sz := 2) (xs := List.map e_Pin x23.Pins) (by kernel_rfl) fun hl => ?_
  have hM : x23.Pins.length ≤ lim := len_of hl
  obtain ⟨x31, h32, h⟩ := bnd_e h
  obtain ⟨r33, h34, h⟩ := bnd_e h
  rcases cnd_e h with ⟨h35, h⟩ | ⟨h35, h⟩
  · have h := Option.some.inj h
    subst h
    exact Runs.path XTok PGmix [.r [], .b true, .r [.el (e_Pin x31), .id 2], .r [.val (bA r33)], .b true, .r []] [] (an (lt_true hi) (an (idx_ok e_Pin h32) (an (ref_HasPin_ok a0 a1 x31 r33 h34) h35))) (by kernel_rfl)
  · obtain ⟨v36, h37, h⟩ := bnd1_e h
    let q44_f : Fr := [(0, lA 2 (List.map e_PartType a0)), (3, .t (.v (.ptr 0 0))), (7, iA (i22 : Int)), (8, .t (.v (.ptr 1 0))), (9, iA (i30 : Int)), (10, .t (.v (.ptr 2 0))), (55, lA 3 (List.map e_Net a1.Nets)), (56, iA (a1.Nets.length : Int)), (57, iA (i22 : Int)), (78, lA 2 (List.map e_Pin x23.Pins)), (79, iA (x23.Pins.length : Int)), (80, iA (i30 : Int))]
    let q44_g : Hp := [(0, .cells 26 [.c (.sl 2 (List.map e_Part a1.Parts)), .c (.sl 3 (List.map e_Net a1.Nets))]), (1, .cells 64 [.c (sC x23.Name), .c (.sl 2 (List.map e_Pin x23.Pins)), .c (.sl 1 (List.map e_str x23.Ports))]), (2, .cells 28 [.c (sC x31.Part), .c (sC x31.Pin)])]
    let q44_f' : Fr := [(0, lA 2 (List.map e_PartType a0)), (3, .t (.v (.ptr 0 0))), (7, iA (i22 : Int)), (8, .t (.v (.ptr 1 0))), (10, .t (.v (.ptr 2 0))), (55, lA 3 (List.map e_Net a1.Nets)), (56, iA (a1.Nets.length : Int)), (57, iA (i22 : Int)), (78, lA 2 (List.map e_Pin x23.Pins)), (79, iA (x23.Pins.length : Int)), (80, iA (i30 : Int)), (91, bA v36)]
    let q44_g' : Hp := [(0, .cells 26 [.c (.sl 2 (List.map e_Part a1.Parts)), .c (.sl 3 (List.map e_Net a1.Nets))]), (1, .cells 64 [.c (sC x23.Name), .c (.sl 2 (List.map e_Pin x23.Pins)), .c (.sl 1 (List.map e_str x23.Ports))]), (2, .cells 28 [.c (sC x31.Part), .c (sC x31.Pin)])]
    have R38 : Runs PG 132 0 (cL (cR (cR (cL (cR (cL (cL (cR (cR ref_checkList_c2))))))))) q44_f q44_g (.nor q44_f' q44_g') := by
      rcases cnd_e h37 with ⟨h39, h37⟩ | ⟨h39, h37⟩
      · obtain ⟨x40, h41, h37⟩ := bnd_e h37
        obtain ⟨r42, h43, h37⟩ := bnd_e h37
        have h37 := Option.some.inj h37
        subst h37
        exact Runs.path XTok PGmix [.d [([], []), ([], []), ([], []), ([], [.b true]), ([1], [.b true]), ([], [.b true]), ([], [.b true]), ([], [.b true, .el (e_Pin x40)]), ([], [.b true]), ([2], [.b true]), ([], [.b true, .val (bA r42)]), ([], [.b true]), ([], [.b true]), ([], [])]] [] (an h39 (an h39 (an h39 (an h39 (an h39 (an (idx_ok e_Pin h41) (an h39 (an h39 (an h39 (an (ref_before_ok x40 x31 r42 h43) (an h39 h39))))))))))) (by kernel_rfl)
      · have h37 := Option.some.inj h37
        subst h37
        exact Runs.path XTok PGmix [.d [([], []), ([], []), ([], []), ([], [.b false]), ([], [.b false]), ([], [.b false]), ([], [.b false]), ([], [.b false]), ([], [.b false]), ([], [.b false]), ([], [.b false]), ([], [.b false]), ([], [.b false]), ([], [])]] [] (an h39 (an h39 (an h39 (an h39 (an h39 (an h39 (an h39 (an h39 (an h39 h39))))))))) (by kernel_rfl)
    rcases cnd_e h with ⟨h45, h⟩ | ⟨h45, h⟩
    · have h := Option.some.inj h
      subst h
      exact Runs.path XTok PGmix [.r [], .b true, .r [.el (e_Pin x31), .id 2], .r [.val (bA r33)], .b false, .s q44_f q44_g [] (.nor q44_f' q44_g'), .b true, .r []] [] (an (lt_true hi) (an (idx_ok e_Pin h32) (an (ref_HasPin_ok a0 a1 x31 r33 h34) (an h35 (an R38 h45))))) (by kernel_rfl)
    · obtain ⟨h46, h⟩ := grd_e h
      obtain ⟨r47, h48, h⟩ := bnd_e h
      rcases cnd_e h with ⟨h49, h⟩ | ⟨h49, h⟩
      · have h := Option.some.inj h
        subst h
        exact Runs.path XTok PGmix [.r [], .b true, .r [.el (e_Pin x31), .id 2], .r [.val (bA r33)], .b false, .s q44_f q44_g [] (.nor q44_f' q44_g'), .b false, .d [([], []), ([0], []), ([], []), ([], [.eq 109 (lA 3 (List.map e_Net ((a1.Nets.take (Int.toNat (i22 : Int))).drop (Int.toNat 0))))]), ([2], []), ([], [.val (bA r47)]), ([], [])], .b true, .r []] [] (an (lt_true hi) (an (idx_ok e_Pin h32) (an (ref_HasPin_ok a0 a1 x31 r33 h34) (an h35 (an R38 (an h45 (an (cut_lh e_Net h46) (an (cut_eq 3 e_Net a1.Nets (Int.toNat (i22 : Int)) (Int.toNat 0)) (an (ref_inNets_ok ((a1.Nets.take (Int.toNat (i22 : Int))).drop (Int.toNat 0)) x31 r47 h48) h49))))))))) (by kernel_rfl)
      · have h := Option.some.inj h
        subst h
        exact Runs.path XTok PGmix [.r [], .b true, .r [.el (e_Pin x31), .id 2], .r [.val (bA r33)], .b false, .s q44_f q44_g [] (.nor q44_f' q44_g'), .b false, .d [([], []), ([0], []), ([], []), ([], [.eq 109 (lA 3 (List.map e_Net ((a1.Nets.take (Int.toNat (i22 : Int))).drop (Int.toNat 0))))]), ([2], []), ([], [.val (bA r47)]), ([], [])], .b false, .r [.eq 112 (iA ((i30 + 1 : Nat) : Int))]] [] (an (lt_true hi) (an (idx_ok e_Pin h32) (an (ref_HasPin_ok a0 a1 x31 r33 h34) (an h35 (an R38 (an h45 (an (cut_lh e_Net h46) (an (cut_eq 3 e_Net a1.Nets (Int.toNat (i22 : Int)) (Int.toNat 0)) (an (ref_inNets_ok ((a1.Nets.take (Int.toNat (i22 : Int))).drop (Int.toNat 0)) x31 r47 h48) (an h49 (wrap_eq hi hM))))))))))) (by kernel_rfl)
theorem ref_checkList_b2_e (a0 : List PartType) (a1 : Netlist) (i22 : Nat) (x23 : Net) : Runs PG 132 0 ref_checkList_c2 (ref_checkList_F2 a0 a1 i22 x23 (x23.Pins.length) ) (ref_checkList_H2 a0 a1 i22 x23 (x23.Pins.length) ) (ref_checkList_B2 a0 a1 i22 x23 ()) := by
  exact Runs.path XTok PGmix [.r [], .b false] [] (lt_false (x23.Pins.length)) (by kernel_rfl)
theorem ref_checkList_l2 (a0 : List PartType) (a1 : Netlist) (i22 : Nat) (x23 : Net) (r : Fin' Unit Int) (h : forN (fun i30 s => ref_checkList_b2 a0 a1 i22 x23 i30 ) (x23.Pins.length) 0 () = some r) : Runs PG 132 0 (cL (cR (cL (cR (cR (cL (cL (cR (cR ref_checkList_c1))))))))) (ref_checkList_F2 a0 a1 i22 x23 0 ) (ref_checkList_H2 a0 a1 i22 x23 0 ) (finOc (ref_checkList_B2 a0 a1 i22 x23) ref_checkList_R r) :=
  Runs.loop' (by kernel_rfl) (forN_rounds (σ := Unit) (ρ := Int) (body := fun i30 s => ref_checkList_b2 a0 a1 i22 x23 i30 ) (F := fun i30 s => ref_checkList_F2 a0 a1 i22 x23 i30 ) (H := fun i30 s => ref_checkList_H2 a0 a1 i22 x23 i30 ) (B := ref_checkList_B2 a0 a1 i22 x23) (R := ref_checkList_R) (M := x23.Pins.length) (fun _ => rfl) (fun _ => rfl) (fun s => ref_checkList_b2_e a0 a1 i22 x23 ) (fun i s o hi h => ref_checkList_b2_r a0 a1 i22 x23 i o hi h) _ 0 _ r (Nat.zero_add _) h)
noncomputable def ref_checkList_F1 (a0 : List PartType) (a1 : Netlist) (i22 : Nat) : Fr := [(0, lA 2 (List.map e_PartType a0)), (3, .t (.v (.ptr 0 0))), (55, lA 3 (List.map e_Net a1.Nets)), (56, iA (a1.Nets.length : Int)), (57, iA (i22 : Int))]
noncomputable def ref_checkList_H1 (a0 : List PartType) (a1 : Netlist) (i22 : Nat) : Hp := [(0, .cells 26 [.c (.sl 2 (List.map e_Part a1.Parts)), .c (.sl 3 (List.map e_Net a1.Nets))])]
noncomputable def ref_checkList_B1 (a0 : List PartType) (a1 : Netlist) (s : Unit) : Oc := .ex 3 [] []
noncomputable def ref_checkList_b1 (a0 : List PartType) (a1 : Netlist) (i22 : Nat) : Option (Stp Unit Int) :=
 bnd (atI a1.Nets (i22 : Int)) fun x23 =>
 bnd (ref_IsPath x23.Name) fun r25 =>
 cnd (!r25) (some (.ret 5)) (cnd ((x23.Pins.length : Int) == 0) (some (.ret 9)) (cnd (decide ((x23.Pins.length : Int) > 500)) (some (.ret 2)) (aft0 (forN (fun i30 s => ref_checkList_b2 a0 a1 i22 x23 i30 ) (x23.Pins.length) 0 ()) (
 cnd (decide ((x23.Ports.length : Int) > 0)) (some (.ret 3)) (bnd1 (cnd (decide ((i22 : Int) > 0)) (bnd (atI a1.Nets (w64 ((i22 : Int) - 1))) fun x57 =>
 some (sLe x23.Name x57.Name)) (some false)) fun v53 =>
 cnd v53 (some (.ret 8)) (some (.go ()))))
 (fun r51 =>
 some (.ret r51)))))
theorem ref_checkList_b1_r (a0 : List PartType) (a1 : Netlist) (i22 : Nat) (o : Stp Unit Int) (hi : i22 < a1.Nets.length) (h : ref_checkList_b1 a0 a1 i22 = some o) :
    Runs PG 132 0 ref_checkList_c1 (ref_checkList_F1 a0 a1 i22 ) (ref_checkList_H1 a0 a1 i22 ) (stpOc (fun s' => .nor (ref_checkList_F1 a0 a1 (i22 + 1) ) (ref_checkList_H1 a0 a1 (i22 + 1) )) (ref_checkList_B1 a0 a1) ref_checkList_R o) := by
  unfold ref_checkList_b1 at h
  refine Runs.len (s := 55) (sz := 3) (xs := List.map e_Net a1.Nets) (by kernel_rfl) fun hl => ?_
  have hM : a1.Nets.length ≤ lim := len_of hl
  obtain ⟨x23, h24, h⟩ := bnd_e h
  obtain ⟨r25, h26, h⟩ := bnd_e h
  rcases cnd_e h with ⟨h27, h⟩ | ⟨h27, h⟩
  · have h := Option.some.inj h
    subst h
    exact Runs.path XTok PGmix [.r [], .b true, .r [.el (e_Net x23), .id 1], .r [.val (bA r25)], .b true, .r []] [] (an (lt_true hi) (an (idx_ok e_Net h24) (an (ref_IsPath_ok x23.Name r25 h26) h27))) (by kernel_rfl)
  · rcases cnd_e h with ⟨h28, h⟩ | ⟨h28, h⟩
    · have h := Option.some.inj h
      subst h
      exact Runs.path XTok PGmix [.r [], .b true, .r [.el (e_Net x23), .id 1], .r [.val (bA r25)], .b false, .r [.eq 70 (iA (x23.Pins.length : Int))], .b true, .r []] [] (an (lt_true hi) (an (idx_ok e_Net h24) (an (ref_IsPath_ok x23.Name r25 h26) (an h27 (an (leni_eq e_Pin x23.Pins) h28))))) (by kernel_rfl)
    · rcases cnd_e h with ⟨h29, h⟩ | ⟨h29, h⟩
      · have h := Option.some.inj h
        subst h
        exact Runs.path XTok PGmix [.r [], .b true, .r [.el (e_Net x23), .id 1], .r [.val (bA r25)], .b false, .r [.eq 70 (iA (x23.Pins.length : Int))], .b false, .r [.eq 75 (iA (x23.Pins.length : Int))], .b true, .r []] [] (an (lt_true hi) (an (idx_ok e_Net h24) (an (ref_IsPath_ok x23.Name r25 h26) (an h27 (an (leni_eq e_Pin x23.Pins) (an h28 (an (leni_eq e_Pin x23.Pins) h29))))))) (by kernel_rfl)
      · rcases aft0_e h with ⟨h50, h⟩ | ⟨r51, h50, h⟩
        · rcases cnd_e h with ⟨h52, h⟩ | ⟨h52, h⟩
          · have h := Option.some.inj h
            subst h
            exact Runs.path XTok PGmix [.r [], .b true, .r [.el (e_Net x23), .id 1], .r [.val (bA r25)], .b false, .r [.eq 70 (iA (x23.Pins.length : Int))], .b false, .r [.eq 75 (iA (x23.Pins.length : Int))], .b false, .r [.eq 79 (iA (x23.Pins.length : Int))], .s (ref_checkList_F2 a0 a1 i22 x23 0 ) (ref_checkList_H2 a0 a1 i22 x23 0 ) [] (ref_checkList_B2 a0 a1 i22 x23 ()), .r [.eq 115 (iA (x23.Ports.length : Int))], .b true, .r []] [] (an (lt_true hi) (an (idx_ok e_Net h24) (an (ref_IsPath_ok x23.Name r25 h26) (an h27 (an (leni_eq e_Pin x23.Pins) (an h28 (an (leni_eq e_Pin x23.Pins) (an h29 (an (leni_eq e_Pin x23.Pins) (an (ref_checkList_l2 a0 a1 i22 x23 (.fin ()) h50) (an (leni_eq e_str x23.Ports) h52))))))))))) (by kernel_rfl)
          · obtain ⟨v53, h54, h⟩ := bnd1_e h
            let q59_f : Fr := [(0, lA 2 (List.map e_PartType a0)), (3, .t (.v (.ptr 0 0))), (7, iA (i22 : Int)), (8, .t (.v (.ptr 1 0))), (55, lA 3 (List.map e_Net a1.Nets)), (56, iA (a1.Nets.length : Int)), (57, iA (i22 : Int))]
            let q59_g : Hp := [(0, .cells 26 [.c (.sl 2 (List.map e_Part a1.Parts)), .c (.sl 3 (List.map e_Net a1.Nets))]), (1, .cells 64 [.c (sC x23.Name), .c (.sl 2 (List.map e_Pin x23.Pins)), .c (.sl 1 (List.map e_str x23.Ports))])]
            let q59_f' : Fr := [(0, lA 2 (List.map e_PartType a0)), (3, .t (.v (.ptr 0 0))), (55, lA 3 (List.map e_Net a1.Nets)), (56, iA (a1.Nets.length : Int)), (57, iA (i22 : Int)), (130, bA v53)]
            let q59_g' : Hp := [(0, .cells 26 [.c (.sl 2 (List.map e_Part a1.Parts)), .c (.sl 3 (List.map e_Net a1.Nets))])]
            have R55 : Runs PG 132 0 (cL (cR (cR (cR (cR (cL (cL (cR (cR ref_checkList_c1))))))))) q59_f q59_g (.nor q59_f' q59_g') := by
              rcases cnd_e h54 with ⟨h56, h54⟩ | ⟨h56, h54⟩
              · obtain ⟨x57, h58, h54⟩ := bnd_e h54
                have h54 := Option.some.inj h54
                subst h54
                exact Runs.path XTok PGmix [.d [([], []), ([], []), ([], []), ([], [.b true]), ([1], [.b true]), ([], [.b true]), ([0], [.b true]), ([], [.b true]), ([], [.b true]), ([], [.b true, .el (e_Net x57)]), ([], [.b true]), ([], [.b true]), ([], [.b true]), ([], [.b true])]] [] (an h56 (an h56 (an h56 (an h56 (an h56 (an h56 (an h56 (an (idx_ok e_Net h58) (an h56 (an h56 (an h56 h56))))))))))) (by kernel_rfl)
              · have h54 := Option.some.inj h54
                subst h54
                exact Runs.path XTok PGmix [.d [([], []), ([], []), ([], []), ([], [.b false]), ([], [.b false]), ([], [.b false]), ([], [.b false]), ([], [.b false]), ([], [.b false]), ([], [.b false]), ([], [.b false]), ([], [.b false]), ([], [.b false]), ([], [.b false])]] [] (an h56 (an h56 (an h56 (an h56 (an h56 (an h56 (an h56 (an h56 (an h56 (an h56 h56)))))))))) (by kernel_rfl)
            rcases cnd_e h with ⟨h60, h⟩ | ⟨h60, h⟩
            · have h := Option.some.inj h
              subst h
              exact Runs.path XTok PGmix [.r [], .b true, .r [.el (e_Net x23), .id 1], .r [.val (bA r25)], .b false, .r [.eq 70 (iA (x23.Pins.length : Int))], .b false, .r [.eq 75 (iA (x23.Pins.length : Int))], .b false, .r [.eq 79 (iA (x23.Pins.length : Int))], .s (ref_checkList_F2 a0 a1 i22 x23 0 ) (ref_checkList_H2 a0 a1 i22 x23 0 ) [] (ref_checkList_B2 a0 a1 i22 x23 ()), .r [.eq 115 (iA (x23.Ports.length : Int))], .b false, .s q59_f q59_g [] (.nor q59_f' q59_g'), .b true, .r []] [] (an (lt_true hi) (an (idx_ok e_Net h24) (an (ref_IsPath_ok x23.Name r25 h26) (an h27 (an (leni_eq e_Pin x23.Pins) (an h28 (an (leni_eq e_Pin x23.Pins) (an h29 (an (leni_eq e_Pin x23.Pins) (an (ref_checkList_l2 a0 a1 i22 x23 (.fin ()) h50) (an (leni_eq e_str x23.Ports) (an h52 (an R55 h60))))))))))))) (by kernel_rfl)
            · have h := Option.some.inj h
              subst h
              exact Runs.path XTok PGmix [.r [], .b true, .r [.el (e_Net x23), .id 1], .r [.val (bA r25)], .b false, .r [.eq 70 (iA (x23.Pins.length : Int))], .b false, .r [.eq 75 (iA (x23.Pins.length : Int))], .b false, .r [.eq 79 (iA (x23.Pins.length : Int))], .s (ref_checkList_F2 a0 a1 i22 x23 0 ) (ref_checkList_H2 a0 a1 i22 x23 0 ) [] (ref_checkList_B2 a0 a1 i22 x23 ()), .r [.eq 115 (iA (x23.Ports.length : Int))], .b false, .s q59_f q59_g [] (.nor q59_f' q59_g'), .b false, .r [.eq 131 (iA ((i22 + 1 : Nat) : Int))]] [] (an (lt_true hi) (an (idx_ok e_Net h24) (an (ref_IsPath_ok x23.Name r25 h26) (an h27 (an (leni_eq e_Pin x23.Pins) (an h28 (an (leni_eq e_Pin x23.Pins) (an h29 (an (leni_eq e_Pin x23.Pins) (an (ref_checkList_l2 a0 a1 i22 x23 (.fin ()) h50) (an (leni_eq e_str x23.Ports) (an h52 (an R55 (an h60 (wrap_eq hi hM))))))))))))))) (by kernel_rfl)
        · have h := Option.some.inj h
          subst h
          exact Runs.path XTok PGmix [.r [], .b true, .r [.el (e_Net x23), .id 1], .r [.val (bA r25)], .b false, .r [.eq 70 (iA (x23.Pins.length : Int))], .b false, .r [.eq 75 (iA (x23.Pins.length : Int))], .b false, .r [.eq 79 (iA (x23.Pins.length : Int))], .s (ref_checkList_F2 a0 a1 i22 x23 0 ) (ref_checkList_H2 a0 a1 i22 x23 0 ) [] (ref_checkList_R r51)] [] (an (lt_true hi) (an (idx_ok e_Net h24) (an (ref_IsPath_ok x23.Name r25 h26) (an h27 (an (leni_eq e_Pin x23.Pins) (an h28 (an (leni_eq e_Pin x23.Pins) (an h29 (an (leni_eq e_Pin x23.Pins) (ref_checkList_l2 a0 a1 i22 x23 (.ret r51) h50)))))))))) (by kernel_rfl)
theorem ref_checkList_b1_e (a0 : List PartType) (a1 : Netlist) : Runs PG 132 0 ref_checkList_c1 (ref_checkList_F1 a0 a1 (a1.Nets.length) ) (ref_checkList_H1 a0 a1 (a1.Nets.length) ) (ref_checkList_B1 a0 a1 ()) := by
  exact Runs.path XTok PGmix [.r [], .b false] [] (lt_false (a1.Nets.length)) (by kernel_rfl)
theorem ref_checkList_l1 (a0 : List PartType) (a1 : Netlist) (r : Fin' Unit Int) (h : forN (fun i22 s => ref_checkList_b1 a0 a1 i22 ) (a1.Nets.length) 0 () = some r) : Runs PG 132 0 (cL (cR (cL (cR (cR (cR (cR ref_checkList_c))))))) (ref_checkList_F1 a0 a1 0 ) (ref_checkList_H1 a0 a1 0 ) (finOc (ref_checkList_B1 a0 a1) ref_checkList_R r) :=
  Runs.loop' (by kernel_rfl) (forN_rounds (σ := Unit) (ρ := Int) (body := fun i22 s => ref_checkList_b1 a0 a1 i22 ) (F := fun i22 s => ref_checkList_F1 a0 a1 i22 ) (H := fun i22 s => ref_checkList_H1 a0 a1 i22 ) (B := ref_checkList_B1 a0 a1) (R := ref_checkList_R) (M := a1.Nets.length) (fun _ => rfl) (fun _ => rfl) (fun s => ref_checkList_b1_e a0 a1 ) (fun i s o hi h => ref_checkList_b1_r a0 a1 i o hi h) _ 0 _ r (Nat.zero_add _) h)
noncomputable def ref_checkList (a0 : List PartType) (a1 : Netlist) : Option Int :=
 cnd (decide ((a1.Parts.length : Int) > 1000)) (some 2) (aft0 (forN (fun i2 s => ref_checkList_b0 a0 a1 i2 ) (a1.Parts.length) 0 ()) (
 cnd (decide ((a1.Nets.length : Int) > 1000)) (some 2) (aft0 (forN (fun i22 s => ref_checkList_b1 a0 a1 i22 ) (a1.Nets.length) 0 ()) (
 some 0)
 (fun r62 =>
 some r62)))
 (fun r20 =>
 some r20))
theorem ref_checkList_ok (a0 : List PartType) (a1 : Netlist) (r : Int) (h : ref_checkList a0 a1 = some r) : Spec PG 53 [lT 2 (List.map e_PartType a0), gT (e_Netlist a1)] [] (iA r) [] := by
  unfold ref_checkList at h
  rcases cnd_e h with ⟨h1, h⟩ | ⟨h1, h⟩
  · have h := Option.some.inj h
    subst h
    exact Spec.path XTok PGmix ref_checkList_fn 0 [.r [.id 0], .r [.eq 13 (iA (a1.Parts.length : Int))], .b true, .r []] (an (leni_eq e_Part a1.Parts) h1) (by kernel_rfl)
  · rcases aft0_e h with ⟨h19, h⟩ | ⟨r20, h19, h⟩
    · rcases cnd_e h with ⟨h21, h⟩ | ⟨h21, h⟩
      · have h := Option.some.inj h
        subst h
        exact Spec.path XTok PGmix ref_checkList_fn 0 [.r [.id 0], .r [.eq 13 (iA (a1.Parts.length : Int))], .b false, .r [.eq 17 (iA (a1.Parts.length : Int))], .s (ref_checkList_F0 a0 a1 0 ) (ref_checkList_H0 a0 a1 0 ) [] (ref_checkList_B0 a0 a1 ()), .r [.eq 52 (iA (a1.Nets.length : Int))], .b true, .r []] (an (leni_eq e_Part a1.Parts) (an h1 (an (leni_eq e_Part a1.Parts) (an (ref_checkList_l0 a0 a1 (.fin ()) h19) (an (leni_eq e_Net a1.Nets) h21))))) (by kernel_rfl)
      · rcases aft0_e h with ⟨h61, h⟩ | ⟨r62, h61, h⟩
        · have h := Option.some.inj h
          subst h
          exact Spec.path XTok PGmix ref_checkList_fn 0 [.r [.id 0], .r [.eq 13 (iA (a1.Parts.length : Int))], .b false, .r [.eq 17 (iA (a1.Parts.length : Int))], .s (ref_checkList_F0 a0 a1 0 ) (ref_checkList_H0 a0 a1 0 ) [] (ref_checkList_B0 a0 a1 ()), .r [.eq 52 (iA (a1.Nets.length : Int))], .b false, .r [.eq 56 (iA (a1.Nets.length : Int))], .s (ref_checkList_F1 a0 a1 0 ) (ref_checkList_H1 a0 a1 0 ) [] (ref_checkList_B1 a0 a1 ()), .r []] (an (leni_eq e_Part a1.Parts) (an h1 (an (leni_eq e_Part a1.Parts) (an (ref_checkList_l0 a0 a1 (.fin ()) h19) (an (leni_eq e_Net a1.Nets) (an h21 (an (leni_eq e_Net a1.Nets) (ref_checkList_l1 a0 a1 (.fin ()) h61)))))))) (by kernel_rfl)
        · have h := Option.some.inj h
          subst h
          exact Spec.path XTok PGmix ref_checkList_fn 0 [.r [.id 0], .r [.eq 13 (iA (a1.Parts.length : Int))], .b false, .r [.eq 17 (iA (a1.Parts.length : Int))], .s (ref_checkList_F0 a0 a1 0 ) (ref_checkList_H0 a0 a1 0 ) [] (ref_checkList_B0 a0 a1 ()), .r [.eq 52 (iA (a1.Nets.length : Int))], .b false, .r [.eq 56 (iA (a1.Nets.length : Int))], .s (ref_checkList_F1 a0 a1 0 ) (ref_checkList_H1 a0 a1 0 ) [] (ref_checkList_R r62)] (an (leni_eq e_Part a1.Parts) (an h1 (an (leni_eq e_Part a1.Parts) (an (ref_checkList_l0 a0 a1 (.fin ()) h19) (an (leni_eq e_Net a1.Nets) (an h21 (an (leni_eq e_Net a1.Nets) (ref_checkList_l1 a0 a1 (.ret r62) h61)))))))) (by kernel_rfl)
    · have h := Option.some.inj h
      subst h
      exact Spec.path XTok PGmix ref_checkList_fn 0 [.r [.id 0], .r [.eq 13 (iA (a1.Parts.length : Int))], .b false, .r [.eq 17 (iA (a1.Parts.length : Int))], .s (ref_checkList_F0 a0 a1 0 ) (ref_checkList_H0 a0 a1 0 ) [] (ref_checkList_R r20)] (an (leni_eq e_Part a1.Parts) (an h1 (an (leni_eq e_Part a1.Parts) (ref_checkList_l0 a0 a1 (.ret r20) h19)))) (by kernel_rfl)

noncomputable def ref_CheckList_c : Code := (Go.Proofs.Tryd.f16.body).getD .skip
theorem ref_CheckList_fn : FnOk PG 16 ref_CheckList_c 14 [.tmp 4] := ⟨⟨Go.Proofs.Tryd.f16, by kernel_rfl, by kernel_rfl, by kernel_rfl, by kernel_rfl, by kernel_rfl⟩⟩
noncomputable def ref_CheckList (a0 : List PartType) (a1 : Netlist) : Option Int :=
 bnd (ref_CheckTypes a0) fun r1 =>
 cnd (r1 != 0) (some r1) (bnd (ref_checkList a0 a1) fun r4 =>
 some r4)
theorem ref_CheckList_ok (a0 : List PartType) (a1 : Netlist) (r : Int) (h : ref_CheckList a0 a1 = some r) : Spec PG 16 [lT 2 (List.map e_PartType a0), gT (e_Netlist a1)] [] (iA r) [] := by
  unfold ref_CheckList at h
  obtain ⟨r1, h2, h⟩ := bnd_e h
  rcases cnd_e h with ⟨h3, h⟩ | ⟨h3, h⟩
  · have h := Option.some.inj h
    subst h
    exact Spec.path XTok PGmix ref_CheckList_fn 0 [.r [.id 0], .r [.val (iA r1)], .r [], .b true, .r []] (an (ref_CheckTypes_ok a0 r1 h2) h3) (by kernel_rfl)
  · obtain ⟨r4, h5, h⟩ := bnd_e h
    have h := Option.some.inj h
    subst h
    exact Spec.path XTok PGmix ref_CheckList_fn 0 [.r [.id 0], .r [.val (iA r1)], .r [], .b false, .r [.val (iA r4)]] (an (ref_CheckTypes_ok a0 r1 h2) (an h3 (ref_checkList_ok a0 a1 r4 h5))) (by kernel_rfl)

noncomputable def ref_netOf_c : Code := (Go.Proofs.Tryd.f46.body).getD .skip
theorem ref_netOf_fn : FnOk PG 46 ref_netOf_c 21 [.tmp 4] := ⟨⟨Go.Proofs.Tryd.f46, by kernel_rfl, by kernel_rfl, by kernel_rfl, by kernel_rfl, by kernel_rfl⟩⟩
noncomputable def ref_netOf_c0 : Code := cL (cL (cR (cL (cR ref_netOf_c))))
noncomputable def ref_netOf_R (r : Int) : Oc := .ret [(4, iA r)] []
noncomputable def ref_netOf_F0 (a0 : Netlist) (a1 : Pin) (i1 : Nat) : Fr := [(3, .t (.v (.ptr 1 0))), (8, lA 3 (List.map e_Net a0.Nets)), (9, iA (a0.Nets.length : Int)), (10, iA (i1 : Int))]
noncomputable def ref_netOf_H0 (a0 : Netlist) (a1 : Pin) (i1 : Nat) : Hp := [(1, .cells 28 [.c (sC a1.Part), .c (sC a1.Pin)])]
noncomputable def ref_netOf_B0 (a0 : Netlist) (a1 : Pin) (s : Unit) : Oc := .ex 0 [] []
noncomputable def ref_netOf_b0 (a0 : Netlist) (a1 : Pin) (i1 : Nat) : Option (Stp Unit Int) :=
 bnd (atI a0.Nets (i1 : Int)) fun x2 =>
 bnd (slices_Contains_api_Pin_api_Pin x2.Pins a1) fun r4 =>
 cnd r4 (some (.ret (i1 : Int))) (some (.go ()))
theorem ref_netOf_b0_r (a0 : Netlist) (a1 : Pin) (i1 : Nat) (o : Stp Unit Int) (hi : i1 < a0.Nets.length) (h : ref_netOf_b0 a0 a1 i1 = some o) :
    Runs PG 21 0 ref_netOf_c0 (ref_netOf_F0 a0 a1 i1 ) (ref_netOf_H0 a0 a1 i1 ) (stpOc (fun s' => .nor (ref_netOf_F0 a0 a1 (i1 + 1) ) (ref_netOf_H0 a0 a1 (i1 + 1) )) (ref_netOf_B0 a0 a1) ref_netOf_R o) := by
  unfold ref_netOf_b0 at h
  refine Runs.len (s := 8) (sz := 3) (xs := List.map e_Net a0.Nets) (by kernel_rfl) fun hl => ?_
  have hM : a0.Nets.length ≤ lim := len_of hl
  obtain ⟨x2, h3, h⟩ := bnd_e h
  obtain ⟨r4, h5, h⟩ := bnd_e h
  rcases cnd_e h with ⟨h6, h⟩ | ⟨h6, h⟩
  · have h := Option.some.inj h
    subst h
    exact Runs.path XTok PGmix [.r [], .b true, .r [.el (e_Net x2), .id 2], .r [.val (bA r4)], .b true, .r []] [] (an (lt_true hi) (an (idx_ok e_Net h3) (an (slices_Contains_api_Pin_api_Pin_ok x2.Pins a1 r4 h5) h6))) (by kernel_rfl)
  · have h := Option.some.inj h
    subst h
    exact Runs.path XTok PGmix [.r [], .b true, .r [.el (e_Net x2), .id 2], .r [.val (bA r4)], .b false, .r [.eq 20 (iA ((i1 + 1 : Nat) : Int))]] [] (an (lt_true hi) (an (idx_ok e_Net h3) (an (slices_Contains_api_Pin_api_Pin_ok x2.Pins a1 r4 h5) (an h6 (wrap_eq hi hM))))) (by kernel_rfl)
theorem ref_netOf_b0_e (a0 : Netlist) (a1 : Pin) : Runs PG 21 0 ref_netOf_c0 (ref_netOf_F0 a0 a1 (a0.Nets.length) ) (ref_netOf_H0 a0 a1 (a0.Nets.length) ) (ref_netOf_B0 a0 a1 ()) := by
  exact Runs.path XTok PGmix [.r [], .b false] [] (lt_false (a0.Nets.length)) (by kernel_rfl)
theorem ref_netOf_l0 (a0 : Netlist) (a1 : Pin) (r : Fin' Unit Int) (h : forN (fun i1 s => ref_netOf_b0 a0 a1 i1 ) (a0.Nets.length) 0 () = some r) : Runs PG 21 0 (cL (cR (cL (cR ref_netOf_c)))) (ref_netOf_F0 a0 a1 0 ) (ref_netOf_H0 a0 a1 0 ) (finOc (ref_netOf_B0 a0 a1) ref_netOf_R r) :=
  Runs.loop' (by kernel_rfl) (forN_rounds (σ := Unit) (ρ := Int) (body := fun i1 s => ref_netOf_b0 a0 a1 i1 ) (F := fun i1 s => ref_netOf_F0 a0 a1 i1 ) (H := fun i1 s => ref_netOf_H0 a0 a1 i1 ) (B := ref_netOf_B0 a0 a1) (R := ref_netOf_R) (M := a0.Nets.length) (fun _ => rfl) (fun _ => rfl) (fun s => ref_netOf_b0_e a0 a1 ) (fun i s o hi h => ref_netOf_b0_r a0 a1 i o hi h) _ 0 _ r (Nat.zero_add _) h)
noncomputable def ref_netOf (a0 : Netlist) (a1 : Pin) : Option Int :=
 aft0 (forN (fun i1 s => ref_netOf_b0 a0 a1 i1 ) (a0.Nets.length) 0 ()) (
 some (-1))
 (fun r8 =>
 some r8)
theorem ref_netOf_ok (a0 : Netlist) (a1 : Pin) (r : Int) (h : ref_netOf a0 a1 = some r) : Spec PG 46 [gT (e_Netlist a0), gT (e_Pin a1)] [] (iA r) [] := by
  unfold ref_netOf at h
  rcases aft0_e h with ⟨h7, h⟩ | ⟨r8, h7, h⟩
  · have h := Option.some.inj h
    subst h
    exact Spec.path XTok PGmix ref_netOf_fn 0 [.r [.id 0, .id 1], .r [.eq 9 (iA (a0.Nets.length : Int))], .s (ref_netOf_F0 a0 a1 0 ) (ref_netOf_H0 a0 a1 0 ) [] (ref_netOf_B0 a0 a1 ()), .r []] (an (leni_eq e_Net a0.Nets) (ref_netOf_l0 a0 a1 (.fin ()) h7)) (by kernel_rfl)
  · have h := Option.some.inj h
    subst h
    exact Spec.path XTok PGmix ref_netOf_fn 0 [.r [.id 0, .id 1], .r [.eq 9 (iA (a0.Nets.length : Int))], .s (ref_netOf_F0 a0 a1 0 ) (ref_netOf_H0 a0 a1 0 ) [] (ref_netOf_R r8)] (an (leni_eq e_Net a0.Nets) (ref_netOf_l0 a0 a1 (.ret r8) h7)) (by kernel_rfl)

noncomputable def ref_NetOf_c : Code := (Go.Proofs.Tryd.f14.body).getD .skip
theorem ref_NetOf_fn : FnOk PG 14 ref_NetOf_c 33 [.tmp 6, .tmp 7, .tmp 8] := ⟨⟨Go.Proofs.Tryd.f14, by kernel_rfl, by kernel_rfl, by kernel_rfl, by kernel_rfl, by kernel_rfl⟩⟩
noncomputable def ref_NetOf (a0 : List PartType) (a1 : Netlist) (a2 : Pin) : Option (ByteArray × Bool × Int) :=
 bnd (ref_CheckList a0 a1) fun r1 =>
 cnd (r1 != 0) (some ((⟨#[]⟩ : ByteArray), false, r1)) (bnd (ref_HasPin a0 a1 a2) fun r4 =>
 cnd (!r4) (some ((⟨#[]⟩ : ByteArray), false, 9)) (bnd (ref_netOf a1 a2) fun r7 =>
 cnd (decide (r7 ≥ 0)) (bnd (atI a1.Nets r7) fun x10 =>
 some (x10.Name, true, 0)) (some ((⟨#[]⟩ : ByteArray), false, 0))))
theorem ref_NetOf_ok (a0 : List PartType) (a1 : Netlist) (a2 : Pin) (r : ByteArray × Bool × Int) (h : ref_NetOf a0 a1 a2 = some r) : Spec PG 14 [lT 2 (List.map e_PartType a0), gT (e_Netlist a1), gT (e_Pin a2)] [] (.tup [sT r.1, bT r.2.1, iT r.2.2]) [] := by
  unfold ref_NetOf at h
  obtain ⟨r1, h2, h⟩ := bnd_e h
  rcases cnd_e h with ⟨h3, h⟩ | ⟨h3, h⟩
  · have h := Option.some.inj h
    subst h
    exact Spec.path XTok PGmix ref_NetOf_fn 0 [.r [.id 0, .id 1], .r [.val (iA r1)], .r [], .b true, .r []] (an (ref_CheckList_ok a0 a1 r1 h2) h3) (by kernel_rfl)
  · obtain ⟨r4, h5, h⟩ := bnd_e h
    rcases cnd_e h with ⟨h6, h⟩ | ⟨h6, h⟩
    · have h := Option.some.inj h
      subst h
      exact Spec.path XTok PGmix ref_NetOf_fn 0 [.r [.id 0, .id 1], .r [.val (iA r1)], .r [], .b false, .r [.val (bA r4)], .b true, .r []] (an (ref_CheckList_ok a0 a1 r1 h2) (an h3 (an (ref_HasPin_ok a0 a1 a2 r4 h5) h6))) (by kernel_rfl)
    · obtain ⟨r7, h8, h⟩ := bnd_e h
      rcases cnd_e h with ⟨h9, h⟩ | ⟨h9, h⟩
      · obtain ⟨x10, h11, h⟩ := bnd_e h
        have h := Option.some.inj h
        subst h
        exact Spec.path XTok PGmix ref_NetOf_fn 0 [.r [.id 0, .id 1], .r [.val (iA r1)], .r [], .b false, .r [.val (bA r4)], .b false, .r [.val (iA r7)], .r [], .b true, .r [.el (e_Net x10)]] (an (ref_CheckList_ok a0 a1 r1 h2) (an h3 (an (ref_HasPin_ok a0 a1 a2 r4 h5) (an h6 (an (ref_netOf_ok a1 a2 r7 h8) (an h9 (idx_ok e_Net h11))))))) (by kernel_rfl)
      · have h := Option.some.inj h
        subst h
        exact Spec.path XTok PGmix ref_NetOf_fn 0 [.r [.id 0, .id 1], .r [.val (iA r1)], .r [], .b false, .r [.val (bA r4)], .b false, .r [.val (iA r7)], .r [], .b false, .r []] (an (ref_CheckList_ok a0 a1 r1 h2) (an h3 (an (ref_HasPin_ok a0 a1 a2 r4 h5) (an h6 (an (ref_netOf_ok a1 a2 r7 h8) h9))))) (by kernel_rfl)

noncomputable def nl_pinsOf_c : Code := (Go.Proofs.Tryd.f74.body).getD .skip
theorem nl_pinsOf_fn : FnOk PG 74 nl_pinsOf_c 31 [.tmp 4] := ⟨⟨Go.Proofs.Tryd.f74, by kernel_rfl, by kernel_rfl, by kernel_rfl, by kernel_rfl, by kernel_rfl⟩⟩
noncomputable def nl_pinsOf_c0 : Code := cL (cL (cR (cL (cR (cR nl_pinsOf_c)))))
noncomputable def nl_pinsOf_R (r : List Pin) : Oc := .ret [(4, lA 2 (List.map e_Pin r))] []
noncomputable def nl_pinsOf_F0 (a1 : Part) (x3 : PartType) (i5 : Nat) (y6 : List Pin) : Fr := [(3, .t (.v (.ptr 0 0))), (5, .t (.v (.rt 1))), (15, lA 3 (List.map e_PinType x3.Pins)), (16, iA (x3.Pins.length : Int)), (17, iA (i5 : Int))]
noncomputable def nl_pinsOf_H0 (a1 : Part) (x3 : PartType) (i5 : Nat) (y6 : List Pin) : Hp := [(0, .cells 73 [.c (sC a1.Name), .c (sC a1.Type_)]), (1, .row 28 2 (List.map e_Pin y6))]
noncomputable def nl_pinsOf_B0 (a1 : Part) (x3 : PartType) (s : List Pin) : Oc := .ex 0 [(5, .t (.v (.rt 1)))] [(1, .row 28 2 (List.map e_Pin s))]
noncomputable def nl_pinsOf_b0 (a1 : Part) (x3 : PartType) (i5 : Nat) (y6 : List Pin) : Option (Stp (List Pin) (List Pin)) :=
 bnd (atI x3.Pins (i5 : Int)) fun x7 =>
 grd (y6.length + [(⟨a1.Name, x7.Name⟩ : Pin)].length ≤ lim) <|
 some (.go (y6 ++ [(⟨a1.Name, x7.Name⟩ : Pin)]))
theorem nl_pinsOf_b0_r (a1 : Part) (x3 : PartType) (i5 : Nat) (y6 : List Pin) (o : Stp (List Pin) (List Pin)) (hi : i5 < x3.Pins.length) (h : nl_pinsOf_b0 a1 x3 i5 y6 = some o) :
    Runs PG 31 0 nl_pinsOf_c0 (nl_pinsOf_F0 a1 x3 i5 y6) (nl_pinsOf_H0 a1 x3 i5 y6) (stpOc (fun s' => .nor (nl_pinsOf_F0 a1 x3 (i5 + 1) s') (nl_pinsOf_H0 a1 x3 (i5 + 1) s')) (nl_pinsOf_B0 a1 x3) nl_pinsOf_R o) := by
  unfold nl_pinsOf_b0 at h
  refine Runs.len (s := 15) (sz := 3) (xs := List.map e_PinType x3.Pins) (by kernel_rfl) fun hl => ?_
  have hM : x3.Pins.length ≤ lim := len_of hl
  obtain ⟨x7, h8, h⟩ := bnd_e h
  obtain ⟨h9, h⟩ := grd_e h
  have h := Option.some.inj h
  subst h
  exact Runs.path XTok PGmix [.r [], .b true, .r [.el (e_PinType x7), .id 2], .r [.id 3, .row (List.map e_Pin [(⟨a1.Name, x7.Name⟩ : Pin)]), .id 4, .row (List.map e_Pin (y6 ++ [(⟨a1.Name, x7.Name⟩ : Pin)]))], .r [.eq 29 (iA ((i5 + 1 : Nat) : Int))]] [(1, 4)] (an (lt_true hi) (an (idx_ok e_PinType h8) (an (Eq.refl (List.flatten (List.map e_Pin [(⟨a1.Name, x7.Name⟩ : Pin)]))) (an (app_ok e_Pin h9) (wrap_eq hi hM))))) (by kernel_rfl)
theorem nl_pinsOf_b0_e (a1 : Part) (x3 : PartType) (y6 : List Pin) : Runs PG 31 0 nl_pinsOf_c0 (nl_pinsOf_F0 a1 x3 (x3.Pins.length) y6) (nl_pinsOf_H0 a1 x3 (x3.Pins.length) y6) (nl_pinsOf_B0 a1 x3 y6) := by
  exact Runs.path XTok PGmix [.r [], .b false] [] (lt_false (x3.Pins.length)) (by kernel_rfl)
theorem nl_pinsOf_l0 (a1 : Part) (x3 : PartType) (y6 : List Pin) (r : Fin' (List Pin) (List Pin)) (h : forN (fun i5 s => nl_pinsOf_b0 a1 x3 i5 s) (x3.Pins.length) 0 y6 = some r) : Runs PG 31 0 (cL (cR (cL (cR (cR nl_pinsOf_c))))) (nl_pinsOf_F0 a1 x3 0 y6) (nl_pinsOf_H0 a1 x3 0 y6) (finOc (nl_pinsOf_B0 a1 x3) nl_pinsOf_R r) :=
  Runs.loop' (by kernel_rfl) (forN_rounds (σ := (List Pin)) (ρ := (List Pin)) (body := fun i5 s => nl_pinsOf_b0 a1 x3 i5 s) (F := fun i5 s => nl_pinsOf_F0 a1 x3 i5 s) (H := fun i5 s => nl_pinsOf_H0 a1 x3 i5 s) (B := nl_pinsOf_B0 a1 x3) (R := nl_pinsOf_R) (M := x3.Pins.length) (fun _ => rfl) (fun _ => rfl) (fun s => nl_pinsOf_b0_e a1 x3 s) (fun i s o hi h => nl_pinsOf_b0_r a1 x3 i s o hi h) _ 0 _ r (Nat.zero_add _) h)
noncomputable def nl_pinsOf (a0 : List PartType) (a1 : Part) : Option (List Pin) :=
 bnd (nl_TypeAt a0 a1.Type_) fun r1 =>
 bnd (atI a0 r1) fun x3 =>
 aft1 (forN (fun i5 s => nl_pinsOf_b0 a1 x3 i5 s) (x3.Pins.length) 0 []) (fun u10 =>
 some u10)
 (fun r12 =>
 some r12)
theorem nl_pinsOf_ok (a0 : List PartType) (a1 : Part) (r : List Pin) (h : nl_pinsOf a0 a1 = some r) : Spec PG 74 [lT 2 (List.map e_PartType a0), gT (e_Part a1)] [] (lA 2 (List.map e_Pin r)) [] := by
  unfold nl_pinsOf at h
  obtain ⟨r1, h2, h⟩ := bnd_e h
  obtain ⟨x3, h4, h⟩ := bnd_e h
  rcases aft1_e h with ⟨u10, h11, h⟩ | ⟨r12, h11, h⟩
  · have h := Option.some.inj h
    subst h
    exact Spec.path XTok PGmix nl_pinsOf_fn 0 [.r [.id 0, .nl 2], .r [.mk 1 28 2], .r [.val (iA r1), .el (e_PartType x3), .eq 16 (iA (x3.Pins.length : Int))], .s (nl_pinsOf_F0 a1 x3 0 []) (nl_pinsOf_H0 a1 x3 0 []) [] (nl_pinsOf_B0 a1 x3 u10), .r [], .f 1] (an (nl_TypeAt_ok a0 a1.Type_ r1 h2) (an (idx_ok e_PartType h4) (an (leni_eq e_PinType x3.Pins) (nl_pinsOf_l0 a1 x3 [] (.fin u10) h11)))) (by kernel_rfl)
  · have h := Option.some.inj h
    subst h
    exact Spec.path XTok PGmix nl_pinsOf_fn 0 [.r [.id 0, .nl 2], .r [.mk 1 28 2], .r [.val (iA r1), .el (e_PartType x3), .eq 16 (iA (x3.Pins.length : Int))], .s (nl_pinsOf_F0 a1 x3 0 []) (nl_pinsOf_H0 a1 x3 0 []) [] (nl_pinsOf_R r12)] (an (nl_TypeAt_ok a0 a1.Type_ r1 h2) (an (idx_ok e_PartType h4) (an (leni_eq e_PinType x3.Pins) (nl_pinsOf_l0 a1 x3 [] (.ret r12) h11)))) (by kernel_rfl)

noncomputable def nl_LooseOf_c : Code := (Go.Proofs.Tryd.f54.body).getD .skip
theorem nl_LooseOf_fn : FnOk PG 54 nl_LooseOf_c 45 [.tmp 4] := ⟨⟨Go.Proofs.Tryd.f54, by kernel_rfl, by kernel_rfl, by kernel_rfl, by kernel_rfl, by kernel_rfl⟩⟩
noncomputable def nl_LooseOf_c0 : Code := cL (cL (cR (cL (cR (cR (cR nl_LooseOf_c))))))
noncomputable def nl_LooseOf_R (r : List Pin) : Oc := .ret [(4, lA 2 (List.map e_Pin r))] []
noncomputable def nl_LooseOf_c1 : Code := cL (cL (cR (cR (cL (cL (cR (cR nl_LooseOf_c0)))))))
noncomputable def nl_LooseOf_F1 (a0 : List PartType) (a1 : Netlist) (r1 : (List (Pin × Int))) (i3 : Nat) (r7 : List Pin) (i9 : Nat) (y10 : List Pin) : Fr := [(0, lA 2 (List.map e_PartType a0)), (5, .t (.v (.rt 1))), (6, .t (.v (.rt 2))), (16, lA 2 (List.map e_Part a1.Parts)), (17, iA (a1.Parts.length : Int)), (18, iA (i3 : Int)), (24, lA 2 (List.map e_Pin r7)), (25, iA (r7.length : Int)), (26, iA (i9 : Int))]
noncomputable def nl_LooseOf_H1 (a0 : List PartType) (a1 : Netlist) (r1 : (List (Pin × Int))) (i3 : Nat) (r7 : List Pin) (i9 : Nat) (y10 : List Pin) : Hp := [(1, .map (keys PG 28) (encM kv_Pin dv_i64 r1)), (2, .row 28 2 (List.map e_Pin y10))]
noncomputable def nl_LooseOf_B1 (a0 : List PartType) (a1 : Netlist) (r1 : (List (Pin × Int))) (i3 : Nat) (r7 : List Pin) (s : List Pin) : Oc := .ex 2 [(0, lA 2 (List.map e_PartType a0)), (5, .t (.v (.rt 1))), (6, .t (.v (.rt 2))), (16, lA 2 (List.map e_Part a1.Parts)), (17, iA (a1.Parts.length : Int)), (18, iA (i3 : Int))] [(1, .map (keys PG 28) (encM kv_Pin dv_i64 r1)), (2, .row 28 2 (List.map e_Pin s))]
noncomputable def nl_LooseOf_b1 (a0 : List PartType) (a1 : Netlist) (r1 : (List (Pin × Int))) (i3 : Nat) (r7 : List Pin) (i9 : Nat) (y10 : List Pin) : Option (Stp (List Pin) (List Pin)) :=
 bnd (atI r7 (i9 : Int)) fun x11 =>
 bnd1 (opt (tlook r1 x11) (fun v16 =>
 some true) (some false)) fun v13 =>
 bnd1 (cnd (!v13) (grd (y10.length + [x11].length ≤ lim) <|
 some (y10 ++ [x11])) (some y10)) fun v19 =>
 some (.go v19)
theorem nl_LooseOf_b1_r (a0 : List PartType) (a1 : Netlist) (r1 : (List (Pin × Int))) (i3 : Nat) (r7 : List Pin) (i9 : Nat) (y10 : List Pin) (o : Stp (List Pin) (List Pin)) (hi : i9 < r7.length) (h : nl_LooseOf_b1 a0 a1 r1 i3 r7 i9 y10 = some o) :
    Runs PG 45 0 nl_LooseOf_c1 (nl_LooseOf_F1 a0 a1 r1 i3 r7 i9 y10) (nl_LooseOf_H1 a0 a1 r1 i3 r7 i9 y10) (stpOc (fun s' => .nor (nl_LooseOf_F1 a0 a1 r1 i3 r7 (i9 + 1) s') (nl_LooseOf_H1 a0 a1 r1 i3 r7 (i9 + 1) s')) (nl_LooseOf_B1 a0 a1 r1 i3 r7) nl_LooseOf_R o) := by
  unfold nl_LooseOf_b1 at h
  refine Runs.len (s := 24) (sz := 2) (xs := List.map e_Pin r7) (by kernel_rfl) fun hl => ?_
  have hM : r7.length ≤ lim := len_of hl
  obtain ⟨x11, h12, h⟩ := bnd_e h
  obtain ⟨v13, h14, h⟩ := bnd1_e h
  let q18_f : Fr := [(0, lA 2 (List.map e_PartType a0)), (5, .t (.v (.rt 1))), (6, .t (.v (.rt 2))), (10, .t (.v (.ptr 3 0))), (16, lA 2 (List.map e_Part a1.Parts)), (17, iA (a1.Parts.length : Int)), (18, iA (i3 : Int)), (24, lA 2 (List.map e_Pin r7)), (25, iA (r7.length : Int)), (26, iA (i9 : Int))]
  let q18_g : Hp := [(1, .map (keys PG 28) (encM kv_Pin dv_i64 r1)), (2, .row 28 2 (List.map e_Pin y10)), (3, .cells 28 [.c (sC x11.Part), .c (sC x11.Pin)])]
  let q18_f' : Fr := [(0, lA 2 (List.map e_PartType a0)), (5, .t (.v (.rt 1))), (6, .t (.v (.rt 2))), (10, .t (.v (.ptr 3 0))), (16, lA 2 (List.map e_Part a1.Parts)), (17, iA (a1.Parts.length : Int)), (18, iA (i3 : Int)), (24, lA 2 (List.map e_Pin r7)), (25, iA (r7.length : Int)), (26, iA (i9 : Int)), (12, bA v13)]
  let q18_g' : Hp := [(1, .map (keys PG 28) (encM kv_Pin dv_i64 r1)), (2, .row 28 2 (List.map e_Pin y10)), (3, .cells 28 [.c (sC x11.Part), .c (sC x11.Pin)])]
  have R15 : Runs PG 45 0 (cL (cR (cL (cL (cR (cR nl_LooseOf_c1)))))) q18_f q18_g (.nor q18_f' q18_g') := by
    rcases opt_e h14 with ⟨v16, h17, h14⟩ | ⟨h17, h14⟩
    · have h14 := Option.some.inj h14
      subst h14
      exact Runs.path XTok PGmix [.r [.look (some (dv_i64 v16))]] [] (an kd_Pin (an (Eq.refl (keys PG 28)) (an (kf_Pin x11) (tl_some dv_i64 ki_Pin h17)))) (by kernel_rfl)
    · have h14 := Option.some.inj h14
      subst h14
      exact Runs.path XTok PGmix [.r [.look (none)]] [] (an kd_Pin (an (Eq.refl (keys PG 28)) (an (kf_Pin x11) (tl_none dv_i64 ki_Pin h17)))) (by kernel_rfl)
  obtain ⟨v19, h20, h⟩ := bnd1_e h
  let q24_f : Fr := [(0, lA 2 (List.map e_PartType a0)), (5, .t (.v (.rt 1))), (6, .t (.v (.rt 2))), (10, .t (.v (.ptr 3 0))), (16, lA 2 (List.map e_Part a1.Parts)), (17, iA (a1.Parts.length : Int)), (18, iA (i3 : Int)), (24, lA 2 (List.map e_Pin r7)), (25, iA (r7.length : Int)), (26, iA (i9 : Int)), (37, bA (!v13))]
  let q24_g : Hp := [(1, .map (keys PG 28) (encM kv_Pin dv_i64 r1)), (2, .row 28 2 (List.map e_Pin y10)), (3, .cells 28 [.c (sC x11.Part), .c (sC x11.Pin)])]
  let q24_f' : Fr := [(0, lA 2 (List.map e_PartType a0)), (5, .t (.v (.rt 1))), (6, .t (.v (.rt 5))), (16, lA 2 (List.map e_Part a1.Parts)), (17, iA (a1.Parts.length : Int)), (18, iA (i3 : Int)), (24, lA 2 (List.map e_Pin r7)), (25, iA (r7.length : Int)), (26, iA (i9 : Int))]
  let q24_g' : Hp := [(1, .map (keys PG 28) (encM kv_Pin dv_i64 r1)), (5, .row 28 2 (List.map e_Pin v19))]
  have R21 : Runs PG 45 0 (cR (cR (cR (cL (cL (cR (cR nl_LooseOf_c1))))))) q24_f q24_g (.nor q24_f' q24_g') := by
    rcases cnd_e h20 with ⟨h22, h20⟩ | ⟨h22, h20⟩
    · obtain ⟨h23, h20⟩ := grd_e h20
      have h20 := Option.some.inj h20
      subst h20
      exact Runs.path XTok PGmix [.b true, .r [.id 4, .row (List.map e_Pin [x11]), .id 5, .row (List.map e_Pin (y10 ++ [x11]))]] [] (an h22 (an (Eq.refl (List.flatten (List.map e_Pin [x11]))) (app_ok e_Pin h23))) (by kernel_rfl)
    · have h20 := Option.some.inj h20
      subst h20
      exact Runs.path XTok PGmix [.b false] [(5, 2)] h22 (by kernel_rfl)
  have h := Option.some.inj h
  subst h
  exact Runs.path XTok PGmix [.r [], .b true, .r [.el (e_Pin x11), .id 3], .s q18_f q18_g [] (.nor q18_f' q18_g'), .r [], .s q24_f q24_g [] (.nor q24_f' q24_g'), .r [.eq 42 (iA ((i9 + 1 : Nat) : Int))]] [(2, 5)] (an (lt_true hi) (an (idx_ok e_Pin h12) (an R15 (an R21 (wrap_eq hi hM))))) (by kernel_rfl)
theorem nl_LooseOf_b1_e (a0 : List PartType) (a1 : Netlist) (r1 : (List (Pin × Int))) (i3 : Nat) (r7 : List Pin) (y10 : List Pin) : Runs PG 45 0 nl_LooseOf_c1 (nl_LooseOf_F1 a0 a1 r1 i3 r7 (r7.length) y10) (nl_LooseOf_H1 a0 a1 r1 i3 r7 (r7.length) y10) (nl_LooseOf_B1 a0 a1 r1 i3 r7 y10) := by
  exact Runs.path XTok PGmix [.r [], .b false] [] (lt_false (r7.length)) (by kernel_rfl)
theorem nl_LooseOf_l1 (a0 : List PartType) (a1 : Netlist) (r1 : (List (Pin × Int))) (i3 : Nat) (r7 : List Pin) (y10 : List Pin) (r : Fin' (List Pin) (List Pin)) (h : forN (fun i9 s => nl_LooseOf_b1 a0 a1 r1 i3 r7 i9 s) (r7.length) 0 y10 = some r) : Runs PG 45 0 (cL (cR (cR (cL (cL (cR (cR nl_LooseOf_c0))))))) (nl_LooseOf_F1 a0 a1 r1 i3 r7 0 y10) (nl_LooseOf_H1 a0 a1 r1 i3 r7 0 y10) (finOc (nl_LooseOf_B1 a0 a1 r1 i3 r7) nl_LooseOf_R r) :=
  Runs.loop' (by kernel_rfl) (forN_rounds (σ := (List Pin)) (ρ := (List Pin)) (body := fun i9 s => nl_LooseOf_b1 a0 a1 r1 i3 r7 i9 s) (F := fun i9 s => nl_LooseOf_F1 a0 a1 r1 i3 r7 i9 s) (H := fun i9 s => nl_LooseOf_H1 a0 a1 r1 i3 r7 i9 s) (B := nl_LooseOf_B1 a0 a1 r1 i3 r7) (R := nl_LooseOf_R) (M := r7.length) (fun _ => rfl) (fun _ => rfl) (fun s => nl_LooseOf_b1_e a0 a1 r1 i3 r7 s) (fun i s o hi h => nl_LooseOf_b1_r a0 a1 r1 i3 r7 i s o hi h) _ 0 _ r (Nat.zero_add _) h)
noncomputable def nl_LooseOf_F0 (a0 : List PartType) (a1 : Netlist) (r1 : (List (Pin × Int))) (i3 : Nat) (y4 : List Pin) : Fr := [(0, lA 2 (List.map e_PartType a0)), (5, .t (.v (.rt 1))), (6, .t (.v (.rt 2))), (16, lA 2 (List.map e_Part a1.Parts)), (17, iA (a1.Parts.length : Int)), (18, iA (i3 : Int))]
noncomputable def nl_LooseOf_H0 (a0 : List PartType) (a1 : Netlist) (r1 : (List (Pin × Int))) (i3 : Nat) (y4 : List Pin) : Hp := [(1, .map (keys PG 28) (encM kv_Pin dv_i64 r1)), (2, .row 28 2 (List.map e_Pin y4))]
noncomputable def nl_LooseOf_B0 (a0 : List PartType) (a1 : Netlist) (r1 : (List (Pin × Int))) (s : List Pin) : Oc := .ex 0 [(6, .t (.v (.rt 2)))] [(2, .row 28 2 (List.map e_Pin s))]
noncomputable def nl_LooseOf_b0 (a0 : List PartType) (a1 : Netlist) (r1 : (List (Pin × Int))) (i3 : Nat) (y4 : List Pin) : Option (Stp (List Pin) (List Pin)) :=
 bnd (atI a1.Parts (i3 : Int)) fun x5 =>
 bnd (nl_pinsOf a0 x5) fun r7 =>
 aft1 (forN (fun i9 s => nl_LooseOf_b1 a0 a1 r1 i3 r7 i9 s) (r7.length) 0 y4) (fun u25 =>
 some (.go u25))
 (fun r27 =>
 some (.ret r27))
theorem nl_LooseOf_b0_r (a0 : List PartType) (a1 : Netlist) (r1 : (List (Pin × Int))) (i3 : Nat) (y4 : List Pin) (o : Stp (List Pin) (List Pin)) (hi : i3 < a1.Parts.length) (h : nl_LooseOf_b0 a0 a1 r1 i3 y4 = some o) :
    Runs PG 45 0 nl_LooseOf_c0 (nl_LooseOf_F0 a0 a1 r1 i3 y4) (nl_LooseOf_H0 a0 a1 r1 i3 y4) (stpOc (fun s' => .nor (nl_LooseOf_F0 a0 a1 r1 (i3 + 1) s') (nl_LooseOf_H0 a0 a1 r1 (i3 + 1) s')) (nl_LooseOf_B0 a0 a1 r1) nl_LooseOf_R o) := by
  unfold nl_LooseOf_b0 at h
  refine Runs.len (s := 16) (sz := 2) (xs := List.map e_Part a1.Parts) (by kernel_rfl) fun hl => ?_
  have hM : a1.Parts.length ≤ lim := len_of hl
  obtain ⟨x5, h6, h⟩ := bnd_e h
  obtain ⟨r7, h8, h⟩ := bnd_e h
  rcases aft1_e h with ⟨u25, h26, h⟩ | ⟨r27, h26, h⟩
  · have h := Option.some.inj h
    subst h
    exact Runs.path XTok PGmix [.r [], .b true, .r [.el (e_Part x5), .id 3], .r [.val (lA 2 (List.map e_Pin r7)), .eq 25 (iA (r7.length : Int))], .s (nl_LooseOf_F1 a0 a1 r1 i3 r7 0 y4) (nl_LooseOf_H1 a0 a1 r1 i3 r7 0 y4) [] (nl_LooseOf_B1 a0 a1 r1 i3 r7 u25), .r [.eq 43 (iA ((i3 + 1 : Nat) : Int))]] [] (an (lt_true hi) (an (idx_ok e_Part h6) (an (nl_pinsOf_ok a0 x5 r7 h8) (an (leni_eq e_Pin r7) (an (nl_LooseOf_l1 a0 a1 r1 i3 r7 y4 (.fin u25) h26) (wrap_eq hi hM)))))) (by kernel_rfl)
  · have h := Option.some.inj h
    subst h
    exact Runs.path XTok PGmix [.r [], .b true, .r [.el (e_Part x5), .id 3], .r [.val (lA 2 (List.map e_Pin r7)), .eq 25 (iA (r7.length : Int))], .s (nl_LooseOf_F1 a0 a1 r1 i3 r7 0 y4) (nl_LooseOf_H1 a0 a1 r1 i3 r7 0 y4) [] (nl_LooseOf_R r27)] [] (an (lt_true hi) (an (idx_ok e_Part h6) (an (nl_pinsOf_ok a0 x5 r7 h8) (an (leni_eq e_Pin r7) (nl_LooseOf_l1 a0 a1 r1 i3 r7 y4 (.ret r27) h26))))) (by kernel_rfl)
theorem nl_LooseOf_b0_e (a0 : List PartType) (a1 : Netlist) (r1 : (List (Pin × Int))) (y4 : List Pin) : Runs PG 45 0 nl_LooseOf_c0 (nl_LooseOf_F0 a0 a1 r1 (a1.Parts.length) y4) (nl_LooseOf_H0 a0 a1 r1 (a1.Parts.length) y4) (nl_LooseOf_B0 a0 a1 r1 y4) := by
  exact Runs.path XTok PGmix [.r [], .b false] [] (lt_false (a1.Parts.length)) (by kernel_rfl)
theorem nl_LooseOf_l0 (a0 : List PartType) (a1 : Netlist) (r1 : (List (Pin × Int))) (y4 : List Pin) (r : Fin' (List Pin) (List Pin)) (h : forN (fun i3 s => nl_LooseOf_b0 a0 a1 r1 i3 s) (a1.Parts.length) 0 y4 = some r) : Runs PG 45 0 (cL (cR (cL (cR (cR (cR nl_LooseOf_c)))))) (nl_LooseOf_F0 a0 a1 r1 0 y4) (nl_LooseOf_H0 a0 a1 r1 0 y4) (finOc (nl_LooseOf_B0 a0 a1 r1) nl_LooseOf_R r) :=
  Runs.loop' (by kernel_rfl) (forN_rounds (σ := (List Pin)) (ρ := (List Pin)) (body := fun i3 s => nl_LooseOf_b0 a0 a1 r1 i3 s) (F := fun i3 s => nl_LooseOf_F0 a0 a1 r1 i3 s) (H := fun i3 s => nl_LooseOf_H0 a0 a1 r1 i3 s) (B := nl_LooseOf_B0 a0 a1 r1) (R := nl_LooseOf_R) (M := a1.Parts.length) (fun _ => rfl) (fun _ => rfl) (fun s => nl_LooseOf_b0_e a0 a1 r1 s) (fun i s o hi h => nl_LooseOf_b0_r a0 a1 r1 i s o hi h) _ 0 _ r (Nat.zero_add _) h)
noncomputable def nl_LooseOf (a0 : List PartType) (a1 : Netlist) : Option (List Pin) :=
 bnd (nl_Nets a1) fun r1 =>
 aft1 (forN (fun i3 s => nl_LooseOf_b0 a0 a1 r1 i3 s) (a1.Parts.length) 0 []) (fun u28 =>
 some u28)
 (fun r30 =>
 some r30)
theorem nl_LooseOf_ok (a0 : List PartType) (a1 : Netlist) (r : List Pin) (h : nl_LooseOf a0 a1 = some r) : Spec PG 54 [lT 2 (List.map e_PartType a0), gT (e_Netlist a1)] [] (lA 2 (List.map e_Pin r)) [] := by
  unfold nl_LooseOf at h
  obtain ⟨r1, h2, h⟩ := bnd_e h
  rcases aft1_e h with ⟨u28, h29, h⟩ | ⟨r30, h29, h⟩
  · have h := Option.some.inj h
    subst h
    exact Spec.path XTok PGmix nl_LooseOf_fn 0 [.r [.id 0, .nl 2], .r [.call [(0, 1)] [gT (e_Netlist a1)] [] (.t (.v (.rt 0))) [(0, .map (keys PG 28) (encM kv_Pin dv_i64 r1))]], .r [.mk 2 28 2], .r [.eq 17 (iA (a1.Parts.length : Int))], .s (nl_LooseOf_F0 a0 a1 r1 0 []) (nl_LooseOf_H0 a0 a1 r1 0 []) [] (nl_LooseOf_B0 a0 a1 r1 u28), .r [], .f 2] (an (an (nl_Nets_ok a1 r1 h2) (an (Eq.refl ([gT (e_Netlist a1)] : List TV)) (Eq.refl (renH (asg [(0, 1)]) [])))) (an (leni_eq e_Part a1.Parts) (nl_LooseOf_l0 a0 a1 r1 [] (.fin u28) h29))) (by kernel_rfl)
  · have h := Option.some.inj h
    subst h
    exact Spec.path XTok PGmix nl_LooseOf_fn 0 [.r [.id 0, .nl 2], .r [.call [(0, 1)] [gT (e_Netlist a1)] [] (.t (.v (.rt 0))) [(0, .map (keys PG 28) (encM kv_Pin dv_i64 r1))]], .r [.mk 2 28 2], .r [.eq 17 (iA (a1.Parts.length : Int))], .s (nl_LooseOf_F0 a0 a1 r1 0 []) (nl_LooseOf_H0 a0 a1 r1 0 []) [] (nl_LooseOf_R r30)] (an (an (nl_Nets_ok a1 r1 h2) (an (Eq.refl ([gT (e_Netlist a1)] : List TV)) (Eq.refl (renH (asg [(0, 1)]) [])))) (an (leni_eq e_Part a1.Parts) (nl_LooseOf_l0 a0 a1 r1 [] (.ret r30) h29))) (by kernel_rfl)

noncomputable def nl_Loose_c : Code := (Go.Proofs.Tryd.f17.body).getD .skip
theorem nl_Loose_fn : FnOk PG 17 nl_Loose_c 16 [.tmp 4, .tmp 5] := ⟨⟨Go.Proofs.Tryd.f17, by kernel_rfl, by kernel_rfl, by kernel_rfl, by kernel_rfl, by kernel_rfl⟩⟩
noncomputable def nl_Loose (a0 : List PartType) (a1 : Netlist) : Option (List Pin × Int) :=
 bnd (nl_CheckList a0 a1) fun r1 =>
 cnd (r1 != 0) (some ([], r1)) (bnd (nl_LooseOf a0 a1) fun r4 =>
 some (r4, 0))
theorem nl_Loose_ok (a0 : List PartType) (a1 : Netlist) (r : List Pin × Int) (h : nl_Loose a0 a1 = some r) : Spec PG 17 [lT 2 (List.map e_PartType a0), gT (e_Netlist a1)] [] (.tup [lT 2 (List.map e_Pin r.1), iT r.2]) [] := by
  unfold nl_Loose at h
  obtain ⟨r1, h2, h⟩ := bnd_e h
  rcases cnd_e h with ⟨h3, h⟩ | ⟨h3, h⟩
  · have h := Option.some.inj h
    subst h
    exact Spec.path XTok PGmix nl_Loose_fn 0 [.r [.id 0, .nl 2], .r [.val (iA r1)], .r [], .b true, .r [.nl 2]] (an (nl_CheckList_ok a0 a1 r1 h2) h3) (by kernel_rfl)
  · obtain ⟨r4, h5, h⟩ := bnd_e h
    have h := Option.some.inj h
    subst h
    exact Spec.path XTok PGmix nl_Loose_fn 0 [.r [.id 0, .nl 2], .r [.val (iA r1)], .r [], .b false, .r [.val (lA 2 (List.map e_Pin r4))]] (an (nl_CheckList_ok a0 a1 r1 h2) (an h3 (nl_LooseOf_ok a0 a1 r4 h5))) (by kernel_rfl)

noncomputable def ref_loose_c : Code := (Go.Proofs.Tryd.f55.body).getD .skip
theorem ref_loose_fn : FnOk PG 55 ref_loose_c 47 [.tmp 4] := ⟨⟨Go.Proofs.Tryd.f55, by kernel_rfl, by kernel_rfl, by kernel_rfl, by kernel_rfl, by kernel_rfl⟩⟩
noncomputable def ref_loose_c0 : Code := cL (cL (cR (cL (cR (cR ref_loose_c)))))
noncomputable def ref_loose_R (r : List Pin) : Oc := .ret [(4, lA 2 (List.map e_Pin r))] []
noncomputable def ref_loose_c1 : Code := cL (cL (cR (cR (cL (cL (cR (cR ref_loose_c0)))))))
noncomputable def ref_loose_F1 (a0 : List PartType) (a1 : Netlist) (i1 : Nat) (x3 : Part) (x7 : PartType) (i9 : Nat) (y10 : List Pin) : Fr := [(0, lA 2 (List.map e_PartType a0)), (3, .t (.v (.ptr 0 0))), (5, .t (.v (.rt 1))), (7, .t (.v (.ptr 2 0))), (12, lA 2 (List.map e_Part a1.Parts)), (13, iA (a1.Parts.length : Int)), (14, iA (i1 : Int)), (25, lA 3 (List.map e_PinType x7.Pins)), (26, iA (x7.Pins.length : Int)), (27, iA (i9 : Int))]
noncomputable def ref_loose_H1 (a0 : List PartType) (a1 : Netlist) (i1 : Nat) (x3 : Part) (x7 : PartType) (i9 : Nat) (y10 : List Pin) : Hp := [(0, .cells 26 [.c (.sl 2 (List.map e_Part a1.Parts)), .c (.sl 3 (List.map e_Net a1.Nets))]), (1, .row 28 2 (List.map e_Pin y10)), (2, .cells 73 [.c (sC x3.Name), .c (sC x3.Type_)])]
noncomputable def ref_loose_B1 (a0 : List PartType) (a1 : Netlist) (i1 : Nat) (x3 : Part) (x7 : PartType) (s : List Pin) : Oc := .ex 2 [(0, lA 2 (List.map e_PartType a0)), (3, .t (.v (.ptr 0 0))), (5, .t (.v (.rt 1))), (12, lA 2 (List.map e_Part a1.Parts)), (13, iA (a1.Parts.length : Int)), (14, iA (i1 : Int))] [(0, .cells 26 [.c (.sl 2 (List.map e_Part a1.Parts)), .c (.sl 3 (List.map e_Net a1.Nets))]), (1, .row 28 2 (List.map e_Pin s))]
noncomputable def ref_loose_b1 (a0 : List PartType) (a1 : Netlist) (i1 : Nat) (x3 : Part) (x7 : PartType) (i9 : Nat) (y10 : List Pin) : Option (Stp (List Pin) (List Pin)) :=
 bnd (atI x7.Pins (i9 : Int)) fun x11 =>
 bnd (ref_netOf a1 (⟨x3.Name, x11.Name⟩ : Pin)) fun r13 =>
 bnd1 (cnd (decide (r13 < 0)) (grd (y10.length + [(⟨x3.Name, x11.Name⟩ : Pin)].length ≤ lim) <|
 some (y10 ++ [(⟨x3.Name, x11.Name⟩ : Pin)])) (some y10)) fun v15 =>
 some (.go v15)
theorem ref_loose_b1_r (a0 : List PartType) (a1 : Netlist) (i1 : Nat) (x3 : Part) (x7 : PartType) (i9 : Nat) (y10 : List Pin) (o : Stp (List Pin) (List Pin)) (hi : i9 < x7.Pins.length) (h : ref_loose_b1 a0 a1 i1 x3 x7 i9 y10 = some o) :
    Runs PG 47 0 ref_loose_c1 (ref_loose_F1 a0 a1 i1 x3 x7 i9 y10) (ref_loose_H1 a0 a1 i1 x3 x7 i9 y10) (stpOc (fun s' => .nor (ref_loose_F1 a0 a1 i1 x3 x7 (i9 + 1) s') (ref_loose_H1 a0 a1 i1 x3 x7 (i9 + 1) s')) (ref_loose_B1 a0 a1 i1 x3 x7) ref_loose_R o) := by
  unfold ref_loose_b1 at h
  refine Runs.len (s := 25) (sz := 3) (xs := List.map e_PinType x7.Pins) (by kernel_rfl) fun hl => ?_
  have hM : x7.Pins.length ≤ lim := len_of hl
  obtain ⟨x11, h12, h⟩ := bnd_e h
  obtain ⟨r13, h14, h⟩ := bnd_e h
  obtain ⟨v15, h16, h⟩ := bnd1_e h
  let q20_f : Fr := [(0, lA 2 (List.map e_PartType a0)), (3, .t (.v (.ptr 0 0))), (5, .t (.v (.rt 1))), (7, .t (.v (.ptr 2 0))), (10, .t (.v (.ptr 4 0))), (12, lA 2 (List.map e_Part a1.Parts)), (13, iA (a1.Parts.length : Int)), (14, iA (i1 : Int)), (25, lA 3 (List.map e_PinType x7.Pins)), (26, iA (x7.Pins.length : Int)), (27, iA (i9 : Int)), (39, bA (decide (r13 < 0)))]
  let q20_g : Hp := [(0, .cells 26 [.c (.sl 2 (List.map e_Part a1.Parts)), .c (.sl 3 (List.map e_Net a1.Nets))]), (1, .row 28 2 (List.map e_Pin y10)), (2, .cells 73 [.c (sC x3.Name), .c (sC x3.Type_)]), (4, .cells 28 [.c (sC x3.Name), .c (sC x11.Name)])]
  let q20_f' : Fr := [(0, lA 2 (List.map e_PartType a0)), (3, .t (.v (.ptr 0 0))), (5, .t (.v (.rt 6))), (7, .t (.v (.ptr 2 0))), (12, lA 2 (List.map e_Part a1.Parts)), (13, iA (a1.Parts.length : Int)), (14, iA (i1 : Int)), (25, lA 3 (List.map e_PinType x7.Pins)), (26, iA (x7.Pins.length : Int)), (27, iA (i9 : Int))]
  let q20_g' : Hp := [(0, .cells 26 [.c (.sl 2 (List.map e_Part a1.Parts)), .c (.sl 3 (List.map e_Net a1.Nets))]), (2, .cells 73 [.c (sC x3.Name), .c (sC x3.Type_)]), (6, .row 28 2 (List.map e_Pin v15))]
  have R17 : Runs PG 47 0 (cR (cR (cR (cL (cL (cR (cR ref_loose_c1))))))) q20_f q20_g (.nor q20_f' q20_g') := by
    rcases cnd_e h16 with ⟨h18, h16⟩ | ⟨h18, h16⟩
    · obtain ⟨h19, h16⟩ := grd_e h16
      have h16 := Option.some.inj h16
      subst h16
      exact Runs.path XTok PGmix [.b true, .r [.id 5, .row (List.map e_Pin [(⟨x3.Name, x11.Name⟩ : Pin)]), .id 6, .row (List.map e_Pin (y10 ++ [(⟨x3.Name, x11.Name⟩ : Pin)]))]] [] (an h18 (an (Eq.refl (List.flatten (List.map e_Pin [(⟨x3.Name, x11.Name⟩ : Pin)]))) (app_ok e_Pin h19))) (by kernel_rfl)
    · have h16 := Option.some.inj h16
      subst h16
      exact Runs.path XTok PGmix [.b false] [(6, 1)] h18 (by kernel_rfl)
  have h := Option.some.inj h
  subst h
  exact Runs.path XTok PGmix [.r [], .b true, .r [.el (e_PinType x11), .id 3], .r [.id 4], .r [.val (iA r13)], .s q20_f q20_g [] (.nor q20_f' q20_g'), .r [.eq 44 (iA ((i9 + 1 : Nat) : Int))]] [(1, 6)] (an (lt_true hi) (an (idx_ok e_PinType h12) (an (ref_netOf_ok a1 (⟨x3.Name, x11.Name⟩ : Pin) r13 h14) (an R17 (wrap_eq hi hM))))) (by kernel_rfl)
theorem ref_loose_b1_e (a0 : List PartType) (a1 : Netlist) (i1 : Nat) (x3 : Part) (x7 : PartType) (y10 : List Pin) : Runs PG 47 0 ref_loose_c1 (ref_loose_F1 a0 a1 i1 x3 x7 (x7.Pins.length) y10) (ref_loose_H1 a0 a1 i1 x3 x7 (x7.Pins.length) y10) (ref_loose_B1 a0 a1 i1 x3 x7 y10) := by
  exact Runs.path XTok PGmix [.r [], .b false] [] (lt_false (x7.Pins.length)) (by kernel_rfl)
theorem ref_loose_l1 (a0 : List PartType) (a1 : Netlist) (i1 : Nat) (x3 : Part) (x7 : PartType) (y10 : List Pin) (r : Fin' (List Pin) (List Pin)) (h : forN (fun i9 s => ref_loose_b1 a0 a1 i1 x3 x7 i9 s) (x7.Pins.length) 0 y10 = some r) : Runs PG 47 0 (cL (cR (cR (cL (cL (cR (cR ref_loose_c0))))))) (ref_loose_F1 a0 a1 i1 x3 x7 0 y10) (ref_loose_H1 a0 a1 i1 x3 x7 0 y10) (finOc (ref_loose_B1 a0 a1 i1 x3 x7) ref_loose_R r) :=
  Runs.loop' (by kernel_rfl) (forN_rounds (σ := (List Pin)) (ρ := (List Pin)) (body := fun i9 s => ref_loose_b1 a0 a1 i1 x3 x7 i9 s) (F := fun i9 s => ref_loose_F1 a0 a1 i1 x3 x7 i9 s) (H := fun i9 s => ref_loose_H1 a0 a1 i1 x3 x7 i9 s) (B := ref_loose_B1 a0 a1 i1 x3 x7) (R := ref_loose_R) (M := x7.Pins.length) (fun _ => rfl) (fun _ => rfl) (fun s => ref_loose_b1_e a0 a1 i1 x3 x7 s) (fun i s o hi h => ref_loose_b1_r a0 a1 i1 x3 x7 i s o hi h) _ 0 _ r (Nat.zero_add _) h)
noncomputable def ref_loose_F0 (a0 : List PartType) (a1 : Netlist) (i1 : Nat) (y2 : List Pin) : Fr := [(0, lA 2 (List.map e_PartType a0)), (3, .t (.v (.ptr 0 0))), (5, .t (.v (.rt 1))), (12, lA 2 (List.map e_Part a1.Parts)), (13, iA (a1.Parts.length : Int)), (14, iA (i1 : Int))]
noncomputable def ref_loose_H0 (a0 : List PartType) (a1 : Netlist) (i1 : Nat) (y2 : List Pin) : Hp := [(0, .cells 26 [.c (.sl 2 (List.map e_Part a1.Parts)), .c (.sl 3 (List.map e_Net a1.Nets))]), (1, .row 28 2 (List.map e_Pin y2))]
noncomputable def ref_loose_B0 (a0 : List PartType) (a1 : Netlist) (s : List Pin) : Oc := .ex 0 [(5, .t (.v (.rt 1)))] [(1, .row 28 2 (List.map e_Pin s))]
noncomputable def ref_loose_b0 (a0 : List PartType) (a1 : Netlist) (i1 : Nat) (y2 : List Pin) : Option (Stp (List Pin) (List Pin)) :=
 bnd (atI a1.Parts (i1 : Int)) fun x3 =>
 bnd (ref_typeOf a0 x3.Type_) fun r5 =>
 bnd (atI a0 r5) fun x7 =>
 aft1 (forN (fun i9 s => ref_loose_b1 a0 a1 i1 x3 x7 i9 s) (x7.Pins.length) 0 y2) (fun u21 =>
 some (.go u21))
 (fun r23 =>
 some (.ret r23))
theorem ref_loose_b0_r (a0 : List PartType) (a1 : Netlist) (i1 : Nat) (y2 : List Pin) (o : Stp (List Pin) (List Pin)) (hi : i1 < a1.Parts.length) (h : ref_loose_b0 a0 a1 i1 y2 = some o) :
    Runs PG 47 0 ref_loose_c0 (ref_loose_F0 a0 a1 i1 y2) (ref_loose_H0 a0 a1 i1 y2) (stpOc (fun s' => .nor (ref_loose_F0 a0 a1 (i1 + 1) s') (ref_loose_H0 a0 a1 (i1 + 1) s')) (ref_loose_B0 a0 a1) ref_loose_R o) := by
  unfold ref_loose_b0 at h
  refine Runs.len (s := 12) (sz := 2) (xs := List.map e_Part a1.Parts) (by kernel_rfl) fun hl => ?_
  have hM : a1.Parts.length ≤ lim := len_of hl
  obtain ⟨x3, h4, h⟩ := bnd_e h
  obtain ⟨r5, h6, h⟩ := bnd_e h
  obtain ⟨x7, h8, h⟩ := bnd_e h
  rcases aft1_e h with ⟨u21, h22, h⟩ | ⟨r23, h22, h⟩
  · have h := Option.some.inj h
    subst h
    exact Runs.path XTok PGmix [.r [], .b true, .r [.el (e_Part x3), .id 2], .r [.val (iA r5), .el (e_PartType x7), .eq 26 (iA (x7.Pins.length : Int))], .s (ref_loose_F1 a0 a1 i1 x3 x7 0 y2) (ref_loose_H1 a0 a1 i1 x3 x7 0 y2) [] (ref_loose_B1 a0 a1 i1 x3 x7 u21), .r [.eq 45 (iA ((i1 + 1 : Nat) : Int))]] [] (an (lt_true hi) (an (idx_ok e_Part h4) (an (ref_typeOf_ok a0 x3.Type_ r5 h6) (an (idx_ok e_PartType h8) (an (leni_eq e_PinType x7.Pins) (an (ref_loose_l1 a0 a1 i1 x3 x7 y2 (.fin u21) h22) (wrap_eq hi hM))))))) (by kernel_rfl)
  · have h := Option.some.inj h
    subst h
    exact Runs.path XTok PGmix [.r [], .b true, .r [.el (e_Part x3), .id 2], .r [.val (iA r5), .el (e_PartType x7), .eq 26 (iA (x7.Pins.length : Int))], .s (ref_loose_F1 a0 a1 i1 x3 x7 0 y2) (ref_loose_H1 a0 a1 i1 x3 x7 0 y2) [] (ref_loose_R r23)] [] (an (lt_true hi) (an (idx_ok e_Part h4) (an (ref_typeOf_ok a0 x3.Type_ r5 h6) (an (idx_ok e_PartType h8) (an (leni_eq e_PinType x7.Pins) (ref_loose_l1 a0 a1 i1 x3 x7 y2 (.ret r23) h22)))))) (by kernel_rfl)
theorem ref_loose_b0_e (a0 : List PartType) (a1 : Netlist) (y2 : List Pin) : Runs PG 47 0 ref_loose_c0 (ref_loose_F0 a0 a1 (a1.Parts.length) y2) (ref_loose_H0 a0 a1 (a1.Parts.length) y2) (ref_loose_B0 a0 a1 y2) := by
  exact Runs.path XTok PGmix [.r [], .b false] [] (lt_false (a1.Parts.length)) (by kernel_rfl)
theorem ref_loose_l0 (a0 : List PartType) (a1 : Netlist) (y2 : List Pin) (r : Fin' (List Pin) (List Pin)) (h : forN (fun i1 s => ref_loose_b0 a0 a1 i1 s) (a1.Parts.length) 0 y2 = some r) : Runs PG 47 0 (cL (cR (cL (cR (cR ref_loose_c))))) (ref_loose_F0 a0 a1 0 y2) (ref_loose_H0 a0 a1 0 y2) (finOc (ref_loose_B0 a0 a1) ref_loose_R r) :=
  Runs.loop' (by kernel_rfl) (forN_rounds (σ := (List Pin)) (ρ := (List Pin)) (body := fun i1 s => ref_loose_b0 a0 a1 i1 s) (F := fun i1 s => ref_loose_F0 a0 a1 i1 s) (H := fun i1 s => ref_loose_H0 a0 a1 i1 s) (B := ref_loose_B0 a0 a1) (R := ref_loose_R) (M := a1.Parts.length) (fun _ => rfl) (fun _ => rfl) (fun s => ref_loose_b0_e a0 a1 s) (fun i s o hi h => ref_loose_b0_r a0 a1 i s o hi h) _ 0 _ r (Nat.zero_add _) h)
noncomputable def ref_loose (a0 : List PartType) (a1 : Netlist) : Option (List Pin) :=
 aft1 (forN (fun i1 s => ref_loose_b0 a0 a1 i1 s) (a1.Parts.length) 0 []) (fun u24 =>
 some u24)
 (fun r26 =>
 some r26)
theorem ref_loose_ok (a0 : List PartType) (a1 : Netlist) (r : List Pin) (h : ref_loose a0 a1 = some r) : Spec PG 55 [lT 2 (List.map e_PartType a0), gT (e_Netlist a1)] [] (lA 2 (List.map e_Pin r)) [] := by
  unfold ref_loose at h
  rcases aft1_e h with ⟨u24, h25, h⟩ | ⟨r26, h25, h⟩
  · have h := Option.some.inj h
    subst h
    exact Spec.path XTok PGmix ref_loose_fn 0 [.r [.id 0, .nl 2], .r [.mk 1 28 2], .r [.eq 13 (iA (a1.Parts.length : Int))], .s (ref_loose_F0 a0 a1 0 []) (ref_loose_H0 a0 a1 0 []) [] (ref_loose_B0 a0 a1 u24), .r [], .f 1] (an (leni_eq e_Part a1.Parts) (ref_loose_l0 a0 a1 [] (.fin u24) h25)) (by kernel_rfl)
  · have h := Option.some.inj h
    subst h
    exact Spec.path XTok PGmix ref_loose_fn 0 [.r [.id 0, .nl 2], .r [.mk 1 28 2], .r [.eq 13 (iA (a1.Parts.length : Int))], .s (ref_loose_F0 a0 a1 0 []) (ref_loose_H0 a0 a1 0 []) [] (ref_loose_R r26)] (an (leni_eq e_Part a1.Parts) (ref_loose_l0 a0 a1 [] (.ret r26) h25)) (by kernel_rfl)

noncomputable def ref_Loose_c : Code := (Go.Proofs.Tryd.f18.body).getD .skip
theorem ref_Loose_fn : FnOk PG 18 ref_Loose_c 16 [.tmp 4, .tmp 5] := ⟨⟨Go.Proofs.Tryd.f18, by kernel_rfl, by kernel_rfl, by kernel_rfl, by kernel_rfl, by kernel_rfl⟩⟩
noncomputable def ref_Loose (a0 : List PartType) (a1 : Netlist) : Option (List Pin × Int) :=
 bnd (ref_CheckList a0 a1) fun r1 =>
 cnd (r1 != 0) (some ([], r1)) (bnd (ref_loose a0 a1) fun r4 =>
 some (r4, 0))
theorem ref_Loose_ok (a0 : List PartType) (a1 : Netlist) (r : List Pin × Int) (h : ref_Loose a0 a1 = some r) : Spec PG 18 [lT 2 (List.map e_PartType a0), gT (e_Netlist a1)] [] (.tup [lT 2 (List.map e_Pin r.1), iT r.2]) [] := by
  unfold ref_Loose at h
  obtain ⟨r1, h2, h⟩ := bnd_e h
  rcases cnd_e h with ⟨h3, h⟩ | ⟨h3, h⟩
  · have h := Option.some.inj h
    subst h
    exact Spec.path XTok PGmix ref_Loose_fn 0 [.r [.id 0, .nl 2], .r [.val (iA r1)], .r [], .b true, .r [.nl 2]] (an (ref_CheckList_ok a0 a1 r1 h2) h3) (by kernel_rfl)
  · obtain ⟨r4, h5, h⟩ := bnd_e h
    have h := Option.some.inj h
    subst h
    exact Spec.path XTok PGmix ref_Loose_fn 0 [.r [.id 0, .nl 2], .r [.val (iA r1)], .r [], .b false, .r [.val (lA 2 (List.map e_Pin r4))]] (an (ref_CheckList_ok a0 a1 r1 h2) (an h3 (ref_loose_ok a0 a1 r4 h5))) (by kernel_rfl)

noncomputable def slices_Equal_api_Pin_api_Pin_c : Code := (Go.Proofs.Tryd.f19.body).getD .skip
theorem slices_Equal_api_Pin_api_Pin_fn : FnOk PG 19 slices_Equal_api_Pin_api_Pin_c 26 [.tmp 4] := ⟨⟨Go.Proofs.Tryd.f19, by kernel_rfl, by kernel_rfl, by kernel_rfl, by kernel_rfl, by kernel_rfl⟩⟩
noncomputable def slices_Equal_api_Pin_api_Pin_c0 : Code := cL (cL (cR (cL (cR (cR slices_Equal_api_Pin_api_Pin_c)))))
noncomputable def slices_Equal_api_Pin_api_Pin_R (r : Bool) : Oc := .ret [(4, bA r)] []
noncomputable def slices_Equal_api_Pin_api_Pin_F0 (a0 : List Pin) (a1 : List Pin) (i2 : Nat) : Fr := [(0, lA 2 (List.map e_Pin a0)), (1, lA 2 (List.map e_Pin a1)), (11, lA 2 (List.map e_Pin a0)), (12, iA (a0.length : Int)), (13, iA (i2 : Int))]
noncomputable def slices_Equal_api_Pin_api_Pin_H0 (a0 : List Pin) (a1 : List Pin) (i2 : Nat) : Hp := []
noncomputable def slices_Equal_api_Pin_api_Pin_B0 (a0 : List Pin) (a1 : List Pin) (s : Unit) : Oc := .ex 0 [] []
noncomputable def slices_Equal_api_Pin_api_Pin_b0 (a0 : List Pin) (a1 : List Pin) (i2 : Nat) : Option (Stp Unit Bool) :=
 bnd (atI a0 (i2 : Int)) fun x3 =>
 bnd (atI a1 (i2 : Int)) fun x5 =>
 cnd (!(sEq x3.Part x5.Part && (sEq x3.Pin x5.Pin && true))) (some (.ret false)) (some (.go ()))
theorem slices_Equal_api_Pin_api_Pin_b0_r (a0 : List Pin) (a1 : List Pin) (i2 : Nat) (o : Stp Unit Bool) (hi : i2 < a0.length) (h : slices_Equal_api_Pin_api_Pin_b0 a0 a1 i2 = some o) :
    Runs PG 26 0 slices_Equal_api_Pin_api_Pin_c0 (slices_Equal_api_Pin_api_Pin_F0 a0 a1 i2 ) (slices_Equal_api_Pin_api_Pin_H0 a0 a1 i2 ) (stpOc (fun s' => .nor (slices_Equal_api_Pin_api_Pin_F0 a0 a1 (i2 + 1) ) (slices_Equal_api_Pin_api_Pin_H0 a0 a1 (i2 + 1) )) (slices_Equal_api_Pin_api_Pin_B0 a0 a1) slices_Equal_api_Pin_api_Pin_R o) := by
  unfold slices_Equal_api_Pin_api_Pin_b0 at h
  refine Runs.len (s := 11) (sz := 2) (xs := List.map e_Pin a0) (by kernel_rfl) fun hl => ?_
  have hM : a0.length ≤ lim := len_of hl
  obtain ⟨x3, h4, h⟩ := bnd_e h
  obtain ⟨x5, h6, h⟩ := bnd_e h
  rcases cnd_e h with ⟨h7, h⟩ | ⟨h7, h⟩
  · have h := Option.some.inj h
    subst h
    exact Runs.path XTok PGmix [.r [], .b true, .r [], .d [([], []), ([], []), ([], [.el (e_Pin x3)]), ([], []), ([], []), ([], []), ([], [.el (e_Pin x5)]), ([], []), ([], [])], .b true, .r []] [] (an (lt_true hi) (an (idx_ok e_Pin h4) (an (idx_ok e_Pin h6) h7))) (by kernel_rfl)
  · have h := Option.some.inj h
    subst h
    exact Runs.path XTok PGmix [.r [], .b true, .r [], .d [([], []), ([], []), ([], [.el (e_Pin x3)]), ([], []), ([], []), ([], []), ([], [.el (e_Pin x5)]), ([], []), ([], [])], .b false, .r [.eq 25 (iA ((i2 + 1 : Nat) : Int))]] [] (an (lt_true hi) (an (idx_ok e_Pin h4) (an (idx_ok e_Pin h6) (an h7 (wrap_eq hi hM))))) (by kernel_rfl)
theorem slices_Equal_api_Pin_api_Pin_b0_e (a0 : List Pin) (a1 : List Pin) : Runs PG 26 0 slices_Equal_api_Pin_api_Pin_c0 (slices_Equal_api_Pin_api_Pin_F0 a0 a1 (a0.length) ) (slices_Equal_api_Pin_api_Pin_H0 a0 a1 (a0.length) ) (slices_Equal_api_Pin_api_Pin_B0 a0 a1 ()) := by
  exact Runs.path XTok PGmix [.r [], .b false] [] (lt_false (a0.length)) (by kernel_rfl)
theorem slices_Equal_api_Pin_api_Pin_l0 (a0 : List Pin) (a1 : List Pin) (r : Fin' Unit Bool) (h : forN (fun i2 s => slices_Equal_api_Pin_api_Pin_b0 a0 a1 i2 ) (a0.length) 0 () = some r) : Runs PG 26 0 (cL (cR (cL (cR (cR slices_Equal_api_Pin_api_Pin_c))))) (slices_Equal_api_Pin_api_Pin_F0 a0 a1 0 ) (slices_Equal_api_Pin_api_Pin_H0 a0 a1 0 ) (finOc (slices_Equal_api_Pin_api_Pin_B0 a0 a1) slices_Equal_api_Pin_api_Pin_R r) :=
  Runs.loop' (by kernel_rfl) (forN_rounds (σ := Unit) (ρ := Bool) (body := fun i2 s => slices_Equal_api_Pin_api_Pin_b0 a0 a1 i2 ) (F := fun i2 s => slices_Equal_api_Pin_api_Pin_F0 a0 a1 i2 ) (H := fun i2 s => slices_Equal_api_Pin_api_Pin_H0 a0 a1 i2 ) (B := slices_Equal_api_Pin_api_Pin_B0 a0 a1) (R := slices_Equal_api_Pin_api_Pin_R) (M := a0.length) (fun _ => rfl) (fun _ => rfl) (fun s => slices_Equal_api_Pin_api_Pin_b0_e a0 a1 ) (fun i s o hi h => slices_Equal_api_Pin_api_Pin_b0_r a0 a1 i o hi h) _ 0 _ r (Nat.zero_add _) h)
noncomputable def slices_Equal_api_Pin_api_Pin (a0 : List Pin) (a1 : List Pin) : Option Bool :=
 cnd ((a0.length : Int) != (a1.length : Int)) (some false) (aft0 (forN (fun i2 s => slices_Equal_api_Pin_api_Pin_b0 a0 a1 i2 ) (a0.length) 0 ()) (
 some true)
 (fun r9 =>
 some r9))
theorem slices_Equal_api_Pin_api_Pin_ok (a0 : List Pin) (a1 : List Pin) (r : Bool) (h : slices_Equal_api_Pin_api_Pin a0 a1 = some r) : Spec PG 19 [lT 2 (List.map e_Pin a0), lT 2 (List.map e_Pin a1)] [] (bA r) [] := by
  unfold slices_Equal_api_Pin_api_Pin at h
  rcases cnd_e h with ⟨h1, h⟩ | ⟨h1, h⟩
  · have h := Option.some.inj h
    subst h
    exact Spec.path XTok PGmix slices_Equal_api_Pin_api_Pin_fn 0 [.r [], .r [.eq 7 (iA (a0.length : Int)), .eq 9 (iA (a1.length : Int))], .b true, .r []] (an (leni_eq e_Pin a0) (an (leni_eq e_Pin a1) h1)) (by kernel_rfl)
  · rcases aft0_e h with ⟨h8, h⟩ | ⟨r9, h8, h⟩
    · have h := Option.some.inj h
      subst h
      exact Spec.path XTok PGmix slices_Equal_api_Pin_api_Pin_fn 0 [.r [], .r [.eq 7 (iA (a0.length : Int)), .eq 9 (iA (a1.length : Int))], .b false, .r [.eq 12 (iA (a0.length : Int))], .s (slices_Equal_api_Pin_api_Pin_F0 a0 a1 0 ) (slices_Equal_api_Pin_api_Pin_H0 a0 a1 0 ) [] (slices_Equal_api_Pin_api_Pin_B0 a0 a1 ()), .r []] (an (leni_eq e_Pin a0) (an (leni_eq e_Pin a1) (an h1 (an (leni_eq e_Pin a0) (slices_Equal_api_Pin_api_Pin_l0 a0 a1 (.fin ()) h8))))) (by kernel_rfl)
    · have h := Option.some.inj h
      subst h
      exact Spec.path XTok PGmix slices_Equal_api_Pin_api_Pin_fn 0 [.r [], .r [.eq 7 (iA (a0.length : Int)), .eq 9 (iA (a1.length : Int))], .b false, .r [.eq 12 (iA (a0.length : Int))], .s (slices_Equal_api_Pin_api_Pin_F0 a0 a1 0 ) (slices_Equal_api_Pin_api_Pin_H0 a0 a1 0 ) [] (slices_Equal_api_Pin_api_Pin_R r9)] (an (leni_eq e_Pin a0) (an (leni_eq e_Pin a1) (an h1 (an (leni_eq e_Pin a0) (slices_Equal_api_Pin_api_Pin_l0 a0 a1 (.ret r9) h8))))) (by kernel_rfl)

noncomputable def law_awake_c : Code := (Go.Proofs.Tryd.f20.body).getD .skip
theorem law_awake_fn : FnOk PG 20 law_awake_c 30 [.tmp 0] := ⟨⟨Go.Proofs.Tryd.f20, by kernel_rfl, by kernel_rfl, by kernel_rfl, by kernel_rfl, by kernel_rfl⟩⟩
noncomputable def law_awake : Option Bool :=
 bnd (nl_Loose ([(⟨(⟨#[114]⟩ : ByteArray), [(⟨(⟨#[49]⟩ : ByteArray), 6, 0⟩ : PinType)]⟩ : PartType)]) (⟨[(⟨(⟨#[97]⟩ : ByteArray), (⟨#[114]⟩ : ByteArray)⟩ : Part)], []⟩ : Netlist)) fun r1 =>
 bnd1 (cnd (r1.2 == 0) (cnd ((r1.1.length : Int) == 1) (bnd (atI r1.1 0) fun x8 =>
 some (sEq x8.Part (⟨#[97]⟩ : ByteArray) && (sEq x8.Pin (⟨#[49]⟩ : ByteArray) && true))) (some false)) (some false)) fun v3 =>
 some v3
theorem law_awake_ok (r : Bool) (h : law_awake = some r) : Spec PG 20 [] [] (bA r) [] := by
  unfold law_awake at h
  obtain ⟨r1, h2, h⟩ := bnd_e h
  obtain ⟨v3, h4, h⟩ := bnd1_e h
  let q10_f : Fr := [(2, lA 2 (List.map e_Pin r1.1)), (3, iA r1.2)]
  let q10_g : Hp := []
  let q10_f' : Fr := [(0, bA v3)]
  let q10_g' : Hp := []
  have R5 : Runs PG 30 0 (cL (cR (cR (cR law_awake_c)))) q10_f q10_g (.nor q10_f' q10_g') := by
    rcases cnd_e h4 with ⟨h6, h4⟩ | ⟨h6, h4⟩
    · rcases cnd_e h4 with ⟨h7, h4⟩ | ⟨h7, h4⟩
      · obtain ⟨x8, h9, h4⟩ := bnd_e h4
        have h4 := Option.some.inj h4
        subst h4
        exact Runs.path XTok PGmix [.r [.b true, .b true, .eq 20 (iA (r1.1.length : Int)), .b true, .b true, .b true, .b true, .el (e_Pin x8), .b true, .b true, .b true, .b true]] [] (an h6 (an h6 (an (leni_eq e_Pin r1.1) (an h6 (an h6 (an h7 (an h7 (an (idx_ok e_Pin h9) (an h7 (an h7 (an h7 h7))))))))))) (by kernel_rfl)
      · have h4 := Option.some.inj h4
        subst h4
        exact Runs.path XTok PGmix [.r [.b true, .b true, .eq 20 (iA (r1.1.length : Int)), .b true, .b true, .b false, .b false, .b false, .b false, .b false, .b false]] [] (an h6 (an h6 (an (leni_eq e_Pin r1.1) (an h6 (an h6 (an h7 (an h7 (an h7 (an h7 (an h7 h7)))))))))) (by kernel_rfl)
    · have h4 := Option.some.inj h4
      subst h4
      exact Runs.path XTok PGmix [.r [.b false, .b false, .b false, .b false, .b false, .b false, .b false, .b false, .b false, .b false]] [] (an h6 (an h6 (an h6 (an h6 (an (Eq.refl false) (an (Eq.refl false) (an (Eq.refl false) (an (Eq.refl false) (an (Eq.refl false) (Eq.refl false)))))))))) (by kernel_rfl)
  have h := Option.some.inj h
  subst h
  exact Spec.path XTok PGmix law_awake_fn 0 [.r [], .r [.id 0, .row (List.map e_PinType [(⟨(⟨#[49]⟩ : ByteArray), 6, 0⟩ : PinType)]), .fz 0, .id 0, .row (List.map e_PartType [(⟨(⟨#[114]⟩ : ByteArray), [(⟨(⟨#[49]⟩ : ByteArray), 6, 0⟩ : PinType)]⟩ : PartType)])], .r [.id 1, .row (List.map e_Part [(⟨(⟨#[97]⟩ : ByteArray), (⟨#[114]⟩ : ByteArray)⟩ : Part)]), .fz 0, .fz 1, .val (.tup [lT 2 (List.map e_Pin r1.1), iT r1.2])], .s q10_f q10_g [] (.nor q10_f' q10_g')] (an (Eq.refl (List.flatten (List.map e_PinType [(⟨(⟨#[49]⟩ : ByteArray), 6, 0⟩ : PinType)]))) (an (Eq.refl (List.flatten (List.map e_PartType [(⟨(⟨#[114]⟩ : ByteArray), [(⟨(⟨#[49]⟩ : ByteArray), 6, 0⟩ : PinType)]⟩ : PartType)]))) (an (Eq.refl (List.flatten (List.map e_Part [(⟨(⟨#[97]⟩ : ByteArray), (⟨#[114]⟩ : ByteArray)⟩ : Part)]))) (an (Spec.fit (nl_Loose_ok ([(⟨(⟨#[114]⟩ : ByteArray), [(⟨(⟨#[49]⟩ : ByteArray), 6, 0⟩ : PinType)]⟩ : PartType)]) (⟨[(⟨(⟨#[97]⟩ : ByteArray), (⟨#[114]⟩ : ByteArray)⟩ : Part)], []⟩ : Netlist) r1 h2) (.cons (FitT.v (FitC.same _)) (.cons (FitT.agg (.cons (FitC.same _) (.cons (FitC.nil 3) .nil))) .nil))) R5)))) (by kernel_rfl)

noncomputable def law_NetlistListsMatchSpec_c : Code := (Go.Proofs.Tryd.f3.body).getD .skip
theorem law_NetlistListsMatchSpec_fn : FnOk PG 3 law_NetlistListsMatchSpec_c 76 [.tmp 6] := ⟨⟨Go.Proofs.Tryd.f3, by kernel_rfl, by kernel_rfl, by kernel_rfl, by kernel_rfl, by kernel_rfl⟩⟩
noncomputable def law_NetlistListsMatchSpec (a0 : List PartType) (a1 : Netlist) (a2 : Pin) : Option Bool :=
 bnd (nl_NetOf a0 a1 a2) fun r1 =>
 bnd (ref_NetOf a0 a1 a2) fun r3 =>
 bnd1 (bnd (nl_CheckList a0 a1) fun r8 =>
 bnd (ref_CheckList a0 a1) fun r10 =>
 cnd (r8 != r10) (some true) (cnd (r1.2.2 != r3.2.2) (some true) (cnd (sNe r1.1 r3.1) (some true) (some (!(r1.2.1 == r3.2.1)))))) fun v5 =>
 cnd v5 (some false) (bnd (nl_Loose a0 a1) fun r17 =>
 bnd (ref_Loose a0 a1) fun r19 =>
 bnd1 (cnd (r17.2 == r19.2) (bnd (slices_Equal_api_Pin_api_Pin r17.1 r19.1) fun r25 =>
 cnd r25 (bnd (law_awake ) fun r28 =>
 some r28) (some false)) (some false)) fun v21 =>
 some v21)
theorem law_NetlistListsMatchSpec_ok (a0 : List PartType) (a1 : Netlist) (a2 : Pin) (r : Bool) (h : law_NetlistListsMatchSpec a0 a1 a2 = some r) : Spec PG 3 [lT 2 (List.map e_PartType a0), gT (e_Netlist a1), gT (e_Pin a2)] [] (bA r) [] := by
  unfold law_NetlistListsMatchSpec at h
  obtain ⟨r1, h2, h⟩ := bnd_e h
  obtain ⟨r3, h4, h⟩ := bnd_e h
  obtain ⟨v5, h6, h⟩ := bnd1_e h
  let q15_f : Fr := [(0, lA 2 (List.map e_PartType a0)), (4, .t (.v (.ptr 0 0))), (7, sA r1.1), (8, bA r1.2.1), (9, iA r1.2.2), (10, sA r3.1), (11, bA r3.2.1), (12, iA r3.2.2)]
  let q15_g : Hp := [(0, .cells 26 [.c (.sl 2 (List.map e_Part a1.Parts)), .c (.sl 3 (List.map e_Net a1.Nets))])]
  let q15_f' : Fr := [(0, lA 2 (List.map e_PartType a0)), (4, .t (.v (.ptr 0 0))), (52, bA v5)]
  let q15_g' : Hp := [(0, .cells 26 [.c (.sl 2 (List.map e_Part a1.Parts)), .c (.sl 3 (List.map e_Net a1.Nets))])]
  have R7 : Runs PG 76 0 (cL (cL (cR (cR (cR law_NetlistListsMatchSpec_c))))) q15_f q15_g (.nor q15_f' q15_g') := by
    obtain ⟨r8, h9, h6⟩ := bnd_e h6
    obtain ⟨r10, h11, h6⟩ := bnd_e h6
    rcases cnd_e h6 with ⟨h12, h6⟩ | ⟨h12, h6⟩
    · have h6 := Option.some.inj h6
      subst h6
      exact Runs.path XTok PGmix [.d [([], []), ([0], []), ([], [.val (iA r8)]), ([], []), ([0], []), ([], [.val (iA r10)]), ([], []), ([], []), ([], [.b true]), ([], [.b true]), ([], [.b true]), ([], [.b true]), ([], []), ([], [.b true]), ([], [.b true]), ([], [.b true]), ([], [.b true]), ([], []), ([], [.b true]), ([], [.b true]), ([], [.b true]), ([], [.b true])]] [] (an (nl_CheckList_ok a0 a1 r8 h9) (an (ref_CheckList_ok a0 a1 r10 h11) (an h12 (an h12 (an h12 (an h12 (an (Eq.refl true) (an (Eq.refl true) (an (Eq.refl true) (an (Eq.refl true) (an (Eq.refl true) (an (Eq.refl true) (an (Eq.refl true) (Eq.refl true)))))))))))))) (by kernel_rfl)
    · rcases cnd_e h6 with ⟨h13, h6⟩ | ⟨h13, h6⟩
      · have h6 := Option.some.inj h6
        subst h6
        exact Runs.path XTok PGmix [.d [([], []), ([0], []), ([], [.val (iA r8)]), ([], []), ([0], []), ([], [.val (iA r10)]), ([], []), ([], []), ([], [.b false]), ([], [.b false]), ([], [.b false]), ([], [.b false]), ([], []), ([], [.b true]), ([], [.b true]), ([], [.b true]), ([], [.b true]), ([], []), ([], [.b true]), ([], [.b true]), ([], [.b true]), ([], [.b true])]] [] (an (nl_CheckList_ok a0 a1 r8 h9) (an (ref_CheckList_ok a0 a1 r10 h11) (an h12 (an h12 (an h12 (an h12 (an h13 (an h13 (an h13 (an h13 (an (Eq.refl true) (an (Eq.refl true) (an (Eq.refl true) (Eq.refl true)))))))))))))) (by kernel_rfl)
      · rcases cnd_e h6 with ⟨h14, h6⟩ | ⟨h14, h6⟩
        · have h6 := Option.some.inj h6
          subst h6
          exact Runs.path XTok PGmix [.d [([], []), ([0], []), ([], [.val (iA r8)]), ([], []), ([0], []), ([], [.val (iA r10)]), ([], []), ([], []), ([], [.b false]), ([], [.b false]), ([], [.b false]), ([], [.b false]), ([], []), ([], [.b false]), ([], [.b false]), ([], [.b false]), ([], [.b false]), ([], []), ([], [.b true]), ([], [.b true]), ([], [.b true]), ([], [.b true])]] [] (an (nl_CheckList_ok a0 a1 r8 h9) (an (ref_CheckList_ok a0 a1 r10 h11) (an h12 (an h12 (an h12 (an h12 (an h13 (an h13 (an h13 (an h13 (an h14 (an h14 (an h14 h14))))))))))))) (by kernel_rfl)
        · have h6 := Option.some.inj h6
          subst h6
          exact Runs.path XTok PGmix [.d [([], []), ([0], []), ([], [.val (iA r8)]), ([], []), ([0], []), ([], [.val (iA r10)]), ([], []), ([], []), ([], [.b false]), ([], [.b false]), ([], [.b false]), ([], [.b false]), ([], []), ([], [.b false]), ([], [.b false]), ([], [.b false]), ([], [.b false]), ([], []), ([], [.b false]), ([], [.b false]), ([], [.b false]), ([], [.b false])]] [] (an (nl_CheckList_ok a0 a1 r8 h9) (an (ref_CheckList_ok a0 a1 r10 h11) (an h12 (an h12 (an h12 (an h12 (an h13 (an h13 (an h13 (an h13 (an h14 (an h14 (an h14 h14))))))))))))) (by kernel_rfl)
  rcases cnd_e h with ⟨h16, h⟩ | ⟨h16, h⟩
  · have h := Option.some.inj h
    subst h
    exact Spec.path XTok PGmix law_NetlistListsMatchSpec_fn 0 [.r [.id 0, .id 1], .r [.val (.tup [sT r1.1, bT r1.2.1, iT r1.2.2])], .r [.val (.tup [sT r3.1, bT r3.2.1, iT r3.2.2])], .s q15_f q15_g [] (.nor q15_f' q15_g'), .b true, .r []] (an (nl_NetOf_ok a0 a1 a2 r1 h2) (an (ref_NetOf_ok a0 a1 a2 r3 h4) (an R7 h16))) (by kernel_rfl)
  · obtain ⟨r17, h18, h⟩ := bnd_e h
    obtain ⟨r19, h20, h⟩ := bnd_e h
    obtain ⟨v21, h22, h⟩ := bnd1_e h
    let q30_f : Fr := [(9, iA r17.2), (12, iA r19.2), (13, lA 2 (List.map e_Pin r17.1)), (14, lA 2 (List.map e_Pin r19.1))]
    let q30_g : Hp := []
    let q30_f' : Fr := [(6, bA v21)]
    let q30_g' : Hp := []
    have R23 : Runs PG 76 0 (cL (cR (cR (cR (cR (cR (cR law_NetlistListsMatchSpec_c))))))) q30_f q30_g (.nor q30_f' q30_g') := by
      rcases cnd_e h22 with ⟨h24, h22⟩ | ⟨h24, h22⟩
      · obtain ⟨r25, h26, h22⟩ := bnd_e h22
        rcases cnd_e h22 with ⟨h27, h22⟩ | ⟨h27, h22⟩
        · obtain ⟨r28, h29, h22⟩ := bnd_e h22
          have h22 := Option.some.inj h22
          subst h22
          exact Runs.path XTok PGmix [.r [.b true, .b true, .b true, .val (bA r25), .b true, .b true, .val (bA r28), .b true]] [] (an h24 (an h24 (an h24 (an (slices_Equal_api_Pin_api_Pin_ok r17.1 r19.1 r25 h26) (an h24 (an h27 (an (law_awake_ok r28 h29) h27))))))) (by kernel_rfl)
        · have h22 := Option.some.inj h22
          subst h22
          exact Runs.path XTok PGmix [.r [.b true, .b true, .b true, .val (bA r25), .b true, .b false, .b false]] [] (an h24 (an h24 (an h24 (an (slices_Equal_api_Pin_api_Pin_ok r17.1 r19.1 r25 h26) (an h24 (an h27 h27)))))) (by kernel_rfl)
      · have h22 := Option.some.inj h22
        subst h22
        exact Runs.path XTok PGmix [.r [.b false, .b false, .b false, .b false, .b false, .b false]] [] (an h24 (an h24 (an h24 (an h24 (an (Eq.refl false) (Eq.refl false)))))) (by kernel_rfl)
    have h := Option.some.inj h
    subst h
    exact Spec.path XTok PGmix law_NetlistListsMatchSpec_fn 0 [.r [.id 0, .id 1], .r [.val (.tup [sT r1.1, bT r1.2.1, iT r1.2.2])], .r [.val (.tup [sT r3.1, bT r3.2.1, iT r3.2.2])], .s q15_f q15_g [] (.nor q15_f' q15_g'), .b false, .r [.val (.tup [lT 2 (List.map e_Pin r17.1), iT r17.2])], .r [.val (.tup [lT 2 (List.map e_Pin r19.1), iT r19.2])], .s q30_f q30_g [] (.nor q30_f' q30_g')] (an (nl_NetOf_ok a0 a1 a2 r1 h2) (an (ref_NetOf_ok a0 a1 a2 r3 h4) (an R7 (an h16 (an (nl_Loose_ok a0 a1 r17 h18) (an (ref_Loose_ok a0 a1 r19 h20) R23)))))) (by kernel_rfl)
end Go.Proofs.YtlbndchfmdogeaaDoor.Sym
