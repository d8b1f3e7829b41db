/- Printed by gen2.py: the plain forms of functions, and that calling them gives what these give. Conditions: none. -/
import Derived.Test.YtlbndchfmdogeaaDoorFf2
set_option linter.unusedVariables false
set_option maxHeartbeats 4000000
namespace Go.Proofs.YtlbndchfmdogeaaDoor.Sym
open Go Go.RowKit
noncomputable def ref_loose_c : Code := (Go.Proofs.Tryd.f55.body).getD .skip
theorem ref_loose_fn : FnOk PG 55 ref_loose_c 47 [.tmp 4] := ⟨⟨Go.Proofs.Tryd.f55, by kernel_rfl, by kernel_rfl, by kernel_rfl, by kernel_rfl, by kernel_rfl⟩⟩
noncomputable def ref_loose_c0 : Code := cL (cL (cR (cL (cR (cR ref_loose_c)))))
noncomputable def ref_loose_R (r : List Pin) : Oc := .ret [(4, lA 2 (List.map e_Pin r))] []
noncomputable def ref_loose_c1 : Code := cL (cL (cR (cR (cL (cL (cR (cR ref_loose_c0)))))))
noncomputable def ref_loose_F1 (a0 : List PartType) (a1 : Netlist) (i1 : Nat) (x3 : Part) (x7 : PartType) (i9 : Nat) (y10 : List Pin) : Fr := [(0, lA 2 (List.map e_PartType a0)), (3, .t (.v (.ptr 0 0))), (5, .t (.v (.rt 1))), (7, .t (.v (.ptr 2 0))), (12, lA 2 (List.map e_Part a1.Parts)), (13, iA (a1.Parts.length : Int)), (14, iA (i1 : Int)), (25, lA 3 (List.map e_PinType x7.Pins)), (26, iA (x7.Pins.length : Int)), (27, iA (i9 : Int))]
noncomputable def ref_loose_H1 (a0 : List PartType) (a1 : Netlist) (i1 : Nat) (x3 : Part) (x7 : PartType) (i9 : Nat) (y10 : List Pin) : Hp := [(0, .cells 26 [.c (.sl 2 (List.map e_Part a1.Parts)), .c (.sl 3 (List.map e_Net a1.Nets))]), (1, .row 28 2 (List.map e_Pin y10)), (2, .cells 73 [.c (sC x3.Name), .c (sC x3.Type_)])]
noncomputable def ref_loose_B1 (a0 : List PartType) (a1 : Netlist) (i1 : Nat) (x3 : Part) (x7 : PartType) (s : List Pin) : Oc := .ex 2 [(0, lA 2 (List.map e_PartType a0)), (3, .t (.v (.ptr 0 0))), (5, .t (.v (.rt 1))), (12, lA 2 (List.map e_Part a1.Parts)), (13, iA (a1.Parts.length : Int)), (14, iA (i1 : Int))] [(0, .cells 26 [.c (.sl 2 (List.map e_Part a1.Parts)), .c (.sl 3 (List.map e_Net a1.Nets))]), (1, .row 28 2 (List.map e_Pin s))]
noncomputable def ref_loose_b1 (a0 : List PartType) (a1 : Netlist) (i1 : Nat) (x3 : Part) (x7 : PartType) (i9 : Nat) (y10 : List Pin) : Option (Stp (List Pin) (List Pin)) :=
 bnd (atI x7.Pins (i9 : Int)) fun x11 =>
 bnd (ref_netOf a1 (⟨x3.Name, x11.Name⟩ : Pin)) fun r13 =>
 bnd1 (cnd (decide (r13 < 0)) (grd (y10.length + [(⟨x3.Name, x11.Name⟩ : Pin)].length ≤ lim) <|
 some (y10 ++ [(⟨x3.Name, x11.Name⟩ : Pin)])) (some y10)) fun v15 =>
 some (.go v15)
theorem ref_loose_b1_r (a0 : List PartType) (a1 : Netlist) (i1 : Nat) (x3 : Part) (x7 : PartType) (i9 : Nat) (y10 : List Pin) (o : Stp (List Pin) (List Pin)) (hi : i9 < x7.Pins.length) (h : ref_loose_b1 a0 a1 i1 x3 x7 i9 y10 = some o) :
    Runs PG 47 0 ref_loose_c1 (ref_loose_F1 a0 a1 i1 x3 x7 i9 y10) (ref_loose_H1 a0 a1 i1 x3 x7 i9 y10) (stpOc (fun s' => .nor (ref_loose_F1 a0 a1 i1 x3 x7 (i9 + 1) s') (ref_loose_H1 a0 a1 i1 x3 x7 (i9 + 1) s')) (ref_loose_B1 a0 a1 i1 x3 x7) ref_loose_R o) := by
  unfold ref_loose_b1 at h
  refine Runs.len (s := 25) (sz := 3) (xs := List.map e_PinType x7.Pins) (by kernel_rfl) fun hl => ?_
  have hM : x7.Pins.length ≤ lim := len_of hl
  obtain ⟨x11, h12, h⟩ := bnd_e h
  obtain ⟨r13, h14, h⟩ := bnd_e h
  obtain ⟨v15, h16, h⟩ := bnd1_e h
  let q20_f : Fr := [(0, lA 2 (List.map e_PartType a0)), (3, .t (.v (.ptr 0 0))), (5, .t (.v (.rt 1))), (7, .t (.v (.ptr 2 0))), (10, .t (.v (.ptr 4 0))), (12, lA 2 (List.map e_Part a1.Parts)), (13, iA (a1.Parts.length : Int)), (14, iA (i1 : Int)), (25, lA 3 (List.map e_PinType x7.Pins)), (26, iA (x7.Pins.length : Int)), (27, iA (i9 : Int)), (39, bA (decide (r13 < 0)))]
  let q20_g : Hp := [(0, .cells 26 [.c (.sl 2 (List.map e_Part a1.Parts)), .c (.sl 3 (List.map e_Net a1.Nets))]), (1, .row 28 2 (List.map e_Pin y10)), (2, .cells 73 [.c (sC x3.Name), .c (sC x3.Type_)]), (4, .cells 28 [.c (sC x3.Name), .c (sC x11.Name)])]
  let q20_f' : Fr := [(0, lA 2 (List.map e_PartType a0)), (3, .t (.v (.ptr 0 0))), (5, .t (.v (.rt 6))), (7, .t (.v (.ptr 2 0))), (12, lA 2 (List.map e_Part a1.Parts)), (13, iA (a1.Parts.length : Int)), (14, iA (i1 : Int)), (25, lA 3 (List.map e_PinType x7.Pins)), (26, iA (x7.Pins.length : Int)), (27, iA (i9 : Int))]
  let q20_g' : Hp := [(0, .cells 26 [.c (.sl 2 (List.map e_Part a1.Parts)), .c (.sl 3 (List.map e_Net a1.Nets))]), (2, .cells 73 [.c (sC x3.Name), .c (sC x3.Type_)]), (6, .row 28 2 (List.map e_Pin v15))]
  have R17 : Runs PG 47 0 (cR (cR (cR (cL (cL (cR (cR ref_loose_c1))))))) q20_f q20_g (.nor q20_f' q20_g') := by
    rcases cnd_e h16 with ⟨h18, h16⟩ | ⟨h18, h16⟩
    · obtain ⟨h19, h16⟩ := grd_e h16
      have h16 := Option.some.inj h16
      subst h16
      exact Runs.path XTok PGmix [.b true, .r [.id 5, .row (List.map e_Pin [(⟨x3.Name, x11.Name⟩ : Pin)]), .id 6, .row (List.map e_Pin (y10 ++ [(⟨x3.Name, x11.Name⟩ : Pin)]))]] [] (an h18 (an (Eq.refl (List.flatten (List.map e_Pin [(⟨x3.Name, x11.Name⟩ : Pin)]))) (app_ok e_Pin h19))) (by kernel_rfl)
    · have h16 := Option.some.inj h16
      subst h16
      exact Runs.path XTok PGmix [.b false] [(6, 1)] h18 (by kernel_rfl)
  have h := Option.some.inj h
  subst h
  exact Runs.path XTok PGmix [.r [], .b true, .r [.el (e_PinType x11), .id 3], .r [.id 4], .r [.val (iA r13)], .s q20_f q20_g [] (.nor q20_f' q20_g'), .r [.eq 44 (iA ((i9 + 1 : Nat) : Int))]] [(1, 6)] (an (lt_true hi) (an (idx_ok e_PinType h12) (an (ref_netOf_ok a1 (⟨x3.Name, x11.Name⟩ : Pin) r13 h14) (an R17 (wrap_eq hi hM))))) (by kernel_rfl)
theorem ref_loose_b1_e (a0 : List PartType) (a1 : Netlist) (i1 : Nat) (x3 : Part) (x7 : PartType) (y10 : List Pin) : Runs PG 47 0 ref_loose_c1 (ref_loose_F1 a0 a1 i1 x3 x7 (x7.Pins.length) y10) (ref_loose_H1 a0 a1 i1 x3 x7 (x7.Pins.length) y10) (ref_loose_B1 a0 a1 i1 x3 x7 y10) := by
  exact Runs.path XTok PGmix [.r [], .b false] [] (lt_false (x7.Pins.length)) (by kernel_rfl)
theorem ref_loose_l1 (a0 : List PartType) (a1 : Netlist) (i1 : Nat) (x3 : Part) (x7 : PartType) (y10 : List Pin) (r : Fin' (List Pin) (List Pin)) (h : forN (fun i9 s => ref_loose_b1 a0 a1 i1 x3 x7 i9 s) (x7.Pins.length) 0 y10 = some r) : Runs PG 47 0 (cL (cR (cR (cL (cL (cR (cR ref_loose_c0))))))) (ref_loose_F1 a0 a1 i1 x3 x7 0 y10) (ref_loose_H1 a0 a1 i1 x3 x7 0 y10) (finOc (ref_loose_B1 a0 a1 i1 x3 x7) ref_loose_R r) :=
  Runs.loop' (by kernel_rfl) (forN_rounds (σ := (List Pin)) (ρ := (List Pin)) (body := fun i9 s => ref_loose_b1 a0 a1 i1 x3 x7 i9 s) (F := fun i9 s => ref_loose_F1 a0 a1 i1 x3 x7 i9 s) (H := fun i9 s => ref_loose_H1 a0 a1 i1 x3 x7 i9 s) (B := ref_loose_B1 a0 a1 i1 x3 x7) (R := ref_loose_R) (M := x7.Pins.length) (fun _ => rfl) (fun _ => rfl) (fun s => ref_loose_b1_e a0 a1 i1 x3 x7 s) (fun i s o hi h => ref_loose_b1_r a0 a1 i1 x3 x7 i s o hi h) _ 0 _ r (Nat.zero_add _) h)
noncomputable def ref_loose_F0 (a0 : List PartType) (a1 : Netlist) (i1 : Nat) (y2 : List Pin) : Fr := [(0, lA 2 (List.map e_PartType a0)), (3, .t (.v (.ptr 0 0))), (5, .t (.v (.rt 1))), (12, lA 2 (List.map e_Part a1.Parts)), (13, iA (a1.Parts.length : Int)), (14, iA (i1 : Int))]
noncomputable def ref_loose_H0 (a0 : List PartType) (a1 : Netlist) (i1 : Nat) (y2 : List Pin) : Hp := [(0, .cells 26 [.c (.sl 2 (List.map e_Part a1.Parts)), .c (.sl 3 (List.map e_Net a1.Nets))]), (1, .row 28 2 (List.map e_Pin y2))]
noncomputable def ref_loose_B0 (a0 : List PartType) (a1 : Netlist) (s : List Pin) : Oc := .ex 0 [(5, .t (.v (.rt 1)))] [(1, .row 28 2 (List.map e_Pin s))]
noncomputable def ref_loose_b0 (a0 : List PartType) (a1 : Netlist) (i1 : Nat) (y2 : List Pin) : Option (Stp (List Pin) (List Pin)) :=
 bnd (atI a1.Parts (i1 : Int)) fun x3 =>
 bnd (ref_typeOf a0 x3.Type_) fun r5 =>
 bnd (atI a0 r5) fun x7 =>
 aft1 (forN (fun i9 s => ref_loose_b1 a0 a1 i1 x3 x7 i9 s) (x7.Pins.length) 0 y2) (fun u21 =>
 some (.go u21))
 (fun r23 =>
 some (.ret r23))
theorem ref_loose_b0_r (a0 : List PartType) (a1 : Netlist) (i1 : Nat) (y2 : List Pin) (o : Stp (List Pin) (List Pin)) (hi : i1 < a1.Parts.length) (h : ref_loose_b0 a0 a1 i1 y2 = some o) :
    Runs PG 47 0 ref_loose_c0 (ref_loose_F0 a0 a1 i1 y2) (ref_loose_H0 a0 a1 i1 y2) (stpOc (fun s' => .nor (ref_loose_F0 a0 a1 (i1 + 1) s') (ref_loose_H0 a0 a1 (i1 + 1) s')) (ref_loose_B0 a0 a1) ref_loose_R o) := by
  unfold ref_loose_b0 at h
  refine Runs.len (s := 12) (sz := 2) (xs := List.map e_Part a1.Parts) (by kernel_rfl) fun hl => ?_
  have hM : a1.Parts.length ≤ lim := len_of hl
  obtain ⟨x3, h4, h⟩ := bnd_e h
  obtain ⟨r5, h6, h⟩ := bnd_e h
  obtain ⟨x7, h8, h⟩ := bnd_e h
  rcases aft1_e h with ⟨u21, h22, h⟩ | ⟨r23, h22, h⟩
  · have h := Option.some.inj h
    subst h
    exact Runs.path XTok PGmix [.r [], .b true, .r [.el (e_Part x3), .id 2], .r [.val (iA r5), .el (e_PartType x7), .eq 26 (iA (x7.Pins.length : Int))], .s (ref_loose_F1 a0 a1 i1 x3 x7 0 y2) (ref_loose_H1 a0 a1 i1 x3 x7 0 y2) [] (ref_loose_B1 a0 a1 i1 x3 x7 u21), .r [.eq 45 (iA ((i1 + 1 : Nat) : Int))]] [] (an (lt_true hi) (an (idx_ok e_Part h4) (an (ref_typeOf_ok a0 x3.Type_ r5 h6) (an (idx_ok e_PartType h8) (an (leni_eq e_PinType x7.Pins) (an (ref_loose_l1 a0 a1 i1 x3 x7 y2 (.fin u21) h22) (wrap_eq hi hM))))))) (by kernel_rfl)
  · have h := Option.some.inj h
    subst h
    exact Runs.path XTok PGmix [.r [], .b true, .r [.el (e_Part x3), .id 2], .r [.val (iA r5), .el (e_PartType x7), .eq 26 (iA (x7.Pins.length : Int))], .s (ref_loose_F1 a0 a1 i1 x3 x7 0 y2) (ref_loose_H1 a0 a1 i1 x3 x7 0 y2) [] (ref_loose_R r23)] [] (an (lt_true hi) (an (idx_ok e_Part h4) (an (ref_typeOf_ok a0 x3.Type_ r5 h6) (an (idx_ok e_PartType h8) (an (leni_eq e_PinType x7.Pins) (ref_loose_l1 a0 a1 i1 x3 x7 y2 (.ret r23) h22)))))) (by kernel_rfl)
theorem ref_loose_b0_e (a0 : List PartType) (a1 : Netlist) (y2 : List Pin) : Runs PG 47 0 ref_loose_c0 (ref_loose_F0 a0 a1 (a1.Parts.length) y2) (ref_loose_H0 a0 a1 (a1.Parts.length) y2) (ref_loose_B0 a0 a1 y2) := by
  exact Runs.path XTok PGmix [.r [], .b false] [] (lt_false (a1.Parts.length)) (by kernel_rfl)
theorem ref_loose_l0 (a0 : List PartType) (a1 : Netlist) (y2 : List Pin) (r : Fin' (List Pin) (List Pin)) (h : forN (fun i1 s => ref_loose_b0 a0 a1 i1 s) (a1.Parts.length) 0 y2 = some r) : Runs PG 47 0 (cL (cR (cL (cR (cR ref_loose_c))))) (ref_loose_F0 a0 a1 0 y2) (ref_loose_H0 a0 a1 0 y2) (finOc (ref_loose_B0 a0 a1) ref_loose_R r) :=
  Runs.loop' (by kernel_rfl) (forN_rounds (σ := (List Pin)) (ρ := (List Pin)) (body := fun i1 s => ref_loose_b0 a0 a1 i1 s) (F := fun i1 s => ref_loose_F0 a0 a1 i1 s) (H := fun i1 s => ref_loose_H0 a0 a1 i1 s) (B := ref_loose_B0 a0 a1) (R := ref_loose_R) (M := a1.Parts.length) (fun _ => rfl) (fun _ => rfl) (fun s => ref_loose_b0_e a0 a1 s) (fun i s o hi h => ref_loose_b0_r a0 a1 i s o hi h) _ 0 _ r (Nat.zero_add _) h)
noncomputable def ref_loose (a0 : List PartType) (a1 : Netlist) : Option (List Pin) :=
 aft1 (forN (fun i1 s => ref_loose_b0 a0 a1 i1 s) (a1.Parts.length) 0 []) (fun u24 =>
 some u24)
 (fun r26 =>
 some r26)
theorem ref_loose_ok (a0 : List PartType) (a1 : Netlist) (r : List Pin) (h : ref_loose a0 a1 = some r) : Spec PG 55 [lT 2 (List.map e_PartType a0), gT (e_Netlist a1)] [] (lA 2 (List.map e_Pin r)) [] := by
  unfold ref_loose at h
  rcases aft1_e h with ⟨u24, h25, h⟩ | ⟨r26, h25, h⟩
  · have h := Option.some.inj h
    subst h
    exact Spec.path XTok PGmix ref_loose_fn 0 [.r [.id 0, .nl 2], .r [.mk 1 28 2], .r [.eq 13 (iA (a1.Parts.length : Int))], .s (ref_loose_F0 a0 a1 0 []) (ref_loose_H0 a0 a1 0 []) [] (ref_loose_B0 a0 a1 u24), .r [], .f 1] (an (leni_eq e_Part a1.Parts) (ref_loose_l0 a0 a1 [] (.fin u24) h25)) (by kernel_rfl)
  · have h := Option.some.inj h
    subst h
    exact Spec.path XTok PGmix ref_loose_fn 0 [.r [.id 0, .nl 2], .r [.mk 1 28 2], .r [.eq 13 (iA (a1.Parts.length : Int))], .s (ref_loose_F0 a0 a1 0 []) (ref_loose_H0 a0 a1 0 []) [] (ref_loose_R r26)] (an (leni_eq e_Part a1.Parts) (ref_loose_l0 a0 a1 [] (.ret r26) h25)) (by kernel_rfl)

noncomputable def ref_kindOf_c : Code := (Go.Proofs.Tryd.f64.body).getD .skip
theorem ref_kindOf_fn : FnOk PG 64 ref_kindOf_c 32 [.tmp 6] := ⟨⟨Go.Proofs.Tryd.f64, by kernel_rfl, by kernel_rfl, by kernel_rfl, by kernel_rfl, by kernel_rfl⟩⟩
noncomputable def ref_kindOf (a0 : List PartType) (a1 : Netlist) (a2 : Pin) : Option Int :=
 bnd (ref_partOf a1.Parts a2.Part) fun r1 =>
 bnd (atI a1.Parts r1) fun x3 =>
 bnd (ref_typeOf a0 x3.Type_) fun r5 =>
 bnd (atI a0 r5) fun x7 =>
 bnd (ref_pinOf x7 a2.Pin) fun r9 =>
 bnd (atI x7.Pins r9) fun x11 =>
 some x11.Kind
theorem ref_kindOf_ok (a0 : List PartType) (a1 : Netlist) (a2 : Pin) (r : Int) (h : ref_kindOf a0 a1 a2 = some r) : Spec PG 64 [lT 2 (List.map e_PartType a0), gT (e_Netlist a1), gT (e_Pin a2)] [] (iA r) [] := by
  unfold ref_kindOf at h
  obtain ⟨r1, h2, h⟩ := bnd_e h
  obtain ⟨x3, h4, h⟩ := bnd_e h
  obtain ⟨r5, h6, h⟩ := bnd_e h
  obtain ⟨x7, h8, h⟩ := bnd_e h
  obtain ⟨r9, h10, h⟩ := bnd_e h
  obtain ⟨x11, h12, h⟩ := bnd_e h
  have h := Option.some.inj h
  subst h
  exact Spec.path XTok PGmix ref_kindOf_fn 0 [.r [.id 0, .id 1], .d [([], []), ([], []), ([], []), ([0], []), ([], []), ([0], []), ([], []), ([1], []), ([], [.val (iA r1)]), ([], [.el (e_Part x3)]), ([], []), ([], []), ([], [.val (iA r5)]), ([], [.el (e_PartType x7)]), ([], []), ([], [.id 2]), ([2], [])], .d [([], []), ([2], []), ([2], []), ([], []), ([1], []), ([], [.val (iA r9)]), ([], [.el (e_PinType x11)]), ([], []), ([], []), ([], [])]] (an (ref_partOf_ok a1.Parts a2.Part r1 h2) (an (idx_ok e_Part h4) (an (ref_typeOf_ok a0 x3.Type_ r5 h6) (an (idx_ok e_PartType h8) (an (ref_pinOf_ok x7 a2.Pin r9 h10) (idx_ok e_PinType h12)))))) (by kernel_rfl)

noncomputable def slices_Index_int_int_c : Code := (Go.Proofs.Tryd.f191.body).getD .skip
theorem slices_Index_int_int_fn : FnOk PG 191 slices_Index_int_int_c 19 [.tmp 4] := ⟨⟨Go.Proofs.Tryd.f191, by kernel_rfl, by kernel_rfl, by kernel_rfl, by kernel_rfl, by kernel_rfl⟩⟩
noncomputable def slices_Index_int_int_c0 : Code := cL (cL (cR (cL (cR slices_Index_int_int_c))))
noncomputable def slices_Index_int_int_R (r : Int) : Oc := .ret [(4, iA r)] []
noncomputable def slices_Index_int_int_F0 (a0 : List Int) (a1 : Int) (i1 : Nat) : Fr := [(0, lA 1 (List.map e_i64 a0)), (1, iA a1), (6, lA 1 (List.map e_i64 a0)), (7, iA (a0.length : Int)), (8, iA (i1 : Int))]
noncomputable def slices_Index_int_int_H0 (a0 : List Int) (a1 : Int) (i1 : Nat) : Hp := []
noncomputable def slices_Index_int_int_B0 (a0 : List Int) (a1 : Int) (s : Unit) : Oc := .ex 0 [] []
noncomputable def slices_Index_int_int_b0 (a0 : List Int) (a1 : Int) (i1 : Nat) : Option (Stp Unit Int) :=
 bnd (atI a0 (i1 : Int)) fun x2 =>
 cnd (a1 == x2) (some (.ret (i1 : Int))) (some (.go ()))
theorem slices_Index_int_int_b0_r (a0 : List Int) (a1 : Int) (i1 : Nat) (o : Stp Unit Int) (hi : i1 < a0.length) (h : slices_Index_int_int_b0 a0 a1 i1 = some o) :
    Runs PG 19 0 slices_Index_int_int_c0 (slices_Index_int_int_F0 a0 a1 i1 ) (slices_Index_int_int_H0 a0 a1 i1 ) (stpOc (fun s' => .nor (slices_Index_int_int_F0 a0 a1 (i1 + 1) ) (slices_Index_int_int_H0 a0 a1 (i1 + 1) )) (slices_Index_int_int_B0 a0 a1) slices_Index_int_int_R o) := by
  unfold slices_Index_int_int_b0 at h
  refine Runs.len (s := 6) (sz := 1) (xs := List.map e_i64 a0) (by kernel_rfl) fun hl => ?_
  have hM : a0.length ≤ lim := len_of hl
  obtain ⟨x2, h3, h⟩ := bnd_e h
  rcases cnd_e h with ⟨h4, h⟩ | ⟨h4, h⟩
  · have h := Option.some.inj h
    subst h
    exact Runs.path XTok PGmix [.r [], .b true, .r [], .r [.el [iC x2]], .b true, .r []] [] (an (lt_true hi) (an (idx_ok e_i64 h3) h4)) (by kernel_rfl)
  · have h := Option.some.inj h
    subst h
    exact Runs.path XTok PGmix [.r [], .b true, .r [], .r [.el [iC x2]], .b false, .r [.eq 18 (iA ((i1 + 1 : Nat) : Int))]] [] (an (lt_true hi) (an (idx_ok e_i64 h3) (an h4 (wrap_eq hi hM)))) (by kernel_rfl)
theorem slices_Index_int_int_b0_e (a0 : List Int) (a1 : Int) : Runs PG 19 0 slices_Index_int_int_c0 (slices_Index_int_int_F0 a0 a1 (a0.length) ) (slices_Index_int_int_H0 a0 a1 (a0.length) ) (slices_Index_int_int_B0 a0 a1 ()) := by
  exact Runs.path XTok PGmix [.r [], .b false] [] (lt_false (a0.length)) (by kernel_rfl)
theorem slices_Index_int_int_l0 (a0 : List Int) (a1 : Int) (r : Fin' Unit Int) (h : forN (fun i1 s => slices_Index_int_int_b0 a0 a1 i1 ) (a0.length) 0 () = some r) : Runs PG 19 0 (cL (cR (cL (cR slices_Index_int_int_c)))) (slices_Index_int_int_F0 a0 a1 0 ) (slices_Index_int_int_H0 a0 a1 0 ) (finOc (slices_Index_int_int_B0 a0 a1) slices_Index_int_int_R r) :=
  Runs.loop' (by kernel_rfl) (forN_rounds (σ := Unit) (ρ := Int) (body := fun i1 s => slices_Index_int_int_b0 a0 a1 i1 ) (F := fun i1 s => slices_Index_int_int_F0 a0 a1 i1 ) (H := fun i1 s => slices_Index_int_int_H0 a0 a1 i1 ) (B := slices_Index_int_int_B0 a0 a1) (R := slices_Index_int_int_R) (M := a0.length) (fun _ => rfl) (fun _ => rfl) (fun s => slices_Index_int_int_b0_e a0 a1 ) (fun i s o hi h => slices_Index_int_int_b0_r a0 a1 i o hi h) _ 0 _ r (Nat.zero_add _) h)
noncomputable def slices_Index_int_int (a0 : List Int) (a1 : Int) : Option Int :=
 aft0 (forN (fun i1 s => slices_Index_int_int_b0 a0 a1 i1 ) (a0.length) 0 ()) (
 some (-1))
 (fun r6 =>
 some r6)
theorem slices_Index_int_int_ok (a0 : List Int) (a1 : Int) (r : Int) (h : slices_Index_int_int a0 a1 = some r) : Spec PG 191 [lT 1 (List.map e_i64 a0), iT a1] [] (iA r) [] := by
  unfold slices_Index_int_int at h
  rcases aft0_e h with ⟨h5, h⟩ | ⟨r6, h5, h⟩
  · have h := Option.some.inj h
    subst h
    exact Spec.path XTok PGmix slices_Index_int_int_fn 0 [.r [], .r [.eq 7 (iA (a0.length : Int))], .s (slices_Index_int_int_F0 a0 a1 0 ) (slices_Index_int_int_H0 a0 a1 0 ) [] (slices_Index_int_int_B0 a0 a1 ()), .r []] (an (leni_eq e_i64 a0) (slices_Index_int_int_l0 a0 a1 (.fin ()) h5)) (by kernel_rfl)
  · have h := Option.some.inj h
    subst h
    exact Spec.path XTok PGmix slices_Index_int_int_fn 0 [.r [], .r [.eq 7 (iA (a0.length : Int))], .s (slices_Index_int_int_F0 a0 a1 0 ) (slices_Index_int_int_H0 a0 a1 0 ) [] (slices_Index_int_int_R r6)] (an (leni_eq e_i64 a0) (slices_Index_int_int_l0 a0 a1 (.ret r6) h5)) (by kernel_rfl)

noncomputable def slices_Contains_int_int_c : Code := (Go.Proofs.Tryd.f164.body).getD .skip
theorem slices_Contains_int_int_fn : FnOk PG 164 slices_Contains_int_int_c 9 [.tmp 4] := ⟨⟨Go.Proofs.Tryd.f164, by kernel_rfl, by kernel_rfl, by kernel_rfl, by kernel_rfl, by kernel_rfl⟩⟩
noncomputable def slices_Contains_int_int (a0 : List Int) (a1 : Int) : Option Bool :=
 bnd (slices_Index_int_int a0 a1) fun r1 =>
 some (decide (r1 ≥ 0))
theorem slices_Contains_int_int_ok (a0 : List Int) (a1 : Int) (r : Bool) (h : slices_Contains_int_int a0 a1 = some r) : Spec PG 164 [lT 1 (List.map e_i64 a0), iT a1] [] (bA r) [] := by
  unfold slices_Contains_int_int at h
  obtain ⟨r1, h2, h⟩ := bnd_e h
  have h := Option.some.inj h
  subst h
  exact Spec.path XTok PGmix slices_Contains_int_int_fn 0 [.r [], .r [.val (iA r1)]] (slices_Index_int_int_ok a0 a1 r1 h2) (by kernel_rfl)

noncomputable def ref_ofKinds_c : Code := (Go.Proofs.Tryd.f125.body).getD .skip
theorem ref_ofKinds_fn : FnOk PG 125 ref_ofKinds_c 31 [.tmp 8] := ⟨⟨Go.Proofs.Tryd.f125, by kernel_rfl, by kernel_rfl, by kernel_rfl, by kernel_rfl, by kernel_rfl⟩⟩
noncomputable def ref_ofKinds_c0 : Code := cL (cL (cR (cL (cR (cR ref_ofKinds_c)))))
noncomputable def ref_ofKinds_R (r : List Pin) : Oc := .ret [(8, lA 2 (List.map e_Pin r))] []
noncomputable def ref_ofKinds_F0 (a0 : List PartType) (a1 : Netlist) (a2 : Net) (a3 : List Int) (i1 : Nat) (y2 : List Pin) : Fr := [(0, lA 2 (List.map e_PartType a0)), (3, lA 1 (List.map e_i64 a3)), (5, .t (.v (.ptr 0 0))), (9, .t (.v (.rt 2))), (13, lA 2 (List.map e_Pin a2.Pins)), (14, iA (a2.Pins.length : Int)), (15, iA (i1 : Int))]
noncomputable def ref_ofKinds_H0 (a0 : List PartType) (a1 : Netlist) (a2 : Net) (a3 : List Int) (i1 : Nat) (y2 : List Pin) : Hp := [(0, .cells 26 [.c (.sl 2 (List.map e_Part a1.Parts)), .c (.sl 3 (List.map e_Net a1.Nets))]), (2, .row 28 2 (List.map e_Pin y2))]
noncomputable def ref_ofKinds_B0 (a0 : List PartType) (a1 : Netlist) (a2 : Net) (a3 : List Int) (s : List Pin) : Oc := .ex 0 [(9, .t (.v (.rt 2)))] [(2, .row 28 2 (List.map e_Pin s))]
noncomputable def ref_ofKinds_b0 (a0 : List PartType) (a1 : Netlist) (a2 : Net) (a3 : List Int) (i1 : Nat) (y2 : List Pin) : Option (Stp (List Pin) (List Pin)) :=
 bnd (atI a2.Pins (i1 : Int)) fun x3 =>
 bnd (ref_kindOf a0 a1 x3) fun r5 =>
 bnd (slices_Contains_int_int a3 r5) fun r7 =>
 bnd1 (cnd r7 (grd (y2.length + [x3].length ≤ lim) <|
 some (y2 ++ [x3])) (some y2)) fun v9 =>
 some (.go v9)
theorem ref_ofKinds_b0_r (a0 : List PartType) (a1 : Netlist) (a2 : Net) (a3 : List Int) (i1 : Nat) (y2 : List Pin) (o : Stp (List Pin) (List Pin)) (hi : i1 < a2.Pins.length) (h : ref_ofKinds_b0 a0 a1 a2 a3 i1 y2 = some o) :
    Runs PG 31 0 ref_ofKinds_c0 (ref_ofKinds_F0 a0 a1 a2 a3 i1 y2) (ref_ofKinds_H0 a0 a1 a2 a3 i1 y2) (stpOc (fun s' => .nor (ref_ofKinds_F0 a0 a1 a2 a3 (i1 + 1) s') (ref_ofKinds_H0 a0 a1 a2 a3 (i1 + 1) s')) (ref_ofKinds_B0 a0 a1 a2 a3) ref_ofKinds_R o) := by
  unfold ref_ofKinds_b0 at h
  refine Runs.len (s := 13) (sz := 2) (xs := List.map e_Pin a2.Pins) (by kernel_rfl) fun hl => ?_
  have hM : a2.Pins.length ≤ lim := len_of hl
  obtain ⟨x3, h4, h⟩ := bnd_e h
  obtain ⟨r5, h6, h⟩ := bnd_e h
  obtain ⟨r7, h8, h⟩ := bnd_e h
  obtain ⟨v9, h10, h⟩ := bnd1_e h
  let q14_f : Fr := [(0, lA 2 (List.map e_PartType a0)), (3, lA 1 (List.map e_i64 a3)), (5, .t (.v (.ptr 0 0))), (9, .t (.v (.rt 2))), (11, .t (.v (.ptr 3 0))), (13, lA 2 (List.map e_Pin a2.Pins)), (14, iA (a2.Pins.length : Int)), (15, iA (i1 : Int)), (24, bA r7)]
  let q14_g : Hp := [(0, .cells 26 [.c (.sl 2 (List.map e_Part a1.Parts)), .c (.sl 3 (List.map e_Net a1.Nets))]), (2, .row 28 2 (List.map e_Pin y2)), (3, .cells 28 [.c (sC x3.Part), .c (sC x3.Pin)])]
  let q14_f' : Fr := [(0, lA 2 (List.map e_PartType a0)), (3, lA 1 (List.map e_i64 a3)), (5, .t (.v (.ptr 0 0))), (9, .t (.v (.rt 5))), (13, lA 2 (List.map e_Pin a2.Pins)), (14, iA (a2.Pins.length : Int)), (15, iA (i1 : Int))]
  let q14_g' : Hp := [(0, .cells 26 [.c (.sl 2 (List.map e_Part a1.Parts)), .c (.sl 3 (List.map e_Net a1.Nets))]), (5, .row 28 2 (List.map e_Pin v9))]
  have R11 : Runs PG 31 0 (cR (cR (cL (cL (cR (cR ref_ofKinds_c0)))))) q14_f q14_g (.nor q14_f' q14_g') := by
    rcases cnd_e h10 with ⟨h12, h10⟩ | ⟨h12, h10⟩
    · obtain ⟨h13, h10⟩ := grd_e h10
      have h10 := Option.some.inj h10
      subst h10
      exact Runs.path XTok PGmix [.b true, .r [.id 4, .row (List.map e_Pin [x3]), .id 5, .row (List.map e_Pin (y2 ++ [x3]))]] [] (an h12 (an (Eq.refl (List.flatten (List.map e_Pin [x3]))) (app_ok e_Pin h13))) (by kernel_rfl)
    · have h10 := Option.some.inj h10
      subst h10
      exact Runs.path XTok PGmix [.b false] [(5, 2)] h12 (by kernel_rfl)
  have h := Option.some.inj h
  subst h
  exact Runs.path XTok PGmix [.r [], .b true, .r [.el (e_Pin x3), .id 3], .r [.val (iA r5), .val (bA r7)], .s q14_f q14_g [] (.nor q14_f' q14_g'), .r [.eq 29 (iA ((i1 + 1 : Nat) : Int))]] [(2, 5)] (an (lt_true hi) (an (idx_ok e_Pin h4) (an (ref_kindOf_ok a0 a1 x3 r5 h6) (an (slices_Contains_int_int_ok a3 r5 r7 h8) (an R11 (wrap_eq hi hM)))))) (by kernel_rfl)
theorem ref_ofKinds_b0_e (a0 : List PartType) (a1 : Netlist) (a2 : Net) (a3 : List Int) (y2 : List Pin) : Runs PG 31 0 ref_ofKinds_c0 (ref_ofKinds_F0 a0 a1 a2 a3 (a2.Pins.length) y2) (ref_ofKinds_H0 a0 a1 a2 a3 (a2.Pins.length) y2) (ref_ofKinds_B0 a0 a1 a2 a3 y2) := by
  exact Runs.path XTok PGmix [.r [], .b false] [] (lt_false (a2.Pins.length)) (by kernel_rfl)
theorem ref_ofKinds_l0 (a0 : List PartType) (a1 : Netlist) (a2 : Net) (a3 : List Int) (y2 : List Pin) (r : Fin' (List Pin) (List Pin)) (h : forN (fun i1 s => ref_ofKinds_b0 a0 a1 a2 a3 i1 s) (a2.Pins.length) 0 y2 = some r) : Runs PG 31 0 (cL (cR (cL (cR (cR ref_ofKinds_c))))) (ref_ofKinds_F0 a0 a1 a2 a3 0 y2) (ref_ofKinds_H0 a0 a1 a2 a3 0 y2) (finOc (ref_ofKinds_B0 a0 a1 a2 a3) ref_ofKinds_R r) :=
  Runs.loop' (by kernel_rfl) (forN_rounds (σ := (List Pin)) (ρ := (List Pin)) (body := fun i1 s => ref_ofKinds_b0 a0 a1 a2 a3 i1 s) (F := fun i1 s => ref_ofKinds_F0 a0 a1 a2 a3 i1 s) (H := fun i1 s => ref_ofKinds_H0 a0 a1 a2 a3 i1 s) (B := ref_ofKinds_B0 a0 a1 a2 a3) (R := ref_ofKinds_R) (M := a2.Pins.length) (fun _ => rfl) (fun _ => rfl) (fun s => ref_ofKinds_b0_e a0 a1 a2 a3 s) (fun i s o hi h => ref_ofKinds_b0_r a0 a1 a2 a3 i s o hi h) _ 0 _ r (Nat.zero_add _) h)
noncomputable def ref_ofKinds (a0 : List PartType) (a1 : Netlist) (a2 : Net) (a3 : List Int) : Option (List Pin) :=
 aft1 (forN (fun i1 s => ref_ofKinds_b0 a0 a1 a2 a3 i1 s) (a2.Pins.length) 0 []) (fun u15 =>
 some u15)
 (fun r17 =>
 some r17)
theorem ref_ofKinds_ok (a0 : List PartType) (a1 : Netlist) (a2 : Net) (a3 : List Int) (r : List Pin) (h : ref_ofKinds a0 a1 a2 a3 = some r) : Spec PG 125 [lT 2 (List.map e_PartType a0), gT (e_Netlist a1), gT (e_Net a2), lT 1 (List.map e_i64 a3)] [] (lA 2 (List.map e_Pin r)) [] := by
  unfold ref_ofKinds at h
  rcases aft1_e h with ⟨u15, h16, h⟩ | ⟨r17, h16, h⟩
  · have h := Option.some.inj h
    subst h
    exact Spec.path XTok PGmix ref_ofKinds_fn 0 [.r [.id 0, .id 1, .nl 2], .r [.mk 2 28 2], .r [.eq 14 (iA (a2.Pins.length : Int))], .s (ref_ofKinds_F0 a0 a1 a2 a3 0 []) (ref_ofKinds_H0 a0 a1 a2 a3 0 []) [] (ref_ofKinds_B0 a0 a1 a2 a3 u15), .r [], .f 2] (an (leni_eq e_Pin a2.Pins) (ref_ofKinds_l0 a0 a1 a2 a3 [] (.fin u15) h16)) (by kernel_rfl)
  · have h := Option.some.inj h
    subst h
    exact Spec.path XTok PGmix ref_ofKinds_fn 0 [.r [.id 0, .id 1, .nl 2], .r [.mk 2 28 2], .r [.eq 14 (iA (a2.Pins.length : Int))], .s (ref_ofKinds_F0 a0 a1 a2 a3 0 []) (ref_ofKinds_H0 a0 a1 a2 a3 0 []) [] (ref_ofKinds_R r17)] (an (leni_eq e_Pin a2.Pins) (ref_ofKinds_l0 a0 a1 a2 a3 [] (.ret r17) h16)) (by kernel_rfl)

noncomputable def ref_netFindings_c : Code := (Go.Proofs.Tryd.f63.body).getD .skip
theorem ref_netFindings_fn : FnOk PG 63 ref_netFindings_c 125 [.tmp 6] := ⟨⟨Go.Proofs.Tryd.f63, by kernel_rfl, by kernel_rfl, by kernel_rfl, by kernel_rfl, by kernel_rfl⟩⟩
noncomputable def ref_netFindings (a0 : List PartType) (a1 : Netlist) (a2 : Net) : Option (List Finding) :=
 bnd (ref_ofKinds a0 a1 a2 [2]) fun r1 =>
 bnd (ref_ofKinds a0 a1 a2 [5]) fun r3 =>
 bnd1 (cnd (decide ((r1.length : Int) > 1)) (some true) (cnd (decide ((r1.length : Int) > 0)) (some (decide ((r3.length : Int) > 0))) (some false))) fun v5 =>
 bnd1 (cnd v5 (bnd (ref_ofKinds a0 a1 a2 [2, 5]) fun r15 =>
 grd (([] : List Finding).length + [(⟨1, a2.Name, r15⟩ : Finding)].length ≤ lim) <|
 some ([] ++ [(⟨1, a2.Name, r15⟩ : Finding)])) (some [])) fun v11 =>
 bnd (ref_ofKinds a0 a1 a2 [1]) fun r19 =>
 bnd1 (cnd (decide ((r19.length : Int) > 0)) (bnd (ref_ofKinds a0 a1 a2 [2, 3, 6, 5]) fun r25 =>
 some ((r25.length : Int) == 0)) (some false)) fun v21 =>
 bnd1 (cnd v21 (grd (v11.length + [(⟨2, a2.Name, r19⟩ : Finding)].length ≤ lim) <|
 some (v11 ++ [(⟨2, a2.Name, r19⟩ : Finding)])) (some v11)) fun v28 =>
 bnd (ref_ofKinds a0 a1 a2 [4]) fun r34 =>
 bnd1 (cnd (decide ((r34.length : Int) > 0)) (some ((r3.length : Int) == 0)) (some false)) fun v36 =>
 bnd1 (cnd v36 (grd (v28.length + [(⟨3, a2.Name, r34⟩ : Finding)].length ≤ lim) <|
 some (v28 ++ [(⟨3, a2.Name, r34⟩ : Finding)])) (some v28)) fun v41 =>
 bnd (ref_ofKinds a0 a1 a2 [7]) fun r47 =>
 bnd1 (cnd (decide ((r47.length : Int) > 0)) (grd (v41.length + [(⟨4, a2.Name, r47⟩ : Finding)].length ≤ lim) <|
 some (v41 ++ [(⟨4, a2.Name, r47⟩ : Finding)])) (some v41)) fun v49 =>
 bnd1 (cnd ((a2.Pins.length : Int) == 1) (some ((r47.length : Int) == 0)) (some false)) fun v55 =>
 bnd1 (cnd v55 (bnd (slices_Clone_api_Pin_api_Pin a2.Pins) fun r64 =>
 grd (v49.length + [(⟨5, a2.Name, r64⟩ : Finding)].length ≤ lim) <|
 some (v49 ++ [(⟨5, a2.Name, r64⟩ : Finding)])) (some v49)) fun v60 =>
 some v60
theorem ref_netFindings_ok (a0 : List PartType) (a1 : Netlist) (a2 : Net) (r : List Finding) (h : ref_netFindings a0 a1 a2 = some r) : Spec PG 63 [lT 2 (List.map e_PartType a0), gT (e_Netlist a1), gT (e_Net a2)] [] (lA 3 (List.map e_Finding r)) [] := by
  unfold ref_netFindings at h
  obtain ⟨r1, h2, h⟩ := bnd_e h
  obtain ⟨r3, h4, h⟩ := bnd_e h
  obtain ⟨v5, h6, h⟩ := bnd1_e h
  let q10_f : Fr := [(0, lA 2 (List.map e_PartType a0)), (4, .t (.v (.ptr 0 0))), (5, .t (.v (.ptr 1 0))), (7, .t (.v (.rt 2))), (8, lA 2 (List.map e_Pin r1)), (9, lA 2 (List.map e_Pin r3))]
  let q10_g : Hp := [(0, .cells 26 [.c (.sl 2 (List.map e_Part a1.Parts)), .c (.sl 3 (List.map e_Net a1.Nets))]), (1, .cells 64 [.c (sC a2.Name), .c (.sl 2 (List.map e_Pin a2.Pins)), .c (.sl 1 (List.map e_str a2.Ports))]), (2, .row 102 3 (List.map e_Finding []))]
  let q10_f' : Fr := [(0, lA 2 (List.map e_PartType a0)), (4, .t (.v (.ptr 0 0))), (5, .t (.v (.ptr 1 0))), (7, .t (.v (.rt 2))), (9, lA 2 (List.map e_Pin r3)), (35, bA v5)]
  let q10_g' : Hp := [(0, .cells 26 [.c (.sl 2 (List.map e_Part a1.Parts)), .c (.sl 3 (List.map e_Net a1.Nets))]), (1, .cells 64 [.c (sC a2.Name), .c (.sl 2 (List.map e_Pin a2.Pins)), .c (.sl 1 (List.map e_str a2.Ports))]), (2, .row 102 3 (List.map e_Finding []))]
  have R7 : Runs PG 125 0 (cL (cL (cR (cR (cR (cR ref_netFindings_c)))))) q10_f q10_g (.nor q10_f' q10_g') := by
    rcases cnd_e h6 with ⟨h8, h6⟩ | ⟨h8, h6⟩
    · have h6 := Option.some.inj h6
      subst h6
      exact Runs.path XTok PGmix [.r [.eq 24 (iA (r1.length : Int)), .b true, .b true, .b true, .b true, .b true, .b true]] [] (an (leni_eq e_Pin r1) (an h8 (an h8 (an h8 (an h8 (an h8 h8)))))) (by kernel_rfl)
    · rcases cnd_e h6 with ⟨h9, h6⟩ | ⟨h9, h6⟩
      · have h6 := Option.some.inj h6
        subst h6
        exact Runs.path XTok PGmix [.r [.eq 24 (iA (r1.length : Int)), .b false, .b false, .eq 28 (iA (r1.length : Int)), .b false, .b false, .b true, .b true, .eq 32 (iA (r3.length : Int)), .b true, .b false, .b true, .b false]] [] (an (leni_eq e_Pin r1) (an h8 (an h8 (an (leni_eq e_Pin r1) (an h8 (an h8 (an h9 (an h9 (an (leni_eq e_Pin r3) (an h9 (an h8 (an h9 h8)))))))))))) (by kernel_rfl)
      · have h6 := Option.some.inj h6
        subst h6
        exact Runs.path XTok PGmix [.r [.eq 24 (iA (r1.length : Int)), .b false, .b false, .eq 28 (iA (r1.length : Int)), .b false, .b false, .b false, .b false, .b false, .b false, .b false, .b false]] [] (an (leni_eq e_Pin r1) (an h8 (an h8 (an (leni_eq e_Pin r1) (an h8 (an h8 (an h9 (an h9 (an h9 (an h8 (an h9 h8))))))))))) (by kernel_rfl)
  obtain ⟨v11, h12, h⟩ := bnd1_e h
  let q18_f : Fr := [(0, lA 2 (List.map e_PartType a0)), (4, .t (.v (.ptr 0 0))), (5, .t (.v (.ptr 1 0))), (7, .t (.v (.rt 2))), (9, lA 2 (List.map e_Pin r3)), (35, bA v5)]
  let q18_g : Hp := [(0, .cells 26 [.c (.sl 2 (List.map e_Part a1.Parts)), .c (.sl 3 (List.map e_Net a1.Nets))]), (1, .cells 64 [.c (sC a2.Name), .c (.sl 2 (List.map e_Pin a2.Pins)), .c (.sl 1 (List.map e_str a2.Ports))]), (2, .row 102 3 (List.map e_Finding []))]
  let q18_f' : Fr := [(0, lA 2 (List.map e_PartType a0)), (4, .t (.v (.ptr 0 0))), (5, .t (.v (.ptr 1 0))), (7, .t (.v (.rt 4))), (9, lA 2 (List.map e_Pin r3))]
  let q18_g' : Hp := [(0, .cells 26 [.c (.sl 2 (List.map e_Part a1.Parts)), .c (.sl 3 (List.map e_Net a1.Nets))]), (1, .cells 64 [.c (sC a2.Name), .c (.sl 2 (List.map e_Pin a2.Pins)), .c (.sl 1 (List.map e_str a2.Ports))]), (4, .row 102 3 (List.map e_Finding v11))]
  have R13 : Runs PG 125 0 (cR (cL (cR (cR (cR (cR ref_netFindings_c)))))) q18_f q18_g (.nor q18_f' q18_g') := by
    rcases cnd_e h12 with ⟨h14, h12⟩ | ⟨h14, h12⟩
    · obtain ⟨r15, h16, h12⟩ := bnd_e h12
      obtain ⟨h17, h12⟩ := grd_e h12
      have h12 := Option.some.inj h12
      subst h12
      exact Runs.path XTok PGmix [.b true, .d [([], []), ([], []), ([1], []), ([], []), ([0], []), ([1], []), ([], [.row (List.map e_i64 [2, 5])]), ([], [.val (lA 2 (List.map e_Pin r15))]), ([], []), ([], [.id 3, .row (List.map e_Finding [(⟨1, a2.Name, r15⟩ : Finding)])]), ([2, 3], [.id 4, .row (List.map e_Finding ([] ++ [(⟨1, a2.Name, r15⟩ : Finding)]))]), ([], [])]] [] (an h14 (an (Eq.refl (List.flatten (List.map e_i64 [2, 5]))) (an (ref_ofKinds_ok a0 a1 a2 [2, 5] r15 h16) (an (Eq.refl (List.flatten (List.map e_Finding [(⟨1, a2.Name, r15⟩ : Finding)]))) (app_ok e_Finding h17))))) (by kernel_rfl)
    · have h12 := Option.some.inj h12
      subst h12
      exact Runs.path XTok PGmix [.b false] [(4, 2)] h14 (by kernel_rfl)
  obtain ⟨r19, h20, h⟩ := bnd_e h
  obtain ⟨v21, h22, h⟩ := bnd1_e h
  let q27_f : Fr := [(0, lA 2 (List.map e_PartType a0)), (4, .t (.v (.ptr 0 0))), (5, .t (.v (.ptr 1 0))), (7, .t (.v (.rt 4))), (9, lA 2 (List.map e_Pin r3)), (10, lA 2 (List.map e_Pin r19))]
  let q27_g : Hp := [(0, .cells 26 [.c (.sl 2 (List.map e_Part a1.Parts)), .c (.sl 3 (List.map e_Net a1.Nets))]), (1, .cells 64 [.c (sC a2.Name), .c (.sl 2 (List.map e_Pin a2.Pins)), .c (.sl 1 (List.map e_str a2.Ports))]), (4, .row 102 3 (List.map e_Finding v11))]
  let q27_f' : Fr := [(0, lA 2 (List.map e_PartType a0)), (4, .t (.v (.ptr 0 0))), (5, .t (.v (.ptr 1 0))), (7, .t (.v (.rt 4))), (9, lA 2 (List.map e_Pin r3)), (10, lA 2 (List.map e_Pin r19)), (63, bA v21)]
  let q27_g' : Hp := [(0, .cells 26 [.c (.sl 2 (List.map e_Part a1.Parts)), .c (.sl 3 (List.map e_Net a1.Nets))]), (1, .cells 64 [.c (sC a2.Name), .c (.sl 2 (List.map e_Pin a2.Pins)), .c (.sl 1 (List.map e_str a2.Ports))]), (4, .row 102 3 (List.map e_Finding v11))]
  have R23 : Runs PG 125 0 (cL (cL (cR (cR (cR (cR (cR (cR ref_netFindings_c)))))))) q27_f q27_g (.nor q27_f' q27_g') := by
    rcases cnd_e h22 with ⟨h24, h22⟩ | ⟨h24, h22⟩
    · obtain ⟨r25, h26, h22⟩ := bnd_e h22
      have h22 := Option.some.inj h22
      subst h22
      exact Runs.path XTok PGmix [.r [.eq 53 (iA (r19.length : Int)), .b true, .b true, .b true, .b true, .id 5, .row (List.map e_i64 [2, 3, 6, 5]), .fz 5, .b true, .val (lA 2 (List.map e_Pin r25)), .b true, .eq 61 (iA (r25.length : Int)), .b true, .b true]] [] (an (leni_eq e_Pin r19) (an h24 (an h24 (an h24 (an h24 (an (Eq.refl (List.flatten (List.map e_i64 [2, 3, 6, 5]))) (an h24 (an (ref_ofKinds_ok a0 a1 a2 [2, 3, 6, 5] r25 h26) (an h24 (an (leni_eq e_Pin r25) (an h24 h24))))))))))) (by kernel_rfl)
    · have h22 := Option.some.inj h22
      subst h22
      exact Runs.path XTok PGmix [.r [.eq 53 (iA (r19.length : Int)), .b false, .b false, .b false, .b false, .b false, .b false, .b false, .b false]] [] (an (leni_eq e_Pin r19) (an h24 (an h24 (an h24 (an h24 (an h24 (an h24 (an h24 h24)))))))) (by kernel_rfl)
  obtain ⟨v28, h29, h⟩ := bnd1_e h
  let q33_f : Fr := [(0, lA 2 (List.map e_PartType a0)), (4, .t (.v (.ptr 0 0))), (5, .t (.v (.ptr 1 0))), (7, .t (.v (.rt 4))), (9, lA 2 (List.map e_Pin r3)), (10, lA 2 (List.map e_Pin r19)), (63, bA v21)]
  let q33_g : Hp := [(0, .cells 26 [.c (.sl 2 (List.map e_Part a1.Parts)), .c (.sl 3 (List.map e_Net a1.Nets))]), (1, .cells 64 [.c (sC a2.Name), .c (.sl 2 (List.map e_Pin a2.Pins)), .c (.sl 1 (List.map e_str a2.Ports))]), (4, .row 102 3 (List.map e_Finding v11))]
  let q33_f' : Fr := [(0, lA 2 (List.map e_PartType a0)), (4, .t (.v (.ptr 0 0))), (5, .t (.v (.ptr 1 0))), (7, .t (.v (.rt 6))), (9, lA 2 (List.map e_Pin r3))]
  let q33_g' : Hp := [(0, .cells 26 [.c (.sl 2 (List.map e_Part a1.Parts)), .c (.sl 3 (List.map e_Net a1.Nets))]), (1, .cells 64 [.c (sC a2.Name), .c (.sl 2 (List.map e_Pin a2.Pins)), .c (.sl 1 (List.map e_str a2.Ports))]), (6, .row 102 3 (List.map e_Finding v28))]
  have R30 : Runs PG 125 0 (cR (cL (cR (cR (cR (cR (cR (cR ref_netFindings_c)))))))) q33_f q33_g (.nor q33_f' q33_g') := by
    rcases cnd_e h29 with ⟨h31, h29⟩ | ⟨h31, h29⟩
    · obtain ⟨h32, h29⟩ := grd_e h29
      have h29 := Option.some.inj h29
      subst h29
      exact Runs.path XTok PGmix [.b true, .r [.id 5, .row (List.map e_Finding [(⟨2, a2.Name, r19⟩ : Finding)]), .id 6, .row (List.map e_Finding (v11 ++ [(⟨2, a2.Name, r19⟩ : Finding)]))]] [] (an h31 (an (Eq.refl (List.flatten (List.map e_Finding [(⟨2, a2.Name, r19⟩ : Finding)]))) (app_ok e_Finding h32))) (by kernel_rfl)
    · have h29 := Option.some.inj h29
      subst h29
      exact Runs.path XTok PGmix [.b false] [(6, 4)] h31 (by kernel_rfl)
  obtain ⟨r34, h35, h⟩ := bnd_e h
  obtain ⟨v36, h37, h⟩ := bnd1_e h
  let q40_f : Fr := [(0, lA 2 (List.map e_PartType a0)), (4, .t (.v (.ptr 0 0))), (5, .t (.v (.ptr 1 0))), (7, .t (.v (.rt 6))), (9, lA 2 (List.map e_Pin r3)), (11, lA 2 (List.map e_Pin r34))]
  let q40_g : Hp := [(0, .cells 26 [.c (.sl 2 (List.map e_Part a1.Parts)), .c (.sl 3 (List.map e_Net a1.Nets))]), (1, .cells 64 [.c (sC a2.Name), .c (.sl 2 (List.map e_Pin a2.Pins)), .c (.sl 1 (List.map e_str a2.Ports))]), (6, .row 102 3 (List.map e_Finding v28))]
  let q40_f' : Fr := [(0, lA 2 (List.map e_PartType a0)), (4, .t (.v (.ptr 0 0))), (5, .t (.v (.ptr 1 0))), (7, .t (.v (.rt 6))), (11, lA 2 (List.map e_Pin r34)), (83, bA v36)]
  let q40_g' : Hp := [(0, .cells 26 [.c (.sl 2 (List.map e_Part a1.Parts)), .c (.sl 3 (List.map e_Net a1.Nets))]), (1, .cells 64 [.c (sC a2.Name), .c (.sl 2 (List.map e_Pin a2.Pins)), .c (.sl 1 (List.map e_str a2.Ports))]), (6, .row 102 3 (List.map e_Finding v28))]
  have R38 : Runs PG 125 0 (cL (cL (cR (cR (cR (cR (cR (cR (cR (cR ref_netFindings_c)))))))))) q40_f q40_g (.nor q40_f' q40_g') := by
    rcases cnd_e h37 with ⟨h39, h37⟩ | ⟨h39, h37⟩
    · have h37 := Option.some.inj h37
      subst h37
      exact Runs.path XTok PGmix [.r [.eq 77 (iA (r34.length : Int)), .b true, .b true, .eq 81 (iA (r3.length : Int)), .b true, .b true]] [] (an (leni_eq e_Pin r34) (an h39 (an h39 (an (leni_eq e_Pin r3) (an h39 h39))))) (by kernel_rfl)
    · have h37 := Option.some.inj h37
      subst h37
      exact Runs.path XTok PGmix [.r [.eq 77 (iA (r34.length : Int)), .b false, .b false, .b false, .b false]] [] (an (leni_eq e_Pin r34) (an h39 (an h39 (an h39 h39)))) (by kernel_rfl)
  obtain ⟨v41, h42, h⟩ := bnd1_e h
  let q46_f : Fr := [(0, lA 2 (List.map e_PartType a0)), (4, .t (.v (.ptr 0 0))), (5, .t (.v (.ptr 1 0))), (7, .t (.v (.rt 6))), (11, lA 2 (List.map e_Pin r34)), (83, bA v36)]
  let q46_g : Hp := [(0, .cells 26 [.c (.sl 2 (List.map e_Part a1.Parts)), .c (.sl 3 (List.map e_Net a1.Nets))]), (1, .cells 64 [.c (sC a2.Name), .c (.sl 2 (List.map e_Pin a2.Pins)), .c (.sl 1 (List.map e_str a2.Ports))]), (6, .row 102 3 (List.map e_Finding v28))]
  let q46_f' : Fr := [(0, lA 2 (List.map e_PartType a0)), (4, .t (.v (.ptr 0 0))), (5, .t (.v (.ptr 1 0))), (7, .t (.v (.rt 8)))]
  let q46_g' : Hp := [(0, .cells 26 [.c (.sl 2 (List.map e_Part a1.Parts)), .c (.sl 3 (List.map e_Net a1.Nets))]), (1, .cells 64 [.c (sC a2.Name), .c (.sl 2 (List.map e_Pin a2.Pins)), .c (.sl 1 (List.map e_str a2.Ports))]), (8, .row 102 3 (List.map e_Finding v41))]
  have R43 : Runs PG 125 0 (cR (cL (cR (cR (cR (cR (cR (cR (cR (cR ref_netFindings_c)))))))))) q46_f q46_g (.nor q46_f' q46_g') := by
    rcases cnd_e h42 with ⟨h44, h42⟩ | ⟨h44, h42⟩
    · obtain ⟨h45, h42⟩ := grd_e h42
      have h42 := Option.some.inj h42
      subst h42
      exact Runs.path XTok PGmix [.b true, .r [.id 7, .row (List.map e_Finding [(⟨3, a2.Name, r34⟩ : Finding)]), .id 8, .row (List.map e_Finding (v28 ++ [(⟨3, a2.Name, r34⟩ : Finding)]))]] [] (an h44 (an (Eq.refl (List.flatten (List.map e_Finding [(⟨3, a2.Name, r34⟩ : Finding)]))) (app_ok e_Finding h45))) (by kernel_rfl)
    · have h42 := Option.some.inj h42
      subst h42
      exact Runs.path XTok PGmix [.b false] [(8, 6)] h44 (by kernel_rfl)
  obtain ⟨r47, h48, h⟩ := bnd_e h
  obtain ⟨v49, h50, h⟩ := bnd1_e h
  let q54_f : Fr := [(5, .t (.v (.ptr 1 0))), (7, .t (.v (.rt 8))), (12, lA 2 (List.map e_Pin r47)), (98, bA (decide ((r47.length : Int) > 0)))]
  let q54_g : Hp := [(1, .cells 64 [.c (sC a2.Name), .c (.sl 2 (List.map e_Pin a2.Pins)), .c (.sl 1 (List.map e_str a2.Ports))]), (8, .row 102 3 (List.map e_Finding v41))]
  let q54_f' : Fr := [(5, .t (.v (.ptr 1 0))), (7, .t (.v (.rt 10))), (12, lA 2 (List.map e_Pin r47))]
  let q54_g' : Hp := [(1, .cells 64 [.c (sC a2.Name), .c (.sl 2 (List.map e_Pin a2.Pins)), .c (.sl 1 (List.map e_str a2.Ports))]), (10, .row 102 3 (List.map e_Finding v49))]
  have R51 : Runs PG 125 0 (cR (cL (cR (cR (cR (cR (cR (cR (cR (cR (cR (cR ref_netFindings_c)))))))))))) q54_f q54_g (.nor q54_f' q54_g') := by
    rcases cnd_e h50 with ⟨h52, h50⟩ | ⟨h52, h50⟩
    · obtain ⟨h53, h50⟩ := grd_e h50
      have h50 := Option.some.inj h50
      subst h50
      exact Runs.path XTok PGmix [.b true, .r [.id 9, .row (List.map e_Finding [(⟨4, a2.Name, r47⟩ : Finding)]), .id 10, .row (List.map e_Finding (v41 ++ [(⟨4, a2.Name, r47⟩ : Finding)]))]] [] (an h52 (an (Eq.refl (List.flatten (List.map e_Finding [(⟨4, a2.Name, r47⟩ : Finding)]))) (app_ok e_Finding h53))) (by kernel_rfl)
    · have h50 := Option.some.inj h50
      subst h50
      exact Runs.path XTok PGmix [.b false] [(10, 8)] h52 (by kernel_rfl)
  obtain ⟨v55, h56, h⟩ := bnd1_e h
  let q59_f : Fr := [(5, .t (.v (.ptr 1 0))), (7, .t (.v (.rt 10))), (12, lA 2 (List.map e_Pin r47))]
  let q59_g : Hp := [(1, .cells 64 [.c (sC a2.Name), .c (.sl 2 (List.map e_Pin a2.Pins)), .c (.sl 1 (List.map e_str a2.Ports))]), (10, .row 102 3 (List.map e_Finding v49))]
  let q59_f' : Fr := [(5, .t (.v (.ptr 1 0))), (7, .t (.v (.rt 10))), (114, bA v55)]
  let q59_g' : Hp := [(1, .cells 64 [.c (sC a2.Name), .c (.sl 2 (List.map e_Pin a2.Pins)), .c (.sl 1 (List.map e_str a2.Ports))]), (10, .row 102 3 (List.map e_Finding v49))]
  have R57 : Runs PG 125 0 (cL (cL (cR (cR (cR (cR (cR (cR (cR (cR (cR (cR (cR ref_netFindings_c))))))))))))) q59_f q59_g (.nor q59_f' q59_g') := by
    rcases cnd_e h56 with ⟨h58, h56⟩ | ⟨h58, h56⟩
    · have h56 := Option.some.inj h56
      subst h56
      exact Runs.path XTok PGmix [.r [.eq 108 (iA (a2.Pins.length : Int)), .b true, .b true, .eq 112 (iA (r47.length : Int)), .b true, .b true]] [] (an (leni_eq e_Pin a2.Pins) (an h58 (an h58 (an (leni_eq e_Pin r47) (an h58 h58))))) (by kernel_rfl)
    · have h56 := Option.some.inj h56
      subst h56
      exact Runs.path XTok PGmix [.r [.eq 108 (iA (a2.Pins.length : Int)), .b false, .b false, .b false, .b false]] [] (an (leni_eq e_Pin a2.Pins) (an h58 (an h58 (an h58 h58)))) (by kernel_rfl)
  obtain ⟨v60, h61, h⟩ := bnd1_e h
  let q67_f : Fr := [(5, .t (.v (.ptr 1 0))), (7, .t (.v (.rt 10))), (114, bA v55)]
  let q67_g : Hp := [(1, .cells 64 [.c (sC a2.Name), .c (.sl 2 (List.map e_Pin a2.Pins)), .c (.sl 1 (List.map e_str a2.Ports))]), (10, .row 102 3 (List.map e_Finding v49))]
  let q67_f' : Fr := [(7, .t (.v (.rt 12)))]
  let q67_g' : Hp := [(12, .row 102 3 (List.map e_Finding v60))]
  have R62 : Runs PG 125 0 (cR (cL (cR (cR (cR (cR (cR (cR (cR (cR (cR (cR (cR ref_netFindings_c))))))))))))) q67_f q67_g (.nor q67_f' q67_g') := by
    rcases cnd_e h61 with ⟨h63, h61⟩ | ⟨h63, h61⟩
    · obtain ⟨r64, h65, h61⟩ := bnd_e h61
      obtain ⟨h66, h61⟩ := grd_e h61
      have h61 := Option.some.inj h61
      subst h61
      exact Runs.path XTok PGmix [.b true, .d [([], []), ([], []), ([1], []), ([], []), ([1], []), ([], [.val (lA 2 (List.map e_Pin r64))]), ([], []), ([], [.id 11, .row (List.map e_Finding [(⟨5, a2.Name, r64⟩ : Finding)])]), ([10, 11], [.id 12, .row (List.map e_Finding (v49 ++ [(⟨5, a2.Name, r64⟩ : Finding)]))]), ([], [])]] [] (an h63 (an (slices_Clone_api_Pin_api_Pin_ok a2.Pins r64 h65) (an (Eq.refl (List.flatten (List.map e_Finding [(⟨5, a2.Name, r64⟩ : Finding)]))) (app_ok e_Finding h66)))) (by kernel_rfl)
    · have h61 := Option.some.inj h61
      subst h61
      exact Runs.path XTok PGmix [.b false] [(12, 10)] h63 (by kernel_rfl)
  have h := Option.some.inj h
  subst h
  exact Spec.path XTok PGmix ref_netFindings_fn 0 [.r [.id 0, .id 1, .nl 3], .r [.mk 2 102 3], .r [.id 3, .row (List.map e_i64 [2]), .fz 3, .val (lA 2 (List.map e_Pin r1))], .r [.id 3, .row (List.map e_i64 [5]), .fz 3, .val (lA 2 (List.map e_Pin r3))], .s q10_f q10_g [] (.nor q10_f' q10_g'), .s q18_f q18_g [] (.nor q18_f' q18_g'), .r [.id 5, .row (List.map e_i64 [1]), .fz 5, .val (lA 2 (List.map e_Pin r19))], .s q27_f q27_g [] (.nor q27_f' q27_g'), .s q33_f q33_g [] (.nor q33_f' q33_g'), .r [.id 7, .row (List.map e_i64 [4]), .fz 7, .val (lA 2 (List.map e_Pin r34))], .s q40_f q40_g [] (.nor q40_f' q40_g'), .s q46_f q46_g [] (.nor q46_f' q46_g'), .r [.id 9, .row (List.map e_i64 [7]), .fz 9, .val (lA 2 (List.map e_Pin r47))], .r [.eq 97 (iA (r47.length : Int))], .s q54_f q54_g [] (.nor q54_f' q54_g'), .s q59_f q59_g [] (.nor q59_f' q59_g'), .s q67_f q67_g [] (.nor q67_f' q67_g'), .r [], .f 12] (an (Eq.refl (List.flatten (List.map e_i64 [2]))) (an (ref_ofKinds_ok a0 a1 a2 [2] r1 h2) (an (Eq.refl (List.flatten (List.map e_i64 [5]))) (an (ref_ofKinds_ok a0 a1 a2 [5] r3 h4) (an R7 (an R13 (an (Eq.refl (List.flatten (List.map e_i64 [1]))) (an (ref_ofKinds_ok a0 a1 a2 [1] r19 h20) (an R23 (an R30 (an (Eq.refl (List.flatten (List.map e_i64 [4]))) (an (ref_ofKinds_ok a0 a1 a2 [4] r34 h35) (an R38 (an R43 (an (Eq.refl (List.flatten (List.map e_i64 [7]))) (an (ref_ofKinds_ok a0 a1 a2 [7] r47 h48) (an (leni_eq e_Pin r47) (an R51 (an R57 R62))))))))))))))))))) (by kernel_rfl)

noncomputable def ref_Findings_c : Code := (Go.Proofs.Tryd.f22.body).getD .skip
theorem ref_Findings_fn : FnOk PG 22 ref_Findings_c 59 [.tmp 4, .tmp 5] := ⟨⟨Go.Proofs.Tryd.f22, by kernel_rfl, by kernel_rfl, by kernel_rfl, by kernel_rfl, by kernel_rfl⟩⟩
noncomputable def ref_Findings_c0 : Code := cL (cL (cR (cL (cR (cR (cR ref_Findings_c))))))
noncomputable def ref_Findings_R (r : List Finding × Int) : Oc := .ret [(4, lA 3 (List.map e_Finding r.1)), (5, iA r.2)] []
noncomputable def ref_Findings_F0 (a0 : List PartType) (a1 : Netlist) (i4 : Nat) (y5 : List Finding) : Fr := [(0, lA 2 (List.map e_PartType a0)), (3, .t (.v (.ptr 0 0))), (7, .t (.v (.rt 1))), (20, lA 3 (List.map e_Net a1.Nets)), (21, iA (a1.Nets.length : Int)), (22, iA (i4 : Int))]
noncomputable def ref_Findings_H0 (a0 : List PartType) (a1 : Netlist) (i4 : Nat) (y5 : List Finding) : Hp := [(0, .cells 26 [.c (.sl 2 (List.map e_Part a1.Parts)), .c (.sl 3 (List.map e_Net a1.Nets))]), (1, .row 102 3 (List.map e_Finding y5))]
noncomputable def ref_Findings_B0 (a0 : List PartType) (a1 : Netlist) (s : List Finding) : Oc := .ex 0 [(0, lA 2 (List.map e_PartType a0)), (3, .t (.v (.ptr 0 0))), (7, .t (.v (.rt 1)))] [(0, .cells 26 [.c (.sl 2 (List.map e_Part a1.Parts)), .c (.sl 3 (List.map e_Net a1.Nets))]), (1, .row 102 3 (List.map e_Finding s))]
noncomputable def ref_Findings_b0 (a0 : List PartType) (a1 : Netlist) (i4 : Nat) (y5 : List Finding) : Option (Stp (List Finding) (List Finding × Int)) :=
 bnd (atI a1.Nets (i4 : Int)) fun x6 =>
 bnd (ref_netFindings a0 a1 x6) fun r8 =>
 grd (y5.length + r8.length ≤ lim) <|
 some (.go (y5 ++ r8))
theorem ref_Findings_b0_r (a0 : List PartType) (a1 : Netlist) (i4 : Nat) (y5 : List Finding) (o : Stp (List Finding) (List Finding × Int)) (hi : i4 < a1.Nets.length) (h : ref_Findings_b0 a0 a1 i4 y5 = some o) :
    Runs PG 59 0 ref_Findings_c0 (ref_Findings_F0 a0 a1 i4 y5) (ref_Findings_H0 a0 a1 i4 y5) (stpOc (fun s' => .nor (ref_Findings_F0 a0 a1 (i4 + 1) s') (ref_Findings_H0 a0 a1 (i4 + 1) s')) (ref_Findings_B0 a0 a1) ref_Findings_R o) := by
  unfold ref_Findings_b0 at h
  refine Runs.len (s := 20) (sz := 3) (xs := List.map e_Net a1.Nets) (by kernel_rfl) fun hl => ?_
  have hM : a1.Nets.length ≤ lim := len_of hl
  obtain ⟨x6, h7, h⟩ := bnd_e h
  obtain ⟨r8, h9, h⟩ := bnd_e h
  obtain ⟨h10, h⟩ := grd_e h
  have h := Option.some.inj h
  subst h
  exact Runs.path XTok PGmix [.r [], .b true, .r [.el (e_Net x6), .id 2], .r [.val (lA 3 (List.map e_Finding r8)), .id 3, .row (List.map e_Finding (y5 ++ r8))], .r [.eq 32 (iA ((i4 + 1 : Nat) : Int))]] [(1, 3)] (an (lt_true hi) (an (idx_ok e_Net h7) (an (ref_netFindings_ok a0 a1 x6 r8 h9) (an (app_ok e_Finding h10) (wrap_eq hi hM))))) (by kernel_rfl)
theorem ref_Findings_b0_e (a0 : List PartType) (a1 : Netlist) (y5 : List Finding) : Runs PG 59 0 ref_Findings_c0 (ref_Findings_F0 a0 a1 (a1.Nets.length) y5) (ref_Findings_H0 a0 a1 (a1.Nets.length) y5) (ref_Findings_B0 a0 a1 y5) := by
  exact Runs.path XTok PGmix [.r [], .b false] [] (lt_false (a1.Nets.length)) (by kernel_rfl)
theorem ref_Findings_l0 (a0 : List PartType) (a1 : Netlist) (y5 : List Finding) (r : Fin' (List Finding) (List Finding × Int)) (h : forN (fun i4 s => ref_Findings_b0 a0 a1 i4 s) (a1.Nets.length) 0 y5 = some r) : Runs PG 59 0 (cL (cR (cL (cR (cR (cR ref_Findings_c)))))) (ref_Findings_F0 a0 a1 0 y5) (ref_Findings_H0 a0 a1 0 y5) (finOc (ref_Findings_B0 a0 a1) ref_Findings_R r) :=
  Runs.loop' (by kernel_rfl) (forN_rounds (σ := (List Finding)) (ρ := (List Finding × Int)) (body := fun i4 s => ref_Findings_b0 a0 a1 i4 s) (F := fun i4 s => ref_Findings_F0 a0 a1 i4 s) (H := fun i4 s => ref_Findings_H0 a0 a1 i4 s) (B := ref_Findings_B0 a0 a1) (R := ref_Findings_R) (M := a1.Nets.length) (fun _ => rfl) (fun _ => rfl) (fun s => ref_Findings_b0_e a0 a1 s) (fun i s o hi h => ref_Findings_b0_r a0 a1 i s o hi h) _ 0 _ r (Nat.zero_add _) h)
noncomputable def ref_Findings_c1 : Code := cL (cL (cR (cL (cR (cR (cR (cR ref_Findings_c)))))))
noncomputable def ref_Findings_F1 (a0 : List PartType) (a1 : Netlist) (r14 : List Pin) (i16 : Nat) (y17 : List Finding) : Fr := [(0, lA 2 (List.map e_PartType a0)), (3, .t (.v (.ptr 0 0))), (7, .t (.v (.rt 1))), (35, lA 2 (List.map e_Pin r14)), (36, iA (r14.length : Int)), (37, iA (i16 : Int))]
noncomputable def ref_Findings_H1 (a0 : List PartType) (a1 : Netlist) (r14 : List Pin) (i16 : Nat) (y17 : List Finding) : Hp := [(0, .cells 26 [.c (.sl 2 (List.map e_Part a1.Parts)), .c (.sl 3 (List.map e_Net a1.Nets))]), (1, .row 102 3 (List.map e_Finding y17))]
noncomputable def ref_Findings_B1 (a0 : List PartType) (a1 : Netlist) (r14 : List Pin) (s : List Finding) : Oc := .ex 2 [(7, .t (.v (.rt 1)))] [(1, .row 102 3 (List.map e_Finding s))]
noncomputable def ref_Findings_b1 (a0 : List PartType) (a1 : Netlist) (r14 : List Pin) (i16 : Nat) (y17 : List Finding) : Option (Stp (List Finding) (List Finding × Int)) :=
 bnd (atI r14 (i16 : Int)) fun x18 =>
 bnd (ref_kindOf a0 a1 x18) fun r20 =>
 bnd1 (cnd (r20 != 7) (some (r20 != 6)) (some false)) fun v22 =>
 bnd1 (cnd v22 (grd (y17.length + ([(⟨6, (⟨#[]⟩ : ByteArray), [x18]⟩ : Finding)]).length ≤ lim) <|
 some (y17 ++ ([(⟨6, (⟨#[]⟩ : ByteArray), [x18]⟩ : Finding)]))) (some y17)) fun v27 =>
 some (.go v27)
theorem ref_Findings_b1_r (a0 : List PartType) (a1 : Netlist) (r14 : List Pin) (i16 : Nat) (y17 : List Finding) (o : Stp (List Finding) (List Finding × Int)) (hi : i16 < r14.length) (h : ref_Findings_b1 a0 a1 r14 i16 y17 = some o) :
    Runs PG 59 0 ref_Findings_c1 (ref_Findings_F1 a0 a1 r14 i16 y17) (ref_Findings_H1 a0 a1 r14 i16 y17) (stpOc (fun s' => .nor (ref_Findings_F1 a0 a1 r14 (i16 + 1) s') (ref_Findings_H1 a0 a1 r14 (i16 + 1) s')) (ref_Findings_B1 a0 a1 r14) ref_Findings_R o) := by
  unfold ref_Findings_b1 at h
  refine Runs.len (s := 35) (sz := 2) (xs := List.map e_Pin r14) (by kernel_rfl) fun hl => ?_
  have hM : r14.length ≤ lim := len_of hl
  obtain ⟨x18, h19, h⟩ := bnd_e h
  obtain ⟨r20, h21, h⟩ := bnd_e h
  obtain ⟨v22, h23, h⟩ := bnd1_e h
  let q26_f : Fr := [(0, lA 2 (List.map e_PartType a0)), (3, .t (.v (.ptr 0 0))), (7, .t (.v (.rt 1))), (11, .t (.v (.ptr 2 0))), (12, iA r20), (35, lA 2 (List.map e_Pin r14)), (36, iA (r14.length : Int)), (37, iA (i16 : Int))]
  let q26_g : Hp := [(0, .cells 26 [.c (.sl 2 (List.map e_Part a1.Parts)), .c (.sl 3 (List.map e_Net a1.Nets))]), (1, .row 102 3 (List.map e_Finding y17)), (2, .cells 28 [.c (sC x18.Part), .c (sC x18.Pin)])]
  let q26_f' : Fr := [(0, lA 2 (List.map e_PartType a0)), (3, .t (.v (.ptr 0 0))), (7, .t (.v (.rt 1))), (11, .t (.v (.ptr 2 0))), (35, lA 2 (List.map e_Pin r14)), (36, iA (r14.length : Int)), (37, iA (i16 : Int)), (50, bA v22)]
  let q26_g' : Hp := [(0, .cells 26 [.c (.sl 2 (List.map e_Part a1.Parts)), .c (.sl 3 (List.map e_Net a1.Nets))]), (1, .row 102 3 (List.map e_Finding y17)), (2, .cells 28 [.c (sC x18.Part), .c (sC x18.Pin)])]
  have R24 : Runs PG 59 0 (cL (cR (cR (cL (cL (cR (cR ref_Findings_c1))))))) q26_f q26_g (.nor q26_f' q26_g') := by
    rcases cnd_e h23 with ⟨h25, h23⟩ | ⟨h25, h23⟩
    · have h23 := Option.some.inj h23
      subst h23
      exact Runs.path XTok PGmix [.r [.b true, .b true, .b true]] [] (an h25 (an h25 h25)) (by kernel_rfl)
    · have h23 := Option.some.inj h23
      subst h23
      exact Runs.path XTok PGmix [.r [.b false, .b false, .b false]] [] (an h25 (an h25 h25)) (by kernel_rfl)
  obtain ⟨v27, h28, h⟩ := bnd1_e h
  let q32_f : Fr := [(0, lA 2 (List.map e_PartType a0)), (3, .t (.v (.ptr 0 0))), (7, .t (.v (.rt 1))), (11, .t (.v (.ptr 2 0))), (35, lA 2 (List.map e_Pin r14)), (36, iA (r14.length : Int)), (37, iA (i16 : Int)), (50, bA v22)]
  let q32_g : Hp := [(0, .cells 26 [.c (.sl 2 (List.map e_Part a1.Parts)), .c (.sl 3 (List.map e_Net a1.Nets))]), (1, .row 102 3 (List.map e_Finding y17)), (2, .cells 28 [.c (sC x18.Part), .c (sC x18.Pin)])]
  let q32_f' : Fr := [(0, lA 2 (List.map e_PartType a0)), (3, .t (.v (.ptr 0 0))), (7, .t (.v (.rt 4))), (35, lA 2 (List.map e_Pin r14)), (36, iA (r14.length : Int)), (37, iA (i16 : Int))]
  let q32_g' : Hp := [(0, .cells 26 [.c (.sl 2 (List.map e_Part a1.Parts)), .c (.sl 3 (List.map e_Net a1.Nets))]), (4, .row 102 3 (List.map e_Finding v27))]
  have R29 : Runs PG 59 0 (cR (cR (cR (cL (cL (cR (cR ref_Findings_c1))))))) q32_f q32_g (.nor q32_f' q32_g') := by
    rcases cnd_e h28 with ⟨h30, h28⟩ | ⟨h30, h28⟩
    · obtain ⟨h31, h28⟩ := grd_e h28
      have h28 := Option.some.inj h28
      subst h28
      exact Runs.path XTok PGmix [.b true, .r [.id 3, .row (List.map e_Pin [x18]), .fz 3, .id 3, .row (List.map e_Finding [(⟨6, (⟨#[]⟩ : ByteArray), [x18]⟩ : Finding)]), .id 4, .row (List.map e_Finding (y17 ++ ([(⟨6, (⟨#[]⟩ : ByteArray), [x18]⟩ : Finding)])))]] [] (an h30 (an (Eq.refl (List.flatten (List.map e_Pin [x18]))) (an (Eq.refl (List.flatten (List.map e_Finding [(⟨6, (⟨#[]⟩ : ByteArray), [x18]⟩ : Finding)]))) (app_ok e_Finding h31)))) (by kernel_rfl)
    · have h28 := Option.some.inj h28
      subst h28
      exact Runs.path XTok PGmix [.b false] [(4, 1)] h30 (by kernel_rfl)
  have h := Option.some.inj h
  subst h
  exact Runs.path XTok PGmix [.r [], .b true, .r [.el (e_Pin x18), .id 2], .r [.val (iA r20)], .s q26_f q26_g [] (.nor q26_f' q26_g'), .s q32_f q32_g [] (.nor q32_f' q32_g'), .r [.eq 57 (iA ((i16 + 1 : Nat) : Int))]] [(1, 4)] (an (lt_true hi) (an (idx_ok e_Pin h19) (an (ref_kindOf_ok a0 a1 x18 r20 h21) (an R24 (an R29 (wrap_eq hi hM)))))) (by kernel_rfl)
theorem ref_Findings_b1_e (a0 : List PartType) (a1 : Netlist) (r14 : List Pin) (y17 : List Finding) : Runs PG 59 0 ref_Findings_c1 (ref_Findings_F1 a0 a1 r14 (r14.length) y17) (ref_Findings_H1 a0 a1 r14 (r14.length) y17) (ref_Findings_B1 a0 a1 r14 y17) := by
  exact Runs.path XTok PGmix [.r [], .b false] [] (lt_false (r14.length)) (by kernel_rfl)
theorem ref_Findings_l1 (a0 : List PartType) (a1 : Netlist) (r14 : List Pin) (y17 : List Finding) (r : Fin' (List Finding) (List Finding × Int)) (h : forN (fun i16 s => ref_Findings_b1 a0 a1 r14 i16 s) (r14.length) 0 y17 = some r) : Runs PG 59 0 (cL (cR (cL (cR (cR (cR (cR ref_Findings_c))))))) (ref_Findings_F1 a0 a1 r14 0 y17) (ref_Findings_H1 a0 a1 r14 0 y17) (finOc (ref_Findings_B1 a0 a1 r14) ref_Findings_R r) :=
  Runs.loop' (by kernel_rfl) (forN_rounds (σ := (List Finding)) (ρ := (List Finding × Int)) (body := fun i16 s => ref_Findings_b1 a0 a1 r14 i16 s) (F := fun i16 s => ref_Findings_F1 a0 a1 r14 i16 s) (H := fun i16 s => ref_Findings_H1 a0 a1 r14 i16 s) (B := ref_Findings_B1 a0 a1 r14) (R := ref_Findings_R) (M := r14.length) (fun _ => rfl) (fun _ => rfl) (fun s => ref_Findings_b1_e a0 a1 r14 s) (fun i s o hi h => ref_Findings_b1_r a0 a1 r14 i s o hi h) _ 0 _ r (Nat.zero_add _) h)
noncomputable def ref_Findings (a0 : List PartType) (a1 : Netlist) : Option (List Finding × Int) :=
 bnd (ref_CheckList a0 a1) fun r1 =>
 cnd (r1 != 0) (some ([], r1)) (aft1 (forN (fun i4 s => ref_Findings_b0 a0 a1 i4 s) (a1.Nets.length) 0 []) (fun u11 =>
 bnd (ref_loose a0 a1) fun r14 =>
 aft1 (forN (fun i16 s => ref_Findings_b1 a0 a1 r14 i16 s) (r14.length) 0 u11) (fun u33 =>
 some (u33, 0))
 (fun r35 =>
 some r35))
 (fun r13 =>
 some r13))
theorem ref_Findings_ok (a0 : List PartType) (a1 : Netlist) (r : List Finding × Int) (h : ref_Findings a0 a1 = some r) : Spec PG 22 [lT 2 (List.map e_PartType a0), gT (e_Netlist a1)] [] (.tup [lT 3 (List.map e_Finding r.1), iT r.2]) [] := by
  unfold ref_Findings at h
  obtain ⟨r1, h2, h⟩ := bnd_e h
  rcases cnd_e h with ⟨h3, h⟩ | ⟨h3, h⟩
  · have h := Option.some.inj h
    subst h
    exact Spec.path XTok PGmix ref_Findings_fn 0 [.r [.id 0, .nl 3], .r [.val (iA r1)], .r [], .b true, .r [.nl 3]] (an (ref_CheckList_ok a0 a1 r1 h2) h3) (by kernel_rfl)
  · rcases aft1_e h with ⟨u11, h12, h⟩ | ⟨r13, h12, h⟩
    · obtain ⟨r14, h15, h⟩ := bnd_e h
      rcases aft1_e h with ⟨u33, h34, h⟩ | ⟨r35, h34, h⟩
      · have h := Option.some.inj h
        subst h
        exact Spec.path XTok PGmix ref_Findings_fn 0 [.r [.id 0, .nl 3], .r [.val (iA r1)], .r [], .b false, .r [.mk 1 102 3], .r [.eq 21 (iA (a1.Nets.length : Int))], .s (ref_Findings_F0 a0 a1 0 []) (ref_Findings_H0 a0 a1 0 []) [] (ref_Findings_B0 a0 a1 u11), .r [.val (lA 2 (List.map e_Pin r14)), .eq 36 (iA (r14.length : Int))], .s (ref_Findings_F1 a0 a1 r14 0 u11) (ref_Findings_H1 a0 a1 r14 0 u11) [] (ref_Findings_B1 a0 a1 r14 u33), .r [], .f 1] (an (ref_CheckList_ok a0 a1 r1 h2) (an h3 (an (leni_eq e_Net a1.Nets) (an (ref_Findings_l0 a0 a1 [] (.fin u11) h12) (an (ref_loose_ok a0 a1 r14 h15) (an (leni_eq e_Pin r14) (ref_Findings_l1 a0 a1 r14 u11 (.fin u33) h34))))))) (by kernel_rfl)
      · have h := Option.some.inj h
        subst h
        exact Spec.path XTok PGmix ref_Findings_fn 0 [.r [.id 0, .nl 3], .r [.val (iA r1)], .r [], .b false, .r [.mk 1 102 3], .r [.eq 21 (iA (a1.Nets.length : Int))], .s (ref_Findings_F0 a0 a1 0 []) (ref_Findings_H0 a0 a1 0 []) [] (ref_Findings_B0 a0 a1 u11), .r [.val (lA 2 (List.map e_Pin r14)), .eq 36 (iA (r14.length : Int))], .s (ref_Findings_F1 a0 a1 r14 0 u11) (ref_Findings_H1 a0 a1 r14 0 u11) [] (ref_Findings_R r35)] (an (ref_CheckList_ok a0 a1 r1 h2) (an h3 (an (leni_eq e_Net a1.Nets) (an (ref_Findings_l0 a0 a1 [] (.fin u11) h12) (an (ref_loose_ok a0 a1 r14 h15) (an (leni_eq e_Pin r14) (ref_Findings_l1 a0 a1 r14 u11 (.ret r35) h34))))))) (by kernel_rfl)
    · have h := Option.some.inj h
      subst h
      exact Spec.path XTok PGmix ref_Findings_fn 0 [.r [.id 0, .nl 3], .r [.val (iA r1)], .r [], .b false, .r [.mk 1 102 3], .r [.eq 21 (iA (a1.Nets.length : Int))], .s (ref_Findings_F0 a0 a1 0 []) (ref_Findings_H0 a0 a1 0 []) [] (ref_Findings_R r13)] (an (ref_CheckList_ok a0 a1 r1 h2) (an h3 (an (leni_eq e_Net a1.Nets) (ref_Findings_l0 a0 a1 [] (.ret r13) h12)))) (by kernel_rfl)

noncomputable def slices_Equal_api_Pin_api_Pin_c : Code := (Go.Proofs.Tryd.f19.body).getD .skip
theorem slices_Equal_api_Pin_api_Pin_fn : FnOk PG 19 slices_Equal_api_Pin_api_Pin_c 26 [.tmp 4] := ⟨⟨Go.Proofs.Tryd.f19, by kernel_rfl, by kernel_rfl, by kernel_rfl, by kernel_rfl, by kernel_rfl⟩⟩
noncomputable def slices_Equal_api_Pin_api_Pin_c0 : Code := cL (cL (cR (cL (cR (cR slices_Equal_api_Pin_api_Pin_c)))))
noncomputable def slices_Equal_api_Pin_api_Pin_R (r : Bool) : Oc := .ret [(4, bA r)] []
noncomputable def slices_Equal_api_Pin_api_Pin_F0 (a0 : List Pin) (a1 : List Pin) (i2 : Nat) : Fr := [(0, lA 2 (List.map e_Pin a0)), (1, lA 2 (List.map e_Pin a1)), (11, lA 2 (List.map e_Pin a0)), (12, iA (a0.length : Int)), (13, iA (i2 : Int))]
noncomputable def slices_Equal_api_Pin_api_Pin_H0 (a0 : List Pin) (a1 : List Pin) (i2 : Nat) : Hp := []
noncomputable def slices_Equal_api_Pin_api_Pin_B0 (a0 : List Pin) (a1 : List Pin) (s : Unit) : Oc := .ex 0 [] []
noncomputable def slices_Equal_api_Pin_api_Pin_b0 (a0 : List Pin) (a1 : List Pin) (i2 : Nat) : Option (Stp Unit Bool) :=
 bnd (atI a0 (i2 : Int)) fun x3 =>
 bnd (atI a1 (i2 : Int)) fun x5 =>
 cnd (!(sEq x3.Part x5.Part && (sEq x3.Pin x5.Pin && true))) (some (.ret false)) (some (.go ()))
theorem slices_Equal_api_Pin_api_Pin_b0_r (a0 : List Pin) (a1 : List Pin) (i2 : Nat) (o : Stp Unit Bool) (hi : i2 < a0.length) (h : slices_Equal_api_Pin_api_Pin_b0 a0 a1 i2 = some o) :
    Runs PG 26 0 slices_Equal_api_Pin_api_Pin_c0 (slices_Equal_api_Pin_api_Pin_F0 a0 a1 i2 ) (slices_Equal_api_Pin_api_Pin_H0 a0 a1 i2 ) (stpOc (fun s' => .nor (slices_Equal_api_Pin_api_Pin_F0 a0 a1 (i2 + 1) ) (slices_Equal_api_Pin_api_Pin_H0 a0 a1 (i2 + 1) )) (slices_Equal_api_Pin_api_Pin_B0 a0 a1) slices_Equal_api_Pin_api_Pin_R o) := by
  unfold slices_Equal_api_Pin_api_Pin_b0 at h
  refine Runs.len (s := 11) (sz := 2) (xs := List.map e_Pin a0) (by kernel_rfl) fun hl => ?_
  have hM : a0.length ≤ lim := len_of hl
  obtain ⟨x3, h4, h⟩ := bnd_e h
  obtain ⟨x5, h6, h⟩ := bnd_e h
  rcases cnd_e h with ⟨h7, h⟩ | ⟨h7, h⟩
  · have h := Option.some.inj h
    subst h
    exact Runs.path XTok PGmix [.r [], .b true, .r [], .d [([], []), ([], []), ([], [.el (e_Pin x3)]), ([], []), ([], []), ([], []), ([], [.el (e_Pin x5)]), ([], []), ([], [])], .b true, .r []] [] (an (lt_true hi) (an (idx_ok e_Pin h4) (an (idx_ok e_Pin h6) h7))) (by kernel_rfl)
  · have h := Option.some.inj h
    subst h
    exact Runs.path XTok PGmix [.r [], .b true, .r [], .d [([], []), ([], []), ([], [.el (e_Pin x3)]), ([], []), ([], []), ([], []), ([], [.el (e_Pin x5)]), ([], []), ([], [])], .b false, .r [.eq 25 (iA ((i2 + 1 : Nat) : Int))]] [] (an (lt_true hi) (an (idx_ok e_Pin h4) (an (idx_ok e_Pin h6) (an h7 (wrap_eq hi hM))))) (by kernel_rfl)
theorem slices_Equal_api_Pin_api_Pin_b0_e (a0 : List Pin) (a1 : List Pin) : Runs PG 26 0 slices_Equal_api_Pin_api_Pin_c0 (slices_Equal_api_Pin_api_Pin_F0 a0 a1 (a0.length) ) (slices_Equal_api_Pin_api_Pin_H0 a0 a1 (a0.length) ) (slices_Equal_api_Pin_api_Pin_B0 a0 a1 ()) := by
  exact Runs.path XTok PGmix [.r [], .b false] [] (lt_false (a0.length)) (by kernel_rfl)
theorem slices_Equal_api_Pin_api_Pin_l0 (a0 : List Pin) (a1 : List Pin) (r : Fin' Unit Bool) (h : forN (fun i2 s => slices_Equal_api_Pin_api_Pin_b0 a0 a1 i2 ) (a0.length) 0 () = some r) : Runs PG 26 0 (cL (cR (cL (cR (cR slices_Equal_api_Pin_api_Pin_c))))) (slices_Equal_api_Pin_api_Pin_F0 a0 a1 0 ) (slices_Equal_api_Pin_api_Pin_H0 a0 a1 0 ) (finOc (slices_Equal_api_Pin_api_Pin_B0 a0 a1) slices_Equal_api_Pin_api_Pin_R r) :=
  Runs.loop' (by kernel_rfl) (forN_rounds (σ := Unit) (ρ := Bool) (body := fun i2 s => slices_Equal_api_Pin_api_Pin_b0 a0 a1 i2 ) (F := fun i2 s => slices_Equal_api_Pin_api_Pin_F0 a0 a1 i2 ) (H := fun i2 s => slices_Equal_api_Pin_api_Pin_H0 a0 a1 i2 ) (B := slices_Equal_api_Pin_api_Pin_B0 a0 a1) (R := slices_Equal_api_Pin_api_Pin_R) (M := a0.length) (fun _ => rfl) (fun _ => rfl) (fun s => slices_Equal_api_Pin_api_Pin_b0_e a0 a1 ) (fun i s o hi h => slices_Equal_api_Pin_api_Pin_b0_r a0 a1 i o hi h) _ 0 _ r (Nat.zero_add _) h)
noncomputable def slices_Equal_api_Pin_api_Pin (a0 : List Pin) (a1 : List Pin) : Option Bool :=
 cnd ((a0.length : Int) != (a1.length : Int)) (some false) (aft0 (forN (fun i2 s => slices_Equal_api_Pin_api_Pin_b0 a0 a1 i2 ) (a0.length) 0 ()) (
 some true)
 (fun r9 =>
 some r9))
theorem slices_Equal_api_Pin_api_Pin_ok (a0 : List Pin) (a1 : List Pin) (r : Bool) (h : slices_Equal_api_Pin_api_Pin a0 a1 = some r) : Spec PG 19 [lT 2 (List.map e_Pin a0), lT 2 (List.map e_Pin a1)] [] (bA r) [] := by
  unfold slices_Equal_api_Pin_api_Pin at h
  rcases cnd_e h with ⟨h1, h⟩ | ⟨h1, h⟩
  · have h := Option.some.inj h
    subst h
    exact Spec.path XTok PGmix slices_Equal_api_Pin_api_Pin_fn 0 [.r [], .r [.eq 7 (iA (a0.length : Int)), .eq 9 (iA (a1.length : Int))], .b true, .r []] (an (leni_eq e_Pin a0) (an (leni_eq e_Pin a1) h1)) (by kernel_rfl)
  · rcases aft0_e h with ⟨h8, h⟩ | ⟨r9, h8, h⟩
    · have h := Option.some.inj h
      subst h
      exact Spec.path XTok PGmix slices_Equal_api_Pin_api_Pin_fn 0 [.r [], .r [.eq 7 (iA (a0.length : Int)), .eq 9 (iA (a1.length : Int))], .b false, .r [.eq 12 (iA (a0.length : Int))], .s (slices_Equal_api_Pin_api_Pin_F0 a0 a1 0 ) (slices_Equal_api_Pin_api_Pin_H0 a0 a1 0 ) [] (slices_Equal_api_Pin_api_Pin_B0 a0 a1 ()), .r []] (an (leni_eq e_Pin a0) (an (leni_eq e_Pin a1) (an h1 (an (leni_eq e_Pin a0) (slices_Equal_api_Pin_api_Pin_l0 a0 a1 (.fin ()) h8))))) (by kernel_rfl)
    · have h := Option.some.inj h
      subst h
      exact Spec.path XTok PGmix slices_Equal_api_Pin_api_Pin_fn 0 [.r [], .r [.eq 7 (iA (a0.length : Int)), .eq 9 (iA (a1.length : Int))], .b false, .r [.eq 12 (iA (a0.length : Int))], .s (slices_Equal_api_Pin_api_Pin_F0 a0 a1 0 ) (slices_Equal_api_Pin_api_Pin_H0 a0 a1 0 ) [] (slices_Equal_api_Pin_api_Pin_R r9)] (an (leni_eq e_Pin a0) (an (leni_eq e_Pin a1) (an h1 (an (leni_eq e_Pin a0) (slices_Equal_api_Pin_api_Pin_l0 a0 a1 (.ret r9) h8))))) (by kernel_rfl)

noncomputable def ref_SameFindings_c : Code := (Go.Proofs.Tryd.f23.body).getD .skip
theorem ref_SameFindings_fn : FnOk PG 23 ref_SameFindings_c 55 [.tmp 4] := ⟨⟨Go.Proofs.Tryd.f23, by kernel_rfl, by kernel_rfl, by kernel_rfl, by kernel_rfl, by kernel_rfl⟩⟩
noncomputable def ref_SameFindings_c0 : Code := cL (cL (cR (cL (cR (cR ref_SameFindings_c)))))
noncomputable def ref_SameFindings_R (r : Bool) : Oc := .ret [(4, bA r)] []
noncomputable def ref_SameFindings_F0 (a0 : List Finding) (a1 : List Finding) (i2 : Nat) : Fr := [(0, lA 3 (List.map e_Finding a0)), (1, lA 3 (List.map e_Finding a1)), (11, lA 3 (List.map e_Finding a0)), (12, iA (a0.length : Int)), (13, iA (i2 : Int))]
noncomputable def ref_SameFindings_H0 (a0 : List Finding) (a1 : List Finding) (i2 : Nat) : Hp := []
noncomputable def ref_SameFindings_B0 (a0 : List Finding) (a1 : List Finding) (s : Unit) : Oc := .ex 0 [] []
noncomputable def ref_SameFindings_b0 (a0 : List Finding) (a1 : List Finding) (i2 : Nat) : Option (Stp Unit Bool) :=
 bnd1 (bnd (atI a0 (i2 : Int)) fun x6 =>
 bnd (atI a1 (i2 : Int)) fun x8 =>
 cnd (x6.Kind != x8.Kind) (some true) (bnd (atI a0 (i2 : Int)) fun x11 =>
 bnd (atI a1 (i2 : Int)) fun x13 =>
 cnd (sNe x11.Net x13.Net) (some true) (bnd (atI a0 (i2 : Int)) fun x16 =>
 bnd (atI a1 (i2 : Int)) fun x18 =>
 bnd (slices_Equal_api_Pin_api_Pin x16.Pins x18.Pins) fun r20 =>
 some (!r20)))) fun v3 =>
 cnd v3 (some (.ret false)) (some (.go ()))
theorem ref_SameFindings_b0_r (a0 : List Finding) (a1 : List Finding) (i2 : Nat) (o : Stp Unit Bool) (hi : i2 < a0.length) (h : ref_SameFindings_b0 a0 a1 i2 = some o) :
    Runs PG 55 0 ref_SameFindings_c0 (ref_SameFindings_F0 a0 a1 i2 ) (ref_SameFindings_H0 a0 a1 i2 ) (stpOc (fun s' => .nor (ref_SameFindings_F0 a0 a1 (i2 + 1) ) (ref_SameFindings_H0 a0 a1 (i2 + 1) )) (ref_SameFindings_B0 a0 a1) ref_SameFindings_R o) := by
  unfold ref_SameFindings_b0 at h
  refine Runs.len (s := 11) (sz := 3) (xs := List.map e_Finding a0) (by kernel_rfl) fun hl => ?_
  have hM : a0.length ≤ lim := len_of hl
  obtain ⟨v3, h4, h⟩ := bnd1_e h
  let q22_f : Fr := [(0, lA 3 (List.map e_Finding a0)), (1, lA 3 (List.map e_Finding a1)), (5, iA (i2 : Int)), (11, lA 3 (List.map e_Finding a0)), (12, iA (a0.length : Int)), (13, iA (i2 : Int))]
  let q22_g : Hp := []
  let q22_f' : Fr := [(0, lA 3 (List.map e_Finding a0)), (1, lA 3 (List.map e_Finding a1)), (11, lA 3 (List.map e_Finding a0)), (12, iA (a0.length : Int)), (13, iA (i2 : Int)), (53, bA v3)]
  let q22_g' : Hp := []
  have R5 : Runs PG 55 0 (cL (cR (cL (cL (cR (cR ref_SameFindings_c0)))))) q22_f q22_g (.nor q22_f' q22_g') := by
    obtain ⟨x6, h7, h4⟩ := bnd_e h4
    obtain ⟨x8, h9, h4⟩ := bnd_e h4
    rcases cnd_e h4 with ⟨h10, h4⟩ | ⟨h10, h4⟩
    · have h4 := Option.some.inj h4
      subst h4
      exact Runs.path XTok PGmix [.d [([], []), ([], []), ([], [.el (e_Finding x6)]), ([], []), ([], []), ([], []), ([], []), ([], [.el (e_Finding x8)]), ([], []), ([], []), ([], []), ([], []), ([], [.b true]), ([], [.b true]), ([], [.b true]), ([], [.b true]), ([], [.b true]), ([], [.b true]), ([], [.b true]), ([], [.b true]), ([], [.b true]), ([], [.b true]), ([], [.b true]), ([], [.b true]), ([], []), ([], [.b true]), ([], [.b true]), ([], [.b true]), ([], [.b true]), ([], [.b true]), ([], [.b true]), ([], [.b true]), ([], [.b true]), ([], [.b true]), ([], [.b true]), ([], [.b true]), ([], [.b true]), ([], [.b true])]] [] (an (idx_ok e_Finding h7) (an (idx_ok e_Finding h9) (an h10 (an h10 (an h10 (an h10 (an h10 (an h10 (an h10 (an h10 (an h10 (an h10 (an h10 (an h10 (an (Eq.refl true) (an (Eq.refl true) (an (Eq.refl true) (an (Eq.refl true) (an (Eq.refl true) (an (Eq.refl true) (an (Eq.refl true) (an (Eq.refl true) (an (Eq.refl true) (an (Eq.refl true) (an (Eq.refl true) (an (Eq.refl true) (Eq.refl true))))))))))))))))))))))))))) (by kernel_rfl)
    · obtain ⟨x11, h12, h4⟩ := bnd_e h4
      obtain ⟨x13, h14, h4⟩ := bnd_e h4
      rcases cnd_e h4 with ⟨h15, h4⟩ | ⟨h15, h4⟩
      · have h4 := Option.some.inj h4
        subst h4
        exact Runs.path XTok PGmix [.d [([], []), ([], []), ([], [.el (e_Finding x6)]), ([], []), ([], []), ([], []), ([], []), ([], [.el (e_Finding x8)]), ([], []), ([], []), ([], []), ([], []), ([], [.b false]), ([], [.b false]), ([], [.b false, .el (e_Finding x11)]), ([], [.b false]), ([], [.b false]), ([], [.b false]), ([], [.b false]), ([], [.b false, .el (e_Finding x13)]), ([], [.b false]), ([], [.b false]), ([], [.b false]), ([], [.b false]), ([], []), ([], [.b true]), ([], [.b true]), ([], [.b true]), ([], [.b true]), ([], [.b true]), ([], [.b true]), ([], [.b true]), ([], [.b true]), ([], [.b true]), ([], [.b true]), ([], [.b true]), ([], [.b true]), ([], [.b true])]] [] (an (idx_ok e_Finding h7) (an (idx_ok e_Finding h9) (an h10 (an h10 (an h10 (an (idx_ok e_Finding h12) (an h10 (an h10 (an h10 (an h10 (an h10 (an (idx_ok e_Finding h14) (an h10 (an h10 (an h10 (an h10 (an h15 (an h15 (an h15 (an h15 (an h15 (an h15 (an h15 (an h15 (an h15 (an h15 (an h15 (an h15 h15)))))))))))))))))))))))))))) (by kernel_rfl)
      · obtain ⟨x16, h17, h4⟩ := bnd_e h4
        obtain ⟨x18, h19, h4⟩ := bnd_e h4
        obtain ⟨r20, h21, h4⟩ := bnd_e h4
        have h4 := Option.some.inj h4
        subst h4
        exact Runs.path XTok PGmix [.d [([], []), ([], []), ([], [.el (e_Finding x6)]), ([], []), ([], []), ([], []), ([], []), ([], [.el (e_Finding x8)]), ([], []), ([], []), ([], []), ([], []), ([], [.b false]), ([], [.b false]), ([], [.b false, .el (e_Finding x11)]), ([], [.b false]), ([], [.b false]), ([], [.b false]), ([], [.b false]), ([], [.b false, .el (e_Finding x13)]), ([], [.b false]), ([], [.b false]), ([], [.b false]), ([], [.b false]), ([], []), ([], [.b false]), ([], [.b false]), ([], [.b false, .el (e_Finding x16)]), ([], [.b false]), ([], [.b false]), ([], [.b false]), ([], [.b false]), ([], [.b false, .el (e_Finding x18)]), ([], [.b false]), ([], [.b false]), ([], [.b false, .val (bA r20)]), ([], [.b false]), ([], [.b false])]] [] (an (idx_ok e_Finding h7) (an (idx_ok e_Finding h9) (an h10 (an h10 (an h10 (an (idx_ok e_Finding h12) (an h10 (an h10 (an h10 (an h10 (an h10 (an (idx_ok e_Finding h14) (an h10 (an h10 (an h10 (an h10 (an h15 (an h15 (an h15 (an (idx_ok e_Finding h17) (an h15 (an h15 (an h15 (an h15 (an h15 (an (idx_ok e_Finding h19) (an h15 (an h15 (an h15 (an (slices_Equal_api_Pin_api_Pin_ok x16.Pins x18.Pins r20 h21) (an h15 h15))))))))))))))))))))))))))))))) (by kernel_rfl)
  rcases cnd_e h with ⟨h23, h⟩ | ⟨h23, h⟩
  · have h := Option.some.inj h
    subst h
    exact Runs.path XTok PGmix [.r [], .b true, .r [], .s q22_f q22_g [] (.nor q22_f' q22_g'), .b true, .r []] [] (an (lt_true hi) (an R5 h23)) (by kernel_rfl)
  · have h := Option.some.inj h
    subst h
    exact Runs.path XTok PGmix [.r [], .b true, .r [], .s q22_f q22_g [] (.nor q22_f' q22_g'), .b false, .r [.eq 54 (iA ((i2 + 1 : Nat) : Int))]] [] (an (lt_true hi) (an R5 (an h23 (wrap_eq hi hM)))) (by kernel_rfl)
theorem ref_SameFindings_b0_e (a0 : List Finding) (a1 : List Finding) : Runs PG 55 0 ref_SameFindings_c0 (ref_SameFindings_F0 a0 a1 (a0.length) ) (ref_SameFindings_H0 a0 a1 (a0.length) ) (ref_SameFindings_B0 a0 a1 ()) := by
  exact Runs.path XTok PGmix [.r [], .b false] [] (lt_false (a0.length)) (by kernel_rfl)
theorem ref_SameFindings_l0 (a0 : List Finding) (a1 : List Finding) (r : Fin' Unit Bool) (h : forN (fun i2 s => ref_SameFindings_b0 a0 a1 i2 ) (a0.length) 0 () = some r) : Runs PG 55 0 (cL (cR (cL (cR (cR ref_SameFindings_c))))) (ref_SameFindings_F0 a0 a1 0 ) (ref_SameFindings_H0 a0 a1 0 ) (finOc (ref_SameFindings_B0 a0 a1) ref_SameFindings_R r) :=
  Runs.loop' (by kernel_rfl) (forN_rounds (σ := Unit) (ρ := Bool) (body := fun i2 s => ref_SameFindings_b0 a0 a1 i2 ) (F := fun i2 s => ref_SameFindings_F0 a0 a1 i2 ) (H := fun i2 s => ref_SameFindings_H0 a0 a1 i2 ) (B := ref_SameFindings_B0 a0 a1) (R := ref_SameFindings_R) (M := a0.length) (fun _ => rfl) (fun _ => rfl) (fun s => ref_SameFindings_b0_e a0 a1 ) (fun i s o hi h => ref_SameFindings_b0_r a0 a1 i o hi h) _ 0 _ r (Nat.zero_add _) h)
noncomputable def ref_SameFindings (a0 : List Finding) (a1 : List Finding) : Option Bool :=
 cnd ((a0.length : Int) != (a1.length : Int)) (some false) (aft0 (forN (fun i2 s => ref_SameFindings_b0 a0 a1 i2 ) (a0.length) 0 ()) (
 some true)
 (fun r25 =>
 some r25))
theorem ref_SameFindings_ok (a0 : List Finding) (a1 : List Finding) (r : Bool) (h : ref_SameFindings a0 a1 = some r) : Spec PG 23 [lT 3 (List.map e_Finding a0), lT 3 (List.map e_Finding a1)] [] (bA r) [] := by
  unfold ref_SameFindings at h
  rcases cnd_e h with ⟨h1, h⟩ | ⟨h1, h⟩
  · have h := Option.some.inj h
    subst h
    exact Spec.path XTok PGmix ref_SameFindings_fn 0 [.r [], .r [.eq 7 (iA (a0.length : Int)), .eq 9 (iA (a1.length : Int))], .b true, .r []] (an (leni_eq e_Finding a0) (an (leni_eq e_Finding a1) h1)) (by kernel_rfl)
  · rcases aft0_e h with ⟨h24, h⟩ | ⟨r25, h24, h⟩
    · have h := Option.some.inj h
      subst h
      exact Spec.path XTok PGmix ref_SameFindings_fn 0 [.r [], .r [.eq 7 (iA (a0.length : Int)), .eq 9 (iA (a1.length : Int))], .b false, .r [.eq 12 (iA (a0.length : Int))], .s (ref_SameFindings_F0 a0 a1 0 ) (ref_SameFindings_H0 a0 a1 0 ) [] (ref_SameFindings_B0 a0 a1 ()), .r []] (an (leni_eq e_Finding a0) (an (leni_eq e_Finding a1) (an h1 (an (leni_eq e_Finding a0) (ref_SameFindings_l0 a0 a1 (.fin ()) h24))))) (by kernel_rfl)
    · have h := Option.some.inj h
      subst h
      exact Spec.path XTok PGmix ref_SameFindings_fn 0 [.r [], .r [.eq 7 (iA (a0.length : Int)), .eq 9 (iA (a1.length : Int))], .b false, .r [.eq 12 (iA (a0.length : Int))], .s (ref_SameFindings_F0 a0 a1 0 ) (ref_SameFindings_H0 a0 a1 0 ) [] (ref_SameFindings_R r25)] (an (leni_eq e_Finding a0) (an (leni_eq e_Finding a1) (an h1 (an (leni_eq e_Finding a0) (ref_SameFindings_l0 a0 a1 (.ret r25) h24))))) (by kernel_rfl)

noncomputable def law_NetlistFindingsMatchSpec_c : Code := (Go.Proofs.Tryd.f4.body).getD .skip
theorem law_NetlistFindingsMatchSpec_fn : FnOk PG 4 law_NetlistFindingsMatchSpec_c 32 [.tmp 4] := ⟨⟨Go.Proofs.Tryd.f4, by kernel_rfl, by kernel_rfl, by kernel_rfl, by kernel_rfl, by kernel_rfl⟩⟩
noncomputable def law_NetlistFindingsMatchSpec (a0 : List PartType) (a1 : Netlist) : Option Bool :=
 bnd (nl_Findings a0 a1) fun r1 =>
 bnd (ref_Findings a0 a1) fun r3 =>
 bnd1 (cnd (r1.2 == r3.2) (bnd (ref_SameFindings r1.1 r3.1) fun r9 =>
 cnd r9 (bnd (law_awake ) fun r12 =>
 some r12) (some false)) (some false)) fun v5 =>
 some v5
theorem law_NetlistFindingsMatchSpec_ok (a0 : List PartType) (a1 : Netlist) (r : Bool) (h : law_NetlistFindingsMatchSpec a0 a1 = some r) : Spec PG 4 [lT 2 (List.map e_PartType a0), gT (e_Netlist a1)] [] (bA r) [] := by
  unfold law_NetlistFindingsMatchSpec at h
  obtain ⟨r1, h2, h⟩ := bnd_e h
  obtain ⟨r3, h4, h⟩ := bnd_e h
  obtain ⟨v5, h6, h⟩ := bnd1_e h
  let q14_f : Fr := [(5, lA 3 (List.map e_Finding r1.1)), (6, iA r1.2), (7, lA 3 (List.map e_Finding r3.1)), (8, iA r3.2)]
  let q14_g : Hp := []
  let q14_f' : Fr := [(4, bA v5)]
  let q14_g' : Hp := []
  have R7 : Runs PG 32 0 (cL (cR (cR (cR law_NetlistFindingsMatchSpec_c)))) q14_f q14_g (.nor q14_f' q14_g') := by
    rcases cnd_e h6 with ⟨h8, h6⟩ | ⟨h8, h6⟩
    · obtain ⟨r9, h10, h6⟩ := bnd_e h6
      rcases cnd_e h6 with ⟨h11, h6⟩ | ⟨h11, h6⟩
      · obtain ⟨r12, h13, h6⟩ := bnd_e h6
        have h6 := Option.some.inj h6
        subst h6
        exact Runs.path XTok PGmix [.r [.b true, .b true, .b true, .val (bA r9), .b true, .b true, .val (bA r12), .b true]] [] (an h8 (an h8 (an h8 (an (ref_SameFindings_ok r1.1 r3.1 r9 h10) (an h8 (an h11 (an (law_awake_ok r12 h13) h11))))))) (by kernel_rfl)
      · have h6 := Option.some.inj h6
        subst h6
        exact Runs.path XTok PGmix [.r [.b true, .b true, .b true, .val (bA r9), .b true, .b false, .b false]] [] (an h8 (an h8 (an h8 (an (ref_SameFindings_ok r1.1 r3.1 r9 h10) (an h8 (an h11 h11)))))) (by kernel_rfl)
    · have h6 := Option.some.inj h6
      subst h6
      exact Runs.path XTok PGmix [.r [.b false, .b false, .b false, .b false, .b false, .b false]] [] (an h8 (an h8 (an h8 (an h8 (an (Eq.refl false) (Eq.refl false)))))) (by kernel_rfl)
  have h := Option.some.inj h
  subst h
  exact Spec.path XTok PGmix law_NetlistFindingsMatchSpec_fn 0 [.r [.id 0], .r [.val (.tup [lT 3 (List.map e_Finding r1.1), iT r1.2])], .r [.val (.tup [lT 3 (List.map e_Finding r3.1), iT r3.2])], .s q14_f q14_g [] (.nor q14_f' q14_g')] (an (nl_Findings_ok a0 a1 r1 h2) (an (ref_Findings_ok a0 a1 r3 h4) R7)) (by kernel_rfl)
end Go.Proofs.YtlbndchfmdogeaaDoor.Sym
