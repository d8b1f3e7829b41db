/- Printed by gen2.py: the plain forms of functions, and that calling them gives what these give. Conditions: none. -/
import Derived.Test.YtlbndchfmdogeaaDoorCf2
set_option linter.unusedVariables false
set_option maxHeartbeats 4000000
namespace Go.Proofs.YtlbndchfmdogeaaDoor.Sym
open Go Go.RowKit
noncomputable def slices_Concat_api_ListChange_api_ListChange_c : Code := (Go.Proofs.Tryd.f78.body).getD .skip
theorem slices_Concat_api_ListChange_api_ListChange_fn : FnOk PG 78 slices_Concat_api_ListChange_api_ListChange_c 36 [.tmp 2] := ⟨⟨Go.Proofs.Tryd.f78, by kernel_rfl, by kernel_rfl, by kernel_rfl, by kernel_rfl, by kernel_rfl⟩⟩
noncomputable def slices_Concat_api_ListChange_api_ListChange_c0 : Code := cL (cL (cR (cL (cR (cR slices_Concat_api_ListChange_api_ListChange_c)))))
noncomputable def slices_Concat_api_ListChange_api_ListChange_R (r : List ListChange) : Oc := .ret [(2, .t (.v (.rt 0)))] [(0, .row 53 3 (List.map e_ListChange r))]
noncomputable def slices_Concat_api_ListChange_api_ListChange_F0 (a0 : List (List ListChange)) (i1 : Nat) (y2 : Int) : Fr := [(0, lA 1 (List.map e_sl_ListChange a0)), (3, iA y2), (9, lA 1 (List.map e_sl_ListChange a0)), (10, iA (a0.length : Int)), (11, iA (i1 : Int))]
noncomputable def slices_Concat_api_ListChange_api_ListChange_H0 (a0 : List (List ListChange)) (i1 : Nat) (y2 : Int) : Hp := []
noncomputable def slices_Concat_api_ListChange_api_ListChange_B0 (a0 : List (List ListChange)) (s : Int) : Oc := .ex 0 [(0, lA 1 (List.map e_sl_ListChange a0)), (3, iA s)] []
noncomputable def slices_Concat_api_ListChange_api_ListChange_b0 (a0 : List (List ListChange)) (i1 : Nat) (y2 : Int) : Option (Stp Int (List ListChange)) :=
 bnd (atI a0 (i1 : Int)) fun x3 =>
 bnd0 (cnd (decide ((w64 (y2 + (x3.length : Int))) < 0)) (none) (some ())) <|
 some (.go (w64 (y2 + (x3.length : Int))))
theorem slices_Concat_api_ListChange_api_ListChange_b0_r (a0 : List (List ListChange)) (i1 : Nat) (y2 : Int) (o : Stp Int (List ListChange)) (hi : i1 < a0.length) (h : slices_Concat_api_ListChange_api_ListChange_b0 a0 i1 y2 = some o) :
    Runs PG 36 0 slices_Concat_api_ListChange_api_ListChange_c0 (slices_Concat_api_ListChange_api_ListChange_F0 a0 i1 y2) (slices_Concat_api_ListChange_api_ListChange_H0 a0 i1 y2) (stpOc (fun s' => .nor (slices_Concat_api_ListChange_api_ListChange_F0 a0 (i1 + 1) s') (slices_Concat_api_ListChange_api_ListChange_H0 a0 (i1 + 1) s')) (slices_Concat_api_ListChange_api_ListChange_B0 a0) slices_Concat_api_ListChange_api_ListChange_R o) := by
  unfold slices_Concat_api_ListChange_api_ListChange_b0 at h
  refine Runs.len (s := 9) (sz := 1) (xs := List.map e_sl_ListChange a0) (by kernel_rfl) fun hl => ?_
  have hM : a0.length ≤ lim := len_of hl
  obtain ⟨x3, h4, h⟩ := bnd_e h
  obtain ⟨h5, h⟩ := bnd0_e h
  let q8_f : Fr := [(0, lA 1 (List.map e_sl_ListChange a0)), (3, iA (w64 (y2 + (x3.length : Int)))), (9, lA 1 (List.map e_sl_ListChange a0)), (10, iA (a0.length : Int)), (11, iA (i1 : Int)), (20, bA (decide ((w64 (y2 + (x3.length : Int))) < 0)))]
  let q8_g : Hp := []
  let q8_f' : Fr := [(0, lA 1 (List.map e_sl_ListChange a0)), (3, iA (w64 (y2 + (x3.length : Int)))), (9, lA 1 (List.map e_sl_ListChange a0)), (10, iA (a0.length : Int)), (11, iA (i1 : Int))]
  let q8_g' : Hp := []
  have R6 : Runs PG 36 0 (cR (cR (cR (cL (cL (cR (cR slices_Concat_api_ListChange_api_ListChange_c0))))))) q8_f q8_g (.nor q8_f' q8_g') := by
    rcases cnd_e h5 with ⟨h7, h5⟩ | ⟨h7, h5⟩
    · cases h5
    · exact Runs.path XTok PGmix [.b false] [] h7 (by kernel_rfl)
  have h := Option.some.inj h
  subst h
  exact Runs.path XTok PGmix [.r [], .b true, .r [.el [.sl 3 (List.map e_ListChange x3)]], .r [.eq 17 (iA (x3.length : Int))], .r [], .s q8_f q8_g [] (.nor q8_f' q8_g'), .r [.eq 22 (iA ((i1 + 1 : Nat) : Int))]] [] (an (lt_true hi) (an (idx_ok e_sl_ListChange h4) (an (leni_eq e_ListChange x3) (an R6 (wrap_eq hi hM))))) (by kernel_rfl)
theorem slices_Concat_api_ListChange_api_ListChange_b0_e (a0 : List (List ListChange)) (y2 : Int) : Runs PG 36 0 slices_Concat_api_ListChange_api_ListChange_c0 (slices_Concat_api_ListChange_api_ListChange_F0 a0 (a0.length) y2) (slices_Concat_api_ListChange_api_ListChange_H0 a0 (a0.length) y2) (slices_Concat_api_ListChange_api_ListChange_B0 a0 y2) := by
  exact Runs.path XTok PGmix [.r [], .b false] [] (lt_false (a0.length)) (by kernel_rfl)
theorem slices_Concat_api_ListChange_api_ListChange_l0 (a0 : List (List ListChange)) (y2 : Int) (r : Fin' Int (List ListChange)) (h : forN (fun i1 s => slices_Concat_api_ListChange_api_ListChange_b0 a0 i1 s) (a0.length) 0 y2 = some r) : Runs PG 36 0 (cL (cR (cL (cR (cR slices_Concat_api_ListChange_api_ListChange_c))))) (slices_Concat_api_ListChange_api_ListChange_F0 a0 0 y2) (slices_Concat_api_ListChange_api_ListChange_H0 a0 0 y2) (finOc (slices_Concat_api_ListChange_api_ListChange_B0 a0) slices_Concat_api_ListChange_api_ListChange_R r) :=
  Runs.loop' (by kernel_rfl) (forN_rounds (σ := Int) (ρ := (List ListChange)) (body := fun i1 s => slices_Concat_api_ListChange_api_ListChange_b0 a0 i1 s) (F := fun i1 s => slices_Concat_api_ListChange_api_ListChange_F0 a0 i1 s) (H := fun i1 s => slices_Concat_api_ListChange_api_ListChange_H0 a0 i1 s) (B := slices_Concat_api_ListChange_api_ListChange_B0 a0) (R := slices_Concat_api_ListChange_api_ListChange_R) (M := a0.length) (fun _ => rfl) (fun _ => rfl) (fun s => slices_Concat_api_ListChange_api_ListChange_b0_e a0 s) (fun i s o hi h => slices_Concat_api_ListChange_api_ListChange_b0_r a0 i s o hi h) _ 0 _ r (Nat.zero_add _) h)
noncomputable def slices_Concat_api_ListChange_api_ListChange_c1 : Code := cL (cL (cR (cL (cR (cR (cR (cR slices_Concat_api_ListChange_api_ListChange_c)))))))
noncomputable def slices_Concat_api_ListChange_api_ListChange_F1 (a0 : List (List ListChange)) (i14 : Nat) (y15 : List ListChange) : Fr := [(6, .t (.v (.rt 0))), (25, lA 1 (List.map e_sl_ListChange a0)), (26, iA (a0.length : Int)), (27, iA (i14 : Int))]
noncomputable def slices_Concat_api_ListChange_api_ListChange_H1 (a0 : List (List ListChange)) (i14 : Nat) (y15 : List ListChange) : Hp := [(0, .row 53 3 (List.map e_ListChange y15))]
noncomputable def slices_Concat_api_ListChange_api_ListChange_B1 (a0 : List (List ListChange)) (s : List ListChange) : Oc := .ex 2 [(6, .t (.v (.rt 0)))] [(0, .row 53 3 (List.map e_ListChange s))]
noncomputable def slices_Concat_api_ListChange_api_ListChange_b1 (a0 : List (List ListChange)) (i14 : Nat) (y15 : List ListChange) : Option (Stp (List ListChange) (List ListChange)) :=
 bnd (atI a0 (i14 : Int)) fun x16 =>
 grd (y15.length + x16.length ≤ lim) <|
 some (.go (y15 ++ x16))
theorem slices_Concat_api_ListChange_api_ListChange_b1_r (a0 : List (List ListChange)) (i14 : Nat) (y15 : List ListChange) (o : Stp (List ListChange) (List ListChange)) (hi : i14 < a0.length) (h : slices_Concat_api_ListChange_api_ListChange_b1 a0 i14 y15 = some o) :
    Runs PG 36 0 slices_Concat_api_ListChange_api_ListChange_c1 (slices_Concat_api_ListChange_api_ListChange_F1 a0 i14 y15) (slices_Concat_api_ListChange_api_ListChange_H1 a0 i14 y15) (stpOc (fun s' => .nor (slices_Concat_api_ListChange_api_ListChange_F1 a0 (i14 + 1) s') (slices_Concat_api_ListChange_api_ListChange_H1 a0 (i14 + 1) s')) (slices_Concat_api_ListChange_api_ListChange_B1 a0) slices_Concat_api_ListChange_api_ListChange_R o) := by
  unfold slices_Concat_api_ListChange_api_ListChange_b1 at h
  refine Runs.len (s := 25) (sz := 1) (xs := List.map e_sl_ListChange a0) (by kernel_rfl) fun hl => ?_
  have hM : a0.length ≤ lim := len_of hl
  obtain ⟨x16, h17, h⟩ := bnd_e h
  obtain ⟨h18, h⟩ := grd_e h
  have h := Option.some.inj h
  subst h
  exact Runs.path XTok PGmix [.r [], .b true, .r [.el [.sl 3 (List.map e_ListChange x16)]], .r [.id 1, .row (List.map e_ListChange (y15 ++ x16))], .r [.eq 34 (iA ((i14 + 1 : Nat) : Int))]] [(0, 1)] (an (lt_true hi) (an (idx_ok e_sl_ListChange h17) (an (app_ok e_ListChange h18) (wrap_eq hi hM)))) (by kernel_rfl)
theorem slices_Concat_api_ListChange_api_ListChange_b1_e (a0 : List (List ListChange)) (y15 : List ListChange) : Runs PG 36 0 slices_Concat_api_ListChange_api_ListChange_c1 (slices_Concat_api_ListChange_api_ListChange_F1 a0 (a0.length) y15) (slices_Concat_api_ListChange_api_ListChange_H1 a0 (a0.length) y15) (slices_Concat_api_ListChange_api_ListChange_B1 a0 y15) := by
  exact Runs.path XTok PGmix [.r [], .b false] [] (lt_false (a0.length)) (by kernel_rfl)
theorem slices_Concat_api_ListChange_api_ListChange_l1 (a0 : List (List ListChange)) (y15 : List ListChange) (r : Fin' (List ListChange) (List ListChange)) (h : forN (fun i14 s => slices_Concat_api_ListChange_api_ListChange_b1 a0 i14 s) (a0.length) 0 y15 = some r) : Runs PG 36 0 (cL (cR (cL (cR (cR (cR (cR slices_Concat_api_ListChange_api_ListChange_c))))))) (slices_Concat_api_ListChange_api_ListChange_F1 a0 0 y15) (slices_Concat_api_ListChange_api_ListChange_H1 a0 0 y15) (finOc (slices_Concat_api_ListChange_api_ListChange_B1 a0) slices_Concat_api_ListChange_api_ListChange_R r) :=
  Runs.loop' (by kernel_rfl) (forN_rounds (σ := (List ListChange)) (ρ := (List ListChange)) (body := fun i14 s => slices_Concat_api_ListChange_api_ListChange_b1 a0 i14 s) (F := fun i14 s => slices_Concat_api_ListChange_api_ListChange_F1 a0 i14 s) (H := fun i14 s => slices_Concat_api_ListChange_api_ListChange_H1 a0 i14 s) (B := slices_Concat_api_ListChange_api_ListChange_B1 a0) (R := slices_Concat_api_ListChange_api_ListChange_R) (M := a0.length) (fun _ => rfl) (fun _ => rfl) (fun s => slices_Concat_api_ListChange_api_ListChange_b1_e a0 s) (fun i s o hi h => slices_Concat_api_ListChange_api_ListChange_b1_r a0 i s o hi h) _ 0 _ r (Nat.zero_add _) h)
noncomputable def slices_Concat_api_ListChange_api_ListChange (a0 : List (List ListChange)) : Option (List ListChange) :=
 aft1 (forN (fun i1 s => slices_Concat_api_ListChange_api_ListChange_b0 a0 i1 s) (a0.length) 0 0) (fun u9 =>
 bnd (slices_Grow_api_ListChange_api_ListChange u9) fun r12 =>
 aft1 (forN (fun i14 s => slices_Concat_api_ListChange_api_ListChange_b1 a0 i14 s) (a0.length) 0 r12) (fun u19 =>
 some u19)
 (fun r21 =>
 some r21))
 (fun r11 =>
 some r11)
theorem slices_Concat_api_ListChange_api_ListChange_ok (a0 : List (List ListChange)) (r : List ListChange) (h : slices_Concat_api_ListChange_api_ListChange a0 = some r) : Spec PG 78 [lT 1 (List.map e_sl_ListChange a0)] [] (.t (.v (.rt 0))) [(0, .row 53 3 (List.map e_ListChange r))] := by
  unfold slices_Concat_api_ListChange_api_ListChange at h
  rcases aft1_e h with ⟨u9, h10, h⟩ | ⟨r11, h10, h⟩
  · obtain ⟨r12, h13, h⟩ := bnd_e h
    rcases aft1_e h with ⟨u19, h20, h⟩ | ⟨r21, h20, h⟩
    · have h := Option.some.inj h
      subst h
      exact Spec.path XTok PGmix slices_Concat_api_ListChange_api_ListChange_fn 0 [.r [.nl 3], .r [], .r [.eq 10 (iA (a0.length : Int))], .s (slices_Concat_api_ListChange_api_ListChange_F0 a0 0 0) (slices_Concat_api_ListChange_api_ListChange_H0 a0 0 0) [] (slices_Concat_api_ListChange_api_ListChange_B0 a0 u9), .r [.call [(0, 0)] [.v (.c (.nil)), iT u9] [] (.t (.v (.rt 0))) [(0, .row 53 3 (List.map e_ListChange r12))]], .r [.eq 26 (iA (a0.length : Int))], .s (slices_Concat_api_ListChange_api_ListChange_F1 a0 0 r12) (slices_Concat_api_ListChange_api_ListChange_H1 a0 0 r12) [] (slices_Concat_api_ListChange_api_ListChange_B1 a0 u19), .r []] (an (leni_eq e_sl_ListChange a0) (an (slices_Concat_api_ListChange_api_ListChange_l0 a0 0 (.fin u9) h10) (an (an (slices_Grow_api_ListChange_api_ListChange_ok u9 r12 h13) (an (Eq.refl ([.v (.c (.nil)), iT u9] : List TV)) (Eq.refl (renH (asg [(0, 0)]) [])))) (an (leni_eq e_sl_ListChange a0) (slices_Concat_api_ListChange_api_ListChange_l1 a0 r12 (.fin u19) h20))))) (by kernel_rfl)
    · have h := Option.some.inj h
      subst h
      exact Spec.path XTok PGmix slices_Concat_api_ListChange_api_ListChange_fn 0 [.r [.nl 3], .r [], .r [.eq 10 (iA (a0.length : Int))], .s (slices_Concat_api_ListChange_api_ListChange_F0 a0 0 0) (slices_Concat_api_ListChange_api_ListChange_H0 a0 0 0) [] (slices_Concat_api_ListChange_api_ListChange_B0 a0 u9), .r [.call [(0, 0)] [.v (.c (.nil)), iT u9] [] (.t (.v (.rt 0))) [(0, .row 53 3 (List.map e_ListChange r12))]], .r [.eq 26 (iA (a0.length : Int))], .s (slices_Concat_api_ListChange_api_ListChange_F1 a0 0 r12) (slices_Concat_api_ListChange_api_ListChange_H1 a0 0 r12) [] (slices_Concat_api_ListChange_api_ListChange_R r21)] (an (leni_eq e_sl_ListChange a0) (an (slices_Concat_api_ListChange_api_ListChange_l0 a0 0 (.fin u9) h10) (an (an (slices_Grow_api_ListChange_api_ListChange_ok u9 r12 h13) (an (Eq.refl ([.v (.c (.nil)), iT u9] : List TV)) (Eq.refl (renH (asg [(0, 0)]) [])))) (an (leni_eq e_sl_ListChange a0) (slices_Concat_api_ListChange_api_ListChange_l1 a0 r12 (.ret r21) h20))))) (by kernel_rfl)
  · have h := Option.some.inj h
    subst h
    exact Spec.path XTok PGmix slices_Concat_api_ListChange_api_ListChange_fn 0 [.r [.nl 3], .r [], .r [.eq 10 (iA (a0.length : Int))], .s (slices_Concat_api_ListChange_api_ListChange_F0 a0 0 0) (slices_Concat_api_ListChange_api_ListChange_H0 a0 0 0) [] (slices_Concat_api_ListChange_api_ListChange_R r11)] (an (leni_eq e_sl_ListChange a0) (slices_Concat_api_ListChange_api_ListChange_l0 a0 0 (.ret r11) h10)) (by kernel_rfl)

noncomputable def ref_Changes_c : Code := (Go.Proofs.Tryd.f28.body).getD .skip
theorem ref_Changes_fn : FnOk PG 28 ref_Changes_c 130 [.tmp 6, .tmp 7] := ⟨⟨Go.Proofs.Tryd.f28, by kernel_rfl, by kernel_rfl, by kernel_rfl, by kernel_rfl, by kernel_rfl⟩⟩
noncomputable def ref_Changes_c0 : Code := cL (cL (cR (cL (cR (cR (cR (cR ref_Changes_c)))))))
noncomputable def ref_Changes_R (r : List ListChange × Int) : Oc := .ret [(6, lA 3 (List.map e_ListChange r.1)), (7, iA r.2)] []
noncomputable def ref_Changes_F0 (a0 : List PartType) (a1 : Netlist) (a2 : Netlist) (i7 : Nat) (y8 : List ListChange) : Fr := [(0, lA 2 (List.map e_PartType a0)), (4, .t (.v (.ptr 0 0))), (5, .t (.v (.ptr 1 0))), (10, .t (.v (.rt 2))), (11, .t (.v (.rt 3))), (12, .t (.v (.rt 4))), (13, .t (.v (.rt 5))), (35, lA 2 (List.map e_Part a2.Parts)), (36, iA (a2.Parts.length : Int)), (37, iA (i7 : Int))]
noncomputable def ref_Changes_H0 (a0 : List PartType) (a1 : Netlist) (a2 : Netlist) (i7 : Nat) (y8 : List ListChange) : Hp := [(0, .cells 26 [.c (.sl 2 (List.map e_Part a1.Parts)), .c (.sl 3 (List.map e_Net a1.Nets))]), (1, .cells 26 [.c (.sl 2 (List.map e_Part a2.Parts)), .c (.sl 3 (List.map e_Net a2.Nets))]), (2, .row 53 3 (List.map e_ListChange y8)), (3, .row 53 3 (List.map e_ListChange [])), (4, .row 53 3 (List.map e_ListChange [])), (5, .row 53 3 (List.map e_ListChange []))]
noncomputable def ref_Changes_B0 (a0 : List PartType) (a1 : Netlist) (a2 : Netlist) (s : List ListChange) : Oc := .ex 0 [(0, lA 2 (List.map e_PartType a0)), (4, .t (.v (.ptr 0 0))), (5, .t (.v (.ptr 1 0))), (10, .t (.v (.rt 2))), (11, .t (.v (.rt 3))), (12, .t (.v (.rt 4))), (13, .t (.v (.rt 5)))] [(0, .cells 26 [.c (.sl 2 (List.map e_Part a1.Parts)), .c (.sl 3 (List.map e_Net a1.Nets))]), (1, .cells 26 [.c (.sl 2 (List.map e_Part a2.Parts)), .c (.sl 3 (List.map e_Net a2.Nets))]), (2, .row 53 3 (List.map e_ListChange s)), (3, .row 53 3 (List.map e_ListChange [])), (4, .row 53 3 (List.map e_ListChange [])), (5, .row 53 3 (List.map e_ListChange []))]
noncomputable def ref_Changes_b0 (a0 : List PartType) (a1 : Netlist) (a2 : Netlist) (i7 : Nat) (y8 : List ListChange) : Option (Stp (List ListChange) (List ListChange × Int)) :=
 bnd (atI a2.Parts (i7 : Int)) fun x9 =>
 bnd (ref_partOf a1.Parts x9.Name) fun r11 =>
 bnd1 (cnd (decide (r11 < 0)) (grd (y8.length + ([(⟨1, x9.Name, (⟨#[]⟩ : ByteArray)⟩ : ListChange)]).length ≤ lim) <|
 some (y8 ++ ([(⟨1, x9.Name, (⟨#[]⟩ : ByteArray)⟩ : ListChange)]))) (some y8)) fun v13 =>
 some (.go v13)
theorem ref_Changes_b0_r (a0 : List PartType) (a1 : Netlist) (a2 : Netlist) (i7 : Nat) (y8 : List ListChange) (o : Stp (List ListChange) (List ListChange × Int)) (hi : i7 < a2.Parts.length) (h : ref_Changes_b0 a0 a1 a2 i7 y8 = some o) :
    Runs PG 130 0 ref_Changes_c0 (ref_Changes_F0 a0 a1 a2 i7 y8) (ref_Changes_H0 a0 a1 a2 i7 y8) (stpOc (fun s' => .nor (ref_Changes_F0 a0 a1 a2 (i7 + 1) s') (ref_Changes_H0 a0 a1 a2 (i7 + 1) s')) (ref_Changes_B0 a0 a1 a2) ref_Changes_R o) := by
  unfold ref_Changes_b0 at h
  refine Runs.len (s := 35) (sz := 2) (xs := List.map e_Part a2.Parts) (by kernel_rfl) fun hl => ?_
  have hM : a2.Parts.length ≤ lim := len_of hl
  obtain ⟨x9, h10, h⟩ := bnd_e h
  obtain ⟨r11, h12, h⟩ := bnd_e h
  obtain ⟨v13, h14, h⟩ := bnd1_e h
  let q18_f : Fr := [(0, lA 2 (List.map e_PartType a0)), (4, .t (.v (.ptr 0 0))), (5, .t (.v (.ptr 1 0))), (10, .t (.v (.rt 2))), (11, .t (.v (.rt 3))), (12, .t (.v (.rt 4))), (13, .t (.v (.rt 5))), (15, .t (.v (.ptr 6 0))), (35, lA 2 (List.map e_Part a2.Parts)), (36, iA (a2.Parts.length : Int)), (37, iA (i7 : Int)), (46, bA (decide (r11 < 0)))]
  let q18_g : Hp := [(0, .cells 26 [.c (.sl 2 (List.map e_Part a1.Parts)), .c (.sl 3 (List.map e_Net a1.Nets))]), (1, .cells 26 [.c (.sl 2 (List.map e_Part a2.Parts)), .c (.sl 3 (List.map e_Net a2.Nets))]), (2, .row 53 3 (List.map e_ListChange y8)), (3, .row 53 3 (List.map e_ListChange [])), (4, .row 53 3 (List.map e_ListChange [])), (5, .row 53 3 (List.map e_ListChange [])), (6, .cells 73 [.c (sC x9.Name), .c (sC x9.Type_)])]
  let q18_f' : Fr := [(0, lA 2 (List.map e_PartType a0)), (4, .t (.v (.ptr 0 0))), (5, .t (.v (.ptr 1 0))), (10, .t (.v (.rt 8))), (11, .t (.v (.rt 3))), (12, .t (.v (.rt 4))), (13, .t (.v (.rt 5))), (35, lA 2 (List.map e_Part a2.Parts)), (36, iA (a2.Parts.length : Int)), (37, iA (i7 : Int))]
  let q18_g' : Hp := [(0, .cells 26 [.c (.sl 2 (List.map e_Part a1.Parts)), .c (.sl 3 (List.map e_Net a1.Nets))]), (1, .cells 26 [.c (.sl 2 (List.map e_Part a2.Parts)), .c (.sl 3 (List.map e_Net a2.Nets))]), (3, .row 53 3 (List.map e_ListChange [])), (4, .row 53 3 (List.map e_ListChange [])), (5, .row 53 3 (List.map e_ListChange [])), (8, .row 53 3 (List.map e_ListChange v13))]
  have R15 : Runs PG 130 0 (cR (cR (cL (cL (cR (cR ref_Changes_c0)))))) q18_f q18_g (.nor q18_f' q18_g') := by
    rcases cnd_e h14 with ⟨h16, h14⟩ | ⟨h16, h14⟩
    · obtain ⟨h17, h14⟩ := grd_e h14
      have h14 := Option.some.inj h14
      subst h14
      exact Runs.path XTok PGmix [.b true, .r [.id 7, .row (List.map e_ListChange [(⟨1, x9.Name, (⟨#[]⟩ : ByteArray)⟩ : ListChange)]), .id 8, .row (List.map e_ListChange (y8 ++ ([(⟨1, x9.Name, (⟨#[]⟩ : ByteArray)⟩ : ListChange)])))]] [] (an h16 (an (Eq.refl (List.flatten (List.map e_ListChange [(⟨1, x9.Name, (⟨#[]⟩ : ByteArray)⟩ : ListChange)]))) (app_ok e_ListChange h17))) (by kernel_rfl)
    · have h14 := Option.some.inj h14
      subst h14
      exact Runs.path XTok PGmix [.b false] [(8, 2)] h16 (by kernel_rfl)
  have h := Option.some.inj h
  subst h
  exact Runs.path XTok PGmix [.r [], .b true, .r [.el (e_Part x9), .id 6], .r [.val (iA r11)], .s q18_f q18_g [] (.nor q18_f' q18_g'), .r [.eq 53 (iA ((i7 + 1 : Nat) : Int))]] [(2, 8)] (an (lt_true hi) (an (idx_ok e_Part h10) (an (ref_partOf_ok a1.Parts x9.Name r11 h12) (an R15 (wrap_eq hi hM))))) (by kernel_rfl)
theorem ref_Changes_b0_e (a0 : List PartType) (a1 : Netlist) (a2 : Netlist) (y8 : List ListChange) : Runs PG 130 0 ref_Changes_c0 (ref_Changes_F0 a0 a1 a2 (a2.Parts.length) y8) (ref_Changes_H0 a0 a1 a2 (a2.Parts.length) y8) (ref_Changes_B0 a0 a1 a2 y8) := by
  exact Runs.path XTok PGmix [.r [], .b false] [] (lt_false (a2.Parts.length)) (by kernel_rfl)
theorem ref_Changes_l0 (a0 : List PartType) (a1 : Netlist) (a2 : Netlist) (y8 : List ListChange) (r : Fin' (List ListChange) (List ListChange × Int)) (h : forN (fun i7 s => ref_Changes_b0 a0 a1 a2 i7 s) (a2.Parts.length) 0 y8 = some r) : Runs PG 130 0 (cL (cR (cL (cR (cR (cR (cR ref_Changes_c))))))) (ref_Changes_F0 a0 a1 a2 0 y8) (ref_Changes_H0 a0 a1 a2 0 y8) (finOc (ref_Changes_B0 a0 a1 a2) ref_Changes_R r) :=
  Runs.loop' (by kernel_rfl) (forN_rounds (σ := (List ListChange)) (ρ := (List ListChange × Int)) (body := fun i7 s => ref_Changes_b0 a0 a1 a2 i7 s) (F := fun i7 s => ref_Changes_F0 a0 a1 a2 i7 s) (H := fun i7 s => ref_Changes_H0 a0 a1 a2 i7 s) (B := ref_Changes_B0 a0 a1 a2) (R := ref_Changes_R) (M := a2.Parts.length) (fun _ => rfl) (fun _ => rfl) (fun s => ref_Changes_b0_e a0 a1 a2 s) (fun i s o hi h => ref_Changes_b0_r a0 a1 a2 i s o hi h) _ 0 _ r (Nat.zero_add _) h)
noncomputable def ref_Changes_c1 : Code := cL (cL (cR (cL (cR (cR (cR (cR (cR ref_Changes_c))))))))
noncomputable def ref_Changes_c2 : Code := cL (cL (cR (cR (cR (cR (cR (cL (cL (cR (cR ref_Changes_c1))))))))))
noncomputable def ref_Changes_F2 (a0 : List PartType) (a1 : Netlist) (a2 : Netlist) (u19 : List ListChange) (i22 : Nat) (y23 : List ListChange) (y24 : List ListChange) (x26 : Part) (x38 : PartType) (i40 : Nat) (y41 : List ListChange) : Fr := [(0, lA 2 (List.map e_PartType a0)), (4, .t (.v (.ptr 0 0))), (5, .t (.v (.ptr 1 0))), (10, .t (.v (.rt 2))), (11, .t (.v (.rt 3))), (12, .t (.v (.rt 4))), (13, .t (.v (.rt 5))), (17, .t (.v (.ptr 6 0))), (55, lA 2 (List.map e_Part a1.Parts)), (56, iA (a1.Parts.length : Int)), (57, iA (i22 : Int)), (96, lA 3 (List.map e_PinType x38.Pins)), (97, iA (x38.Pins.length : Int)), (98, iA (i40 : Int))]
noncomputable def ref_Changes_H2 (a0 : List PartType) (a1 : Netlist) (a2 : Netlist) (u19 : List ListChange) (i22 : Nat) (y23 : List ListChange) (y24 : List ListChange) (x26 : Part) (x38 : PartType) (i40 : Nat) (y41 : List ListChange) : Hp := [(0, .cells 26 [.c (.sl 2 (List.map e_Part a1.Parts)), .c (.sl 3 (List.map e_Net a1.Nets))]), (1, .cells 26 [.c (.sl 2 (List.map e_Part a2.Parts)), .c (.sl 3 (List.map e_Net a2.Nets))]), (2, .row 53 3 (List.map e_ListChange u19)), (3, .row 53 3 (List.map e_ListChange y23)), (4, .row 53 3 (List.map e_ListChange y24)), (5, .row 53 3 (List.map e_ListChange y41)), (6, .cells 73 [.c (sC x26.Name), .c (sC x26.Type_)])]
noncomputable def ref_Changes_B2 (a0 : List PartType) (a1 : Netlist) (a2 : Netlist) (u19 : List ListChange) (i22 : Nat) (y23 : List ListChange) (y24 : List ListChange) (x26 : Part) (x38 : PartType) (s : List ListChange) : Oc := .ex 4 [(0, lA 2 (List.map e_PartType a0)), (4, .t (.v (.ptr 0 0))), (5, .t (.v (.ptr 1 0))), (10, .t (.v (.rt 2))), (11, .t (.v (.rt 3))), (12, .t (.v (.rt 4))), (13, .t (.v (.rt 5))), (55, lA 2 (List.map e_Part a1.Parts)), (56, iA (a1.Parts.length : Int)), (57, iA (i22 : Int))] [(0, .cells 26 [.c (.sl 2 (List.map e_Part a1.Parts)), .c (.sl 3 (List.map e_Net a1.Nets))]), (1, .cells 26 [.c (.sl 2 (List.map e_Part a2.Parts)), .c (.sl 3 (List.map e_Net a2.Nets))]), (2, .row 53 3 (List.map e_ListChange u19)), (3, .row 53 3 (List.map e_ListChange y23)), (4, .row 53 3 (List.map e_ListChange y24)), (5, .row 53 3 (List.map e_ListChange s))]
noncomputable def ref_Changes_b2 (a0 : List PartType) (a1 : Netlist) (a2 : Netlist) (u19 : List ListChange) (i22 : Nat) (y23 : List ListChange) (y24 : List ListChange) (x26 : Part) (x38 : PartType) (i40 : Nat) (y41 : List ListChange) : Option (Stp (List ListChange) (List ListChange × Int)) :=
 bnd (atI x38.Pins (i40 : Int)) fun x42 =>
 bnd (ref_netName a1 (⟨x26.Name, x42.Name⟩ : Pin)) fun r44 =>
 bnd (ref_netName a2 (⟨x26.Name, x42.Name⟩ : Pin)) fun r46 =>
 bnd1 (cnd (sNe r44 r46) (grd (y41.length + [(⟨4, x26.Name, x42.Name⟩ : ListChange)].length ≤ lim) <|
 some (y41 ++ [(⟨4, x26.Name, x42.Name⟩ : ListChange)])) (some y41)) fun v48 =>
 some (.go v48)
theorem ref_Changes_b2_r (a0 : List PartType) (a1 : Netlist) (a2 : Netlist) (u19 : List ListChange) (i22 : Nat) (y23 : List ListChange) (y24 : List ListChange) (x26 : Part) (x38 : PartType) (i40 : Nat) (y41 : List ListChange) (o : Stp (List ListChange) (List ListChange × Int)) (hi : i40 < x38.Pins.length) (h : ref_Changes_b2 a0 a1 a2 u19 i22 y23 y24 x26 x38 i40 y41 = some o) :
    Runs PG 130 0 ref_Changes_c2 (ref_Changes_F2 a0 a1 a2 u19 i22 y23 y24 x26 x38 i40 y41) (ref_Changes_H2 a0 a1 a2 u19 i22 y23 y24 x26 x38 i40 y41) (stpOc (fun s' => .nor (ref_Changes_F2 a0 a1 a2 u19 i22 y23 y24 x26 x38 (i40 + 1) s') (ref_Changes_H2 a0 a1 a2 u19 i22 y23 y24 x26 x38 (i40 + 1) s')) (ref_Changes_B2 a0 a1 a2 u19 i22 y23 y24 x26 x38) ref_Changes_R o) := by
  unfold ref_Changes_b2 at h
  refine Runs.len (s := 96) (sz := 3) (xs := List.map e_PinType x38.Pins) (by kernel_rfl) fun hl => ?_
  have hM : x38.Pins.length ≤ lim := len_of hl
  obtain ⟨x42, h43, h⟩ := bnd_e h
  obtain ⟨r44, h45, h⟩ := bnd_e h
  obtain ⟨r46, h47, h⟩ := bnd_e h
  obtain ⟨v48, h49, h⟩ := bnd1_e h
  let q53_f : Fr := [(0, lA 2 (List.map e_PartType a0)), (4, .t (.v (.ptr 0 0))), (5, .t (.v (.ptr 1 0))), (10, .t (.v (.rt 2))), (11, .t (.v (.rt 3))), (12, .t (.v (.rt 4))), (13, .t (.v (.rt 5))), (17, .t (.v (.ptr 6 0))), (20, .t (.v (.ptr 7 0))), (55, lA 2 (List.map e_Part a1.Parts)), (56, iA (a1.Parts.length : Int)), (57, iA (i22 : Int)), (96, lA 3 (List.map e_PinType x38.Pins)), (97, iA (x38.Pins.length : Int)), (98, iA (i40 : Int)), (113, bA (sNe r44 r46))]
  let q53_g : Hp := [(0, .cells 26 [.c (.sl 2 (List.map e_Part a1.Parts)), .c (.sl 3 (List.map e_Net a1.Nets))]), (1, .cells 26 [.c (.sl 2 (List.map e_Part a2.Parts)), .c (.sl 3 (List.map e_Net a2.Nets))]), (2, .row 53 3 (List.map e_ListChange u19)), (3, .row 53 3 (List.map e_ListChange y23)), (4, .row 53 3 (List.map e_ListChange y24)), (5, .row 53 3 (List.map e_ListChange y41)), (6, .cells 73 [.c (sC x26.Name), .c (sC x26.Type_)]), (7, .cells 90 [.c (sC x42.Name), .c (iC x42.Kind), .c (iC x42.Group)])]
  let q53_f' : Fr := [(0, lA 2 (List.map e_PartType a0)), (4, .t (.v (.ptr 0 0))), (5, .t (.v (.ptr 1 0))), (10, .t (.v (.rt 2))), (11, .t (.v (.rt 3))), (12, .t (.v (.rt 4))), (13, .t (.v (.rt 9))), (17, .t (.v (.ptr 6 0))), (55, lA 2 (List.map e_Part a1.Parts)), (56, iA (a1.Parts.length : Int)), (57, iA (i22 : Int)), (96, lA 3 (List.map e_PinType x38.Pins)), (97, iA (x38.Pins.length : Int)), (98, iA (i40 : Int))]
  let q53_g' : Hp := [(0, .cells 26 [.c (.sl 2 (List.map e_Part a1.Parts)), .c (.sl 3 (List.map e_Net a1.Nets))]), (1, .cells 26 [.c (.sl 2 (List.map e_Part a2.Parts)), .c (.sl 3 (List.map e_Net a2.Nets))]), (2, .row 53 3 (List.map e_ListChange u19)), (3, .row 53 3 (List.map e_ListChange y23)), (4, .row 53 3 (List.map e_ListChange y24)), (6, .cells 73 [.c (sC x26.Name), .c (sC x26.Type_)]), (9, .row 53 3 (List.map e_ListChange v48))]
  have R50 : Runs PG 130 0 (cR (cR (cR (cL (cL (cR (cR ref_Changes_c2))))))) q53_f q53_g (.nor q53_f' q53_g') := by
    rcases cnd_e h49 with ⟨h51, h49⟩ | ⟨h51, h49⟩
    · obtain ⟨h52, h49⟩ := grd_e h49
      have h49 := Option.some.inj h49
      subst h49
      exact Runs.path XTok PGmix [.b true, .r [.id 8, .row (List.map e_ListChange [(⟨4, x26.Name, x42.Name⟩ : ListChange)]), .id 9, .row (List.map e_ListChange (y41 ++ [(⟨4, x26.Name, x42.Name⟩ : ListChange)]))]] [] (an h51 (an (Eq.refl (List.flatten (List.map e_ListChange [(⟨4, x26.Name, x42.Name⟩ : ListChange)]))) (app_ok e_ListChange h52))) (by kernel_rfl)
    · have h49 := Option.some.inj h49
      subst h49
      exact Runs.path XTok PGmix [.b false] [(9, 5)] h51 (by kernel_rfl)
  have h := Option.some.inj h
  subst h
  exact Runs.path XTok PGmix [.r [], .b true, .r [.el (e_PinType x42), .id 7], .r [.id 8], .d [([0], []), ([8], []), ([], [.val (sA r44)]), ([1], []), ([8], []), ([], [.val (sA r46)]), ([], [])], .s q53_f q53_g [] (.nor q53_f' q53_g'), .r [.eq 122 (iA ((i40 + 1 : Nat) : Int))]] [(5, 9)] (an (lt_true hi) (an (idx_ok e_PinType h43) (an (ref_netName_ok a1 (⟨x26.Name, x42.Name⟩ : Pin) r44 h45) (an (ref_netName_ok a2 (⟨x26.Name, x42.Name⟩ : Pin) r46 h47) (an R50 (wrap_eq hi hM)))))) (by kernel_rfl)
theorem ref_Changes_b2_e (a0 : List PartType) (a1 : Netlist) (a2 : Netlist) (u19 : List ListChange) (i22 : Nat) (y23 : List ListChange) (y24 : List ListChange) (x26 : Part) (x38 : PartType) (y41 : List ListChange) : Runs PG 130 0 ref_Changes_c2 (ref_Changes_F2 a0 a1 a2 u19 i22 y23 y24 x26 x38 (x38.Pins.length) y41) (ref_Changes_H2 a0 a1 a2 u19 i22 y23 y24 x26 x38 (x38.Pins.length) y41) (ref_Changes_B2 a0 a1 a2 u19 i22 y23 y24 x26 x38 y41) := by
  exact Runs.path XTok PGmix [.r [], .b false] [] (lt_false (x38.Pins.length)) (by kernel_rfl)
theorem ref_Changes_l2 (a0 : List PartType) (a1 : Netlist) (a2 : Netlist) (u19 : List ListChange) (i22 : Nat) (y23 : List ListChange) (y24 : List ListChange) (x26 : Part) (x38 : PartType) (y41 : List ListChange) (r : Fin' (List ListChange) (List ListChange × Int)) (h : forN (fun i40 s => ref_Changes_b2 a0 a1 a2 u19 i22 y23 y24 x26 x38 i40 s) (x38.Pins.length) 0 y41 = some r) : Runs PG 130 0 (cL (cR (cR (cR (cR (cR (cL (cL (cR (cR ref_Changes_c1)))))))))) (ref_Changes_F2 a0 a1 a2 u19 i22 y23 y24 x26 x38 0 y41) (ref_Changes_H2 a0 a1 a2 u19 i22 y23 y24 x26 x38 0 y41) (finOc (ref_Changes_B2 a0 a1 a2 u19 i22 y23 y24 x26 x38) ref_Changes_R r) :=
  Runs.loop' (by kernel_rfl) (forN_rounds (σ := (List ListChange)) (ρ := (List ListChange × Int)) (body := fun i40 s => ref_Changes_b2 a0 a1 a2 u19 i22 y23 y24 x26 x38 i40 s) (F := fun i40 s => ref_Changes_F2 a0 a1 a2 u19 i22 y23 y24 x26 x38 i40 s) (H := fun i40 s => ref_Changes_H2 a0 a1 a2 u19 i22 y23 y24 x26 x38 i40 s) (B := ref_Changes_B2 a0 a1 a2 u19 i22 y23 y24 x26 x38) (R := ref_Changes_R) (M := x38.Pins.length) (fun _ => rfl) (fun _ => rfl) (fun s => ref_Changes_b2_e a0 a1 a2 u19 i22 y23 y24 x26 x38 s) (fun i s o hi h => ref_Changes_b2_r a0 a1 a2 u19 i22 y23 y24 x26 x38 i s o hi h) _ 0 _ r (Nat.zero_add _) h)
noncomputable def ref_Changes_F1 (a0 : List PartType) (a1 : Netlist) (a2 : Netlist) (u19 : List ListChange) (i22 : Nat) (y23 : List ListChange) (y24 : List ListChange) (y25 : List ListChange) : Fr := [(0, lA 2 (List.map e_PartType a0)), (4, .t (.v (.ptr 0 0))), (5, .t (.v (.ptr 1 0))), (10, .t (.v (.rt 2))), (11, .t (.v (.rt 3))), (12, .t (.v (.rt 4))), (13, .t (.v (.rt 5))), (55, lA 2 (List.map e_Part a1.Parts)), (56, iA (a1.Parts.length : Int)), (57, iA (i22 : Int))]
noncomputable def ref_Changes_H1 (a0 : List PartType) (a1 : Netlist) (a2 : Netlist) (u19 : List ListChange) (i22 : Nat) (y23 : List ListChange) (y24 : List ListChange) (y25 : List ListChange) : Hp := [(0, .cells 26 [.c (.sl 2 (List.map e_Part a1.Parts)), .c (.sl 3 (List.map e_Net a1.Nets))]), (1, .cells 26 [.c (.sl 2 (List.map e_Part a2.Parts)), .c (.sl 3 (List.map e_Net a2.Nets))]), (2, .row 53 3 (List.map e_ListChange u19)), (3, .row 53 3 (List.map e_ListChange y23)), (4, .row 53 3 (List.map e_ListChange y24)), (5, .row 53 3 (List.map e_ListChange y25))]
noncomputable def ref_Changes_B1 (a0 : List PartType) (a1 : Netlist) (a2 : Netlist) (u19 : List ListChange) (s : List ListChange × List ListChange × List ListChange) : Oc := .ex 2 [(10, .t (.v (.rt 2))), (11, .t (.v (.rt 3))), (12, .t (.v (.rt 4))), (13, .t (.v (.rt 5)))] [(2, .row 53 3 (List.map e_ListChange u19)), (3, .row 53 3 (List.map e_ListChange s.1)), (4, .row 53 3 (List.map e_ListChange s.2.1)), (5, .row 53 3 (List.map e_ListChange s.2.2))]
noncomputable def ref_Changes_b1 (a0 : List PartType) (a1 : Netlist) (a2 : Netlist) (u19 : List ListChange) (i22 : Nat) (y23 : List ListChange) (y24 : List ListChange) (y25 : List ListChange) : Option (Stp (List ListChange × List ListChange × List ListChange) (List ListChange × Int)) :=
 bnd (atI a1.Parts (i22 : Int)) fun x26 =>
 bnd (ref_partOf a2.Parts x26.Name) fun r28 =>
 cnd (decide (r28 < 0)) (grd (y23.length + ([(⟨2, x26.Name, (⟨#[]⟩ : ByteArray)⟩ : ListChange)]).length ≤ lim) <|
 some (.go (y23 ++ ([(⟨2, x26.Name, (⟨#[]⟩ : ByteArray)⟩ : ListChange)]), y24, y25))) (bnd (atI a2.Parts r28) fun x32 =>
 cnd (sNe x32.Type_ x26.Type_) (grd (y24.length + ([(⟨3, x26.Name, (⟨#[]⟩ : ByteArray)⟩ : ListChange)]).length ≤ lim) <|
 some (.go (y23, y24 ++ ([(⟨3, x26.Name, (⟨#[]⟩ : ByteArray)⟩ : ListChange)]), y25))) (bnd (ref_typeOf a0 x26.Type_) fun r36 =>
 bnd (atI a0 r36) fun x38 =>
 aft1 (forN (fun i40 s => ref_Changes_b2 a0 a1 a2 u19 i22 y23 y24 x26 x38 i40 s) (x38.Pins.length) 0 y25) (fun u54 =>
 some (.go (y23, y24, u54)))
 (fun r56 =>
 some (.ret r56))))
theorem ref_Changes_b1_r (a0 : List PartType) (a1 : Netlist) (a2 : Netlist) (u19 : List ListChange) (i22 : Nat) (y23 : List ListChange) (y24 : List ListChange) (y25 : List ListChange) (o : Stp (List ListChange × List ListChange × List ListChange) (List ListChange × Int)) (hi : i22 < a1.Parts.length) (h : ref_Changes_b1 a0 a1 a2 u19 i22 y23 y24 y25 = some o) :
    Runs PG 130 0 ref_Changes_c1 (ref_Changes_F1 a0 a1 a2 u19 i22 y23 y24 y25) (ref_Changes_H1 a0 a1 a2 u19 i22 y23 y24 y25) (stpOc (fun s' => .nor (ref_Changes_F1 a0 a1 a2 u19 (i22 + 1) s'.1 s'.2.1 s'.2.2) (ref_Changes_H1 a0 a1 a2 u19 (i22 + 1) s'.1 s'.2.1 s'.2.2)) (ref_Changes_B1 a0 a1 a2 u19) ref_Changes_R o) := by
  unfold ref_Changes_b1 at h
  refine Runs.len (s := 55) (sz := 2) (xs := List.map e_Part a1.Parts) (by kernel_rfl) fun hl => ?_
  have hM : a1.Parts.length ≤ lim := len_of hl
  obtain ⟨x26, h27, h⟩ := bnd_e h
  obtain ⟨r28, h29, h⟩ := bnd_e h
  rcases cnd_e h with ⟨h30, h⟩ | ⟨h30, h⟩
  · obtain ⟨h31, h⟩ := grd_e h
    have h := Option.some.inj h
    subst h
    exact Runs.path XTok PGmix [.r [], .b true, .r [.el (e_Part x26), .id 6], .r [.val (iA r28)], .r [], .b true, .r [.id 7, .row (List.map e_ListChange [(⟨2, x26.Name, (⟨#[]⟩ : ByteArray)⟩ : ListChange)]), .id 8, .row (List.map e_ListChange (y23 ++ ([(⟨2, x26.Name, (⟨#[]⟩ : ByteArray)⟩ : ListChange)])))], .r [.eq 123 (iA ((i22 + 1 : Nat) : Int))]] [(3, 8)] (an (lt_true hi) (an (idx_ok e_Part h27) (an (ref_partOf_ok a2.Parts x26.Name r28 h29) (an h30 (an (Eq.refl (List.flatten (List.map e_ListChange [(⟨2, x26.Name, (⟨#[]⟩ : ByteArray)⟩ : ListChange)]))) (an (app_ok e_ListChange h31) (wrap_eq hi hM))))))) (by kernel_rfl)
  · obtain ⟨x32, h33, h⟩ := bnd_e h
    rcases cnd_e h with ⟨h34, h⟩ | ⟨h34, h⟩
    · obtain ⟨h35, h⟩ := grd_e h
      have h := Option.some.inj h
      subst h
      exact Runs.path XTok PGmix [.r [], .b true, .r [.el (e_Part x26), .id 6], .r [.val (iA r28)], .r [], .b false, .d [([], []), ([1], []), ([], []), ([], [.el (e_Part x32)]), ([], []), ([], []), ([], []), ([6], []), ([], [])], .b true, .r [.id 7, .row (List.map e_ListChange [(⟨3, x26.Name, (⟨#[]⟩ : ByteArray)⟩ : ListChange)]), .id 8, .row (List.map e_ListChange (y24 ++ ([(⟨3, x26.Name, (⟨#[]⟩ : ByteArray)⟩ : ListChange)])))], .r [.eq 123 (iA ((i22 + 1 : Nat) : Int))]] [(4, 8)] (an (lt_true hi) (an (idx_ok e_Part h27) (an (ref_partOf_ok a2.Parts x26.Name r28 h29) (an h30 (an (idx_ok e_Part h33) (an h34 (an (Eq.refl (List.flatten (List.map e_ListChange [(⟨3, x26.Name, (⟨#[]⟩ : ByteArray)⟩ : ListChange)]))) (an (app_ok e_ListChange h35) (wrap_eq hi hM))))))))) (by kernel_rfl)
    · obtain ⟨r36, h37, h⟩ := bnd_e h
      obtain ⟨x38, h39, h⟩ := bnd_e h
      rcases aft1_e h with ⟨u54, h55, h⟩ | ⟨r56, h55, h⟩
      · have h := Option.some.inj h
        subst h
        exact Runs.path XTok PGmix [.r [], .b true, .r [.el (e_Part x26), .id 6], .r [.val (iA r28)], .r [], .b false, .d [([], []), ([1], []), ([], []), ([], [.el (e_Part x32)]), ([], []), ([], []), ([], []), ([6], []), ([], [])], .b false, .r [.val (iA r36), .el (e_PartType x38), .eq 97 (iA (x38.Pins.length : Int))], .s (ref_Changes_F2 a0 a1 a2 u19 i22 y23 y24 x26 x38 0 y25) (ref_Changes_H2 a0 a1 a2 u19 i22 y23 y24 x26 x38 0 y25) [] (ref_Changes_B2 a0 a1 a2 u19 i22 y23 y24 x26 x38 u54), .r [.eq 123 (iA ((i22 + 1 : Nat) : Int))]] [] (an (lt_true hi) (an (idx_ok e_Part h27) (an (ref_partOf_ok a2.Parts x26.Name r28 h29) (an h30 (an (idx_ok e_Part h33) (an h34 (an (ref_typeOf_ok a0 x26.Type_ r36 h37) (an (idx_ok e_PartType h39) (an (leni_eq e_PinType x38.Pins) (an (ref_Changes_l2 a0 a1 a2 u19 i22 y23 y24 x26 x38 y25 (.fin u54) h55) (wrap_eq hi hM))))))))))) (by kernel_rfl)
      · have h := Option.some.inj h
        subst h
        exact Runs.path XTok PGmix [.r [], .b true, .r [.el (e_Part x26), .id 6], .r [.val (iA r28)], .r [], .b false, .d [([], []), ([1], []), ([], []), ([], [.el (e_Part x32)]), ([], []), ([], []), ([], []), ([6], []), ([], [])], .b false, .r [.val (iA r36), .el (e_PartType x38), .eq 97 (iA (x38.Pins.length : Int))], .s (ref_Changes_F2 a0 a1 a2 u19 i22 y23 y24 x26 x38 0 y25) (ref_Changes_H2 a0 a1 a2 u19 i22 y23 y24 x26 x38 0 y25) [] (ref_Changes_R r56)] [] (an (lt_true hi) (an (idx_ok e_Part h27) (an (ref_partOf_ok a2.Parts x26.Name r28 h29) (an h30 (an (idx_ok e_Part h33) (an h34 (an (ref_typeOf_ok a0 x26.Type_ r36 h37) (an (idx_ok e_PartType h39) (an (leni_eq e_PinType x38.Pins) (ref_Changes_l2 a0 a1 a2 u19 i22 y23 y24 x26 x38 y25 (.ret r56) h55)))))))))) (by kernel_rfl)
theorem ref_Changes_b1_e (a0 : List PartType) (a1 : Netlist) (a2 : Netlist) (u19 : List ListChange) (y23 : List ListChange) (y24 : List ListChange) (y25 : List ListChange) : Runs PG 130 0 ref_Changes_c1 (ref_Changes_F1 a0 a1 a2 u19 (a1.Parts.length) y23 y24 y25) (ref_Changes_H1 a0 a1 a2 u19 (a1.Parts.length) y23 y24 y25) (ref_Changes_B1 a0 a1 a2 u19 (y23, y24, y25)) := by
  exact Runs.path XTok PGmix [.r [], .b false] [] (lt_false (a1.Parts.length)) (by kernel_rfl)
theorem ref_Changes_l1 (a0 : List PartType) (a1 : Netlist) (a2 : Netlist) (u19 : List ListChange) (y23 : List ListChange) (y24 : List ListChange) (y25 : List ListChange) (r : Fin' (List ListChange × List ListChange × List ListChange) (List ListChange × Int)) (h : forN (fun i22 s => ref_Changes_b1 a0 a1 a2 u19 i22 s.1 s.2.1 s.2.2) (a1.Parts.length) 0 (y23, y24, y25) = some r) : Runs PG 130 0 (cL (cR (cL (cR (cR (cR (cR (cR ref_Changes_c)))))))) (ref_Changes_F1 a0 a1 a2 u19 0 y23 y24 y25) (ref_Changes_H1 a0 a1 a2 u19 0 y23 y24 y25) (finOc (ref_Changes_B1 a0 a1 a2 u19) ref_Changes_R r) :=
  Runs.loop' (by kernel_rfl) (forN_rounds (σ := (List ListChange × List ListChange × List ListChange)) (ρ := (List ListChange × Int)) (body := fun i22 s => ref_Changes_b1 a0 a1 a2 u19 i22 s.1 s.2.1 s.2.2) (F := fun i22 s => ref_Changes_F1 a0 a1 a2 u19 i22 s.1 s.2.1 s.2.2) (H := fun i22 s => ref_Changes_H1 a0 a1 a2 u19 i22 s.1 s.2.1 s.2.2) (B := ref_Changes_B1 a0 a1 a2 u19) (R := ref_Changes_R) (M := a1.Parts.length) (fun _ => rfl) (fun _ => rfl) (fun s => ref_Changes_b1_e a0 a1 a2 u19 s.1 s.2.1 s.2.2) (fun i s o hi h => ref_Changes_b1_r a0 a1 a2 u19 i s.1 s.2.1 s.2.2 o hi h) _ 0 _ r (Nat.zero_add _) h)
noncomputable def ref_Changes (a0 : List PartType) (a1 : Netlist) (a2 : Netlist) : Option (List ListChange × Int) :=
 bnd (ref_CheckList a0 a1) fun r1 =>
 cnd (r1 != 0) (some ([], r1)) (bnd (ref_checkList a0 a2) fun r4 =>
 cnd (r4 != 0) (some ([], r4)) (aft1 (forN (fun i7 s => ref_Changes_b0 a0 a1 a2 i7 s) (a2.Parts.length) 0 []) (fun u19 =>
 aft3 (forN (fun i22 s => ref_Changes_b1 a0 a1 a2 u19 i22 s.1 s.2.1 s.2.2) (a1.Parts.length) 0 ([], [], [])) (fun u57 u58 u59 =>
 bnd (slices_Concat_api_ListChange_api_ListChange [u19, u57, u58, u59]) fun r62 =>
 some (r62, 0))
 (fun r61 =>
 some r61))
 (fun r21 =>
 some r21)))
theorem ref_Changes_ok (a0 : List PartType) (a1 : Netlist) (a2 : Netlist) (r : List ListChange × Int) (h : ref_Changes a0 a1 a2 = some r) : Spec PG 28 [lT 2 (List.map e_PartType a0), gT (e_Netlist a1), gT (e_Netlist a2)] [] (.tup [lT 3 (List.map e_ListChange r.1), iT r.2]) [] := by
  unfold ref_Changes at h
  obtain ⟨r1, h2, h⟩ := bnd_e h
  rcases cnd_e h with ⟨h3, h⟩ | ⟨h3, h⟩
  · have h := Option.some.inj h
    subst h
    exact Spec.path XTok PGmix ref_Changes_fn 0 [.r [.id 0, .id 1, .nl 3], .r [.val (iA r1)], .r [], .b true, .r [.nl 3]] (an (ref_CheckList_ok a0 a1 r1 h2) h3) (by kernel_rfl)
  · obtain ⟨r4, h5, h⟩ := bnd_e h
    rcases cnd_e h with ⟨h6, h⟩ | ⟨h6, h⟩
    · have h := Option.some.inj h
      subst h
      exact Spec.path XTok PGmix ref_Changes_fn 0 [.r [.id 0, .id 1, .nl 3], .r [.val (iA r1)], .r [], .b false, .r [.val (iA r4)], .r [], .b true, .r [.nl 3]] (an (ref_CheckList_ok a0 a1 r1 h2) (an h3 (an (ref_checkList_ok a0 a2 r4 h5) h6))) (by kernel_rfl)
    · rcases aft1_e h with ⟨u19, h20, h⟩ | ⟨r21, h20, h⟩
      · rcases aft3_e h with ⟨u57, u58, u59, h60, h⟩ | ⟨r61, h60, h⟩
        · obtain ⟨r62, h63, h⟩ := bnd_e h
          have h := Option.some.inj h
          subst h
          exact Spec.path XTok PGmix ref_Changes_fn 0 [.r [.id 0, .id 1, .nl 3], .r [.val (iA r1)], .r [], .b false, .r [.val (iA r4)], .r [], .b false, .r [.mk 2 53 3, .mk 3 53 3, .mk 4 53 3, .mk 5 53 3], .r [.eq 36 (iA (a2.Parts.length : Int))], .s (ref_Changes_F0 a0 a1 a2 0 []) (ref_Changes_H0 a0 a1 a2 0 []) [] (ref_Changes_B0 a0 a1 a2 u19), .r [.eq 56 (iA (a1.Parts.length : Int))], .s (ref_Changes_F1 a0 a1 a2 u19 0 [] [] []) (ref_Changes_H1 a0 a1 a2 u19 0 [] [] []) [] (ref_Changes_B1 a0 a1 a2 u19 (u57, u58, u59)), .r [.fz 2, .fz 3, .fz 4, .fz 5, .id 0, .row (List.map e_sl_ListChange [u19, u57, u58, u59]), .fz 0, .call [(0, 0)] [lT 1 (List.map e_sl_ListChange [u19, u57, u58, u59])] [] (.t (.v (.rt 0))) [(0, .row 53 3 (List.map e_ListChange r62))]], .f 0] (an (ref_CheckList_ok a0 a1 r1 h2) (an h3 (an (ref_checkList_ok a0 a2 r4 h5) (an h6 (an (leni_eq e_Part a2.Parts) (an (ref_Changes_l0 a0 a1 a2 [] (.fin u19) h20) (an (leni_eq e_Part a1.Parts) (an (ref_Changes_l1 a0 a1 a2 u19 [] [] [] (.fin (u57, u58, u59)) h60) (an (Eq.refl (List.flatten (List.map e_sl_ListChange [u19, u57, u58, u59]))) (an (slices_Concat_api_ListChange_api_ListChange_ok [u19, u57, u58, u59] r62 h63) (an (Eq.refl ([lT 1 (List.map e_sl_ListChange [u19, u57, u58, u59])] : List TV)) (Eq.refl (renH (asg [(0, 0)]) []))))))))))))) (by kernel_rfl)
        · have h := Option.some.inj h
          subst h
          exact Spec.path XTok PGmix ref_Changes_fn 0 [.r [.id 0, .id 1, .nl 3], .r [.val (iA r1)], .r [], .b false, .r [.val (iA r4)], .r [], .b false, .r [.mk 2 53 3, .mk 3 53 3, .mk 4 53 3, .mk 5 53 3], .r [.eq 36 (iA (a2.Parts.length : Int))], .s (ref_Changes_F0 a0 a1 a2 0 []) (ref_Changes_H0 a0 a1 a2 0 []) [] (ref_Changes_B0 a0 a1 a2 u19), .r [.eq 56 (iA (a1.Parts.length : Int))], .s (ref_Changes_F1 a0 a1 a2 u19 0 [] [] []) (ref_Changes_H1 a0 a1 a2 u19 0 [] [] []) [] (ref_Changes_R r61)] (an (ref_CheckList_ok a0 a1 r1 h2) (an h3 (an (ref_checkList_ok a0 a2 r4 h5) (an h6 (an (leni_eq e_Part a2.Parts) (an (ref_Changes_l0 a0 a1 a2 [] (.fin u19) h20) (an (leni_eq e_Part a1.Parts) (ref_Changes_l1 a0 a1 a2 u19 [] [] [] (.ret r61) h60)))))))) (by kernel_rfl)
      · have h := Option.some.inj h
        subst h
        exact Spec.path XTok PGmix ref_Changes_fn 0 [.r [.id 0, .id 1, .nl 3], .r [.val (iA r1)], .r [], .b false, .r [.val (iA r4)], .r [], .b false, .r [.mk 2 53 3, .mk 3 53 3, .mk 4 53 3, .mk 5 53 3], .r [.eq 36 (iA (a2.Parts.length : Int))], .s (ref_Changes_F0 a0 a1 a2 0 []) (ref_Changes_H0 a0 a1 a2 0 []) [] (ref_Changes_R r21)] (an (ref_CheckList_ok a0 a1 r1 h2) (an h3 (an (ref_checkList_ok a0 a2 r4 h5) (an h6 (an (leni_eq e_Part a2.Parts) (ref_Changes_l0 a0 a1 a2 [] (.ret r21) h20)))))) (by kernel_rfl)

noncomputable def slices_Equal_api_ListChange_api_ListChange_c : Code := (Go.Proofs.Tryd.f29.body).getD .skip
theorem slices_Equal_api_ListChange_api_ListChange_fn : FnOk PG 29 slices_Equal_api_ListChange_api_ListChange_c 26 [.tmp 4] := ⟨⟨Go.Proofs.Tryd.f29, by kernel_rfl, by kernel_rfl, by kernel_rfl, by kernel_rfl, by kernel_rfl⟩⟩
noncomputable def slices_Equal_api_ListChange_api_ListChange_c0 : Code := cL (cL (cR (cL (cR (cR slices_Equal_api_ListChange_api_ListChange_c)))))
noncomputable def slices_Equal_api_ListChange_api_ListChange_R (r : Bool) : Oc := .ret [(4, bA r)] []
noncomputable def slices_Equal_api_ListChange_api_ListChange_F0 (a0 : List ListChange) (a1 : List ListChange) (i2 : Nat) : Fr := [(0, lA 3 (List.map e_ListChange a0)), (1, lA 3 (List.map e_ListChange a1)), (11, lA 3 (List.map e_ListChange a0)), (12, iA (a0.length : Int)), (13, iA (i2 : Int))]
noncomputable def slices_Equal_api_ListChange_api_ListChange_H0 (a0 : List ListChange) (a1 : List ListChange) (i2 : Nat) : Hp := []
noncomputable def slices_Equal_api_ListChange_api_ListChange_B0 (a0 : List ListChange) (a1 : List ListChange) (s : Unit) : Oc := .ex 0 [] []
noncomputable def slices_Equal_api_ListChange_api_ListChange_b0 (a0 : List ListChange) (a1 : List ListChange) (i2 : Nat) : Option (Stp Unit Bool) :=
 bnd (atI a0 (i2 : Int)) fun x3 =>
 bnd (atI a1 (i2 : Int)) fun x5 =>
 cnd (!((x3.Kind == x5.Kind) && (sEq x3.Name x5.Name && (sEq x3.Pin x5.Pin && true)))) (some (.ret false)) (some (.go ()))
theorem slices_Equal_api_ListChange_api_ListChange_b0_r (a0 : List ListChange) (a1 : List ListChange) (i2 : Nat) (o : Stp Unit Bool) (hi : i2 < a0.length) (h : slices_Equal_api_ListChange_api_ListChange_b0 a0 a1 i2 = some o) :
    Runs PG 26 0 slices_Equal_api_ListChange_api_ListChange_c0 (slices_Equal_api_ListChange_api_ListChange_F0 a0 a1 i2 ) (slices_Equal_api_ListChange_api_ListChange_H0 a0 a1 i2 ) (stpOc (fun s' => .nor (slices_Equal_api_ListChange_api_ListChange_F0 a0 a1 (i2 + 1) ) (slices_Equal_api_ListChange_api_ListChange_H0 a0 a1 (i2 + 1) )) (slices_Equal_api_ListChange_api_ListChange_B0 a0 a1) slices_Equal_api_ListChange_api_ListChange_R o) := by
  unfold slices_Equal_api_ListChange_api_ListChange_b0 at h
  refine Runs.len (s := 11) (sz := 3) (xs := List.map e_ListChange a0) (by kernel_rfl) fun hl => ?_
  have hM : a0.length ≤ lim := len_of hl
  obtain ⟨x3, h4, h⟩ := bnd_e h
  obtain ⟨x5, h6, h⟩ := bnd_e h
  rcases cnd_e h with ⟨h7, h⟩ | ⟨h7, h⟩
  · have h := Option.some.inj h
    subst h
    exact Runs.path XTok PGmix [.r [], .b true, .r [], .d [([], []), ([], []), ([], [.el (e_ListChange x3)]), ([], []), ([], []), ([], []), ([], [.el (e_ListChange x5)]), ([], []), ([], [])], .b true, .r []] [] (an (lt_true hi) (an (idx_ok e_ListChange h4) (an (idx_ok e_ListChange h6) h7))) (by kernel_rfl)
  · have h := Option.some.inj h
    subst h
    exact Runs.path XTok PGmix [.r [], .b true, .r [], .d [([], []), ([], []), ([], [.el (e_ListChange x3)]), ([], []), ([], []), ([], []), ([], [.el (e_ListChange x5)]), ([], []), ([], [])], .b false, .r [.eq 25 (iA ((i2 + 1 : Nat) : Int))]] [] (an (lt_true hi) (an (idx_ok e_ListChange h4) (an (idx_ok e_ListChange h6) (an h7 (wrap_eq hi hM))))) (by kernel_rfl)
theorem slices_Equal_api_ListChange_api_ListChange_b0_e (a0 : List ListChange) (a1 : List ListChange) : Runs PG 26 0 slices_Equal_api_ListChange_api_ListChange_c0 (slices_Equal_api_ListChange_api_ListChange_F0 a0 a1 (a0.length) ) (slices_Equal_api_ListChange_api_ListChange_H0 a0 a1 (a0.length) ) (slices_Equal_api_ListChange_api_ListChange_B0 a0 a1 ()) := by
  exact Runs.path XTok PGmix [.r [], .b false] [] (lt_false (a0.length)) (by kernel_rfl)
theorem slices_Equal_api_ListChange_api_ListChange_l0 (a0 : List ListChange) (a1 : List ListChange) (r : Fin' Unit Bool) (h : forN (fun i2 s => slices_Equal_api_ListChange_api_ListChange_b0 a0 a1 i2 ) (a0.length) 0 () = some r) : Runs PG 26 0 (cL (cR (cL (cR (cR slices_Equal_api_ListChange_api_ListChange_c))))) (slices_Equal_api_ListChange_api_ListChange_F0 a0 a1 0 ) (slices_Equal_api_ListChange_api_ListChange_H0 a0 a1 0 ) (finOc (slices_Equal_api_ListChange_api_ListChange_B0 a0 a1) slices_Equal_api_ListChange_api_ListChange_R r) :=
  Runs.loop' (by kernel_rfl) (forN_rounds (σ := Unit) (ρ := Bool) (body := fun i2 s => slices_Equal_api_ListChange_api_ListChange_b0 a0 a1 i2 ) (F := fun i2 s => slices_Equal_api_ListChange_api_ListChange_F0 a0 a1 i2 ) (H := fun i2 s => slices_Equal_api_ListChange_api_ListChange_H0 a0 a1 i2 ) (B := slices_Equal_api_ListChange_api_ListChange_B0 a0 a1) (R := slices_Equal_api_ListChange_api_ListChange_R) (M := a0.length) (fun _ => rfl) (fun _ => rfl) (fun s => slices_Equal_api_ListChange_api_ListChange_b0_e a0 a1 ) (fun i s o hi h => slices_Equal_api_ListChange_api_ListChange_b0_r a0 a1 i o hi h) _ 0 _ r (Nat.zero_add _) h)
noncomputable def slices_Equal_api_ListChange_api_ListChange (a0 : List ListChange) (a1 : List ListChange) : Option Bool :=
 cnd ((a0.length : Int) != (a1.length : Int)) (some false) (aft0 (forN (fun i2 s => slices_Equal_api_ListChange_api_ListChange_b0 a0 a1 i2 ) (a0.length) 0 ()) (
 some true)
 (fun r9 =>
 some r9))
theorem slices_Equal_api_ListChange_api_ListChange_ok (a0 : List ListChange) (a1 : List ListChange) (r : Bool) (h : slices_Equal_api_ListChange_api_ListChange a0 a1 = some r) : Spec PG 29 [lT 3 (List.map e_ListChange a0), lT 3 (List.map e_ListChange a1)] [] (bA r) [] := by
  unfold slices_Equal_api_ListChange_api_ListChange at h
  rcases cnd_e h with ⟨h1, h⟩ | ⟨h1, h⟩
  · have h := Option.some.inj h
    subst h
    exact Spec.path XTok PGmix slices_Equal_api_ListChange_api_ListChange_fn 0 [.r [], .r [.eq 7 (iA (a0.length : Int)), .eq 9 (iA (a1.length : Int))], .b true, .r []] (an (leni_eq e_ListChange a0) (an (leni_eq e_ListChange a1) h1)) (by kernel_rfl)
  · rcases aft0_e h with ⟨h8, h⟩ | ⟨r9, h8, h⟩
    · have h := Option.some.inj h
      subst h
      exact Spec.path XTok PGmix slices_Equal_api_ListChange_api_ListChange_fn 0 [.r [], .r [.eq 7 (iA (a0.length : Int)), .eq 9 (iA (a1.length : Int))], .b false, .r [.eq 12 (iA (a0.length : Int))], .s (slices_Equal_api_ListChange_api_ListChange_F0 a0 a1 0 ) (slices_Equal_api_ListChange_api_ListChange_H0 a0 a1 0 ) [] (slices_Equal_api_ListChange_api_ListChange_B0 a0 a1 ()), .r []] (an (leni_eq e_ListChange a0) (an (leni_eq e_ListChange a1) (an h1 (an (leni_eq e_ListChange a0) (slices_Equal_api_ListChange_api_ListChange_l0 a0 a1 (.fin ()) h8))))) (by kernel_rfl)
    · have h := Option.some.inj h
      subst h
      exact Spec.path XTok PGmix slices_Equal_api_ListChange_api_ListChange_fn 0 [.r [], .r [.eq 7 (iA (a0.length : Int)), .eq 9 (iA (a1.length : Int))], .b false, .r [.eq 12 (iA (a0.length : Int))], .s (slices_Equal_api_ListChange_api_ListChange_F0 a0 a1 0 ) (slices_Equal_api_ListChange_api_ListChange_H0 a0 a1 0 ) [] (slices_Equal_api_ListChange_api_ListChange_R r9)] (an (leni_eq e_ListChange a0) (an (leni_eq e_ListChange a1) (an h1 (an (leni_eq e_ListChange a0) (slices_Equal_api_ListChange_api_ListChange_l0 a0 a1 (.ret r9) h8))))) (by kernel_rfl)

noncomputable def law_NetlistChangesMatchSpec_c : Code := (Go.Proofs.Tryd.f6.body).getD .skip
theorem law_NetlistChangesMatchSpec_fn : FnOk PG 6 law_NetlistChangesMatchSpec_c 52 [.tmp 6] := ⟨⟨Go.Proofs.Tryd.f6, by kernel_rfl, by kernel_rfl, by kernel_rfl, by kernel_rfl, by kernel_rfl⟩⟩
noncomputable def law_NetlistChangesMatchSpec (a0 : List PartType) (a1 : Netlist) (a2 : Netlist) : Option Bool :=
 bnd (nl_Changes a0 a1 a2) fun r1 =>
 bnd (ref_Changes a0 a1 a2) fun r3 =>
 bnd1 (cnd (r1.2 != r3.2) (some true) (bnd (slices_Equal_api_ListChange_api_ListChange r1.1 r3.1) fun r9 =>
 cnd (!r9) (some true) (bnd (law_awake ) fun r12 =>
 some (!r12)))) fun v5 =>
 cnd v5 (some false) (bnd (nl_Changes a0 a1 a1) fun r16 =>
 bnd1 (cnd (r16.2 != 0) (some true) (some ((r16.1.length : Int) == 0))) fun v18 =>
 some v18)
theorem law_NetlistChangesMatchSpec_ok (a0 : List PartType) (a1 : Netlist) (a2 : Netlist) (r : Bool) (h : law_NetlistChangesMatchSpec a0 a1 a2 = some r) : Spec PG 6 [lT 2 (List.map e_PartType a0), gT (e_Netlist a1), gT (e_Netlist a2)] [] (bA r) [] := by
  unfold law_NetlistChangesMatchSpec at h
  obtain ⟨r1, h2, h⟩ := bnd_e h
  obtain ⟨r3, h4, h⟩ := bnd_e h
  obtain ⟨v5, h6, h⟩ := bnd1_e h
  let q14_f : Fr := [(0, lA 2 (List.map e_PartType a0)), (4, .t (.v (.ptr 0 0))), (7, lA 3 (List.map e_ListChange r1.1)), (8, iA r1.2), (9, lA 3 (List.map e_ListChange r3.1)), (10, iA r3.2)]
  let q14_g : Hp := [(0, .cells 26 [.c (.sl 2 (List.map e_Part a1.Parts)), .c (.sl 3 (List.map e_Net a1.Nets))])]
  let q14_f' : Fr := [(0, lA 2 (List.map e_PartType a0)), (4, .t (.v (.ptr 0 0))), (37, bA v5)]
  let q14_g' : Hp := [(0, .cells 26 [.c (.sl 2 (List.map e_Part a1.Parts)), .c (.sl 3 (List.map e_Net a1.Nets))])]
  have R7 : Runs PG 52 0 (cL (cL (cR (cR (cR law_NetlistChangesMatchSpec_c))))) q14_f q14_g (.nor q14_f' q14_g') := by
    rcases cnd_e h6 with ⟨h8, h6⟩ | ⟨h8, h6⟩
    · have h6 := Option.some.inj h6
      subst h6
      exact Runs.path XTok PGmix [.r [.b true, .b true, .b true, .b true, .b true, .b true, .b true, .b true]] [] (an h8 (an h8 (an h8 (an h8 (an h8 (an (Eq.refl true) (an (Eq.refl true) (Eq.refl true)))))))) (by kernel_rfl)
    · obtain ⟨r9, h10, h6⟩ := bnd_e h6
      rcases cnd_e h6 with ⟨h11, h6⟩ | ⟨h11, h6⟩
      · have h6 := Option.some.inj h6
        subst h6
        exact Runs.path XTok PGmix [.r [.b false, .b false, .b false, .val (bA r9), .b false, .b false, .b true, .b true, .b true]] [] (an h8 (an h8 (an h8 (an (slices_Equal_api_ListChange_api_ListChange_ok r1.1 r3.1 r9 h10) (an h8 (an h8 (an h11 (an h11 h11)))))))) (by kernel_rfl)
      · obtain ⟨r12, h13, h6⟩ := bnd_e h6
        have h6 := Option.some.inj h6
        subst h6
        exact Runs.path XTok PGmix [.r [.b false, .b false, .b false, .val (bA r9), .b false, .b false, .b false, .val (bA r12), .b false, .b false]] [] (an h8 (an h8 (an h8 (an (slices_Equal_api_ListChange_api_ListChange_ok r1.1 r3.1 r9 h10) (an h8 (an h8 (an h11 (an (law_awake_ok r12 h13) (an h11 h11))))))))) (by kernel_rfl)
  rcases cnd_e h with ⟨h15, h⟩ | ⟨h15, h⟩
  · have h := Option.some.inj h
    subst h
    exact Spec.path XTok PGmix law_NetlistChangesMatchSpec_fn 0 [.r [.id 0, .id 1], .r [.val (.tup [lT 3 (List.map e_ListChange r1.1), iT r1.2])], .r [.val (.tup [lT 3 (List.map e_ListChange r3.1), iT r3.2])], .s q14_f q14_g [] (.nor q14_f' q14_g'), .b true, .r []] (an (nl_Changes_ok a0 a1 a2 r1 h2) (an (ref_Changes_ok a0 a1 a2 r3 h4) (an R7 h15))) (by kernel_rfl)
  · obtain ⟨r16, h17, h⟩ := bnd_e h
    obtain ⟨v18, h19, h⟩ := bnd1_e h
    let q22_f : Fr := [(7, lA 3 (List.map e_ListChange r16.1)), (8, iA r16.2)]
    let q22_g : Hp := []
    let q22_f' : Fr := [(6, bA v18)]
    let q22_g' : Hp := []
    have R20 : Runs PG 52 0 (cL (cR (cR (cR (cR (cR law_NetlistChangesMatchSpec_c)))))) q22_f q22_g (.nor q22_f' q22_g') := by
      rcases cnd_e h19 with ⟨h21, h19⟩ | ⟨h21, h19⟩
      · have h19 := Option.some.inj h19
        subst h19
        exact Runs.path XTok PGmix [.r [.b true, .b true, .b true, .b true]] [] (an h21 (an h21 (an h21 h21))) (by kernel_rfl)
      · have h19 := Option.some.inj h19
        subst h19
        exact Runs.path XTok PGmix [.r [.b false, .b false, .eq 49 (iA (r16.1.length : Int)), .b false, .b false]] [] (an h21 (an h21 (an (leni_eq e_ListChange r16.1) (an h21 h21)))) (by kernel_rfl)
    have h := Option.some.inj h
    subst h
    exact Spec.path XTok PGmix law_NetlistChangesMatchSpec_fn 0 [.r [.id 0, .id 1], .r [.val (.tup [lT 3 (List.map e_ListChange r1.1), iT r1.2])], .r [.val (.tup [lT 3 (List.map e_ListChange r3.1), iT r3.2])], .s q14_f q14_g [] (.nor q14_f' q14_g'), .b false, .r [.val (.tup [lT 3 (List.map e_ListChange r16.1), iT r16.2])], .s q22_f q22_g [] (.nor q22_f' q22_g')] (an (nl_Changes_ok a0 a1 a2 r1 h2) (an (ref_Changes_ok a0 a1 a2 r3 h4) (an R7 (an h15 (an (nl_Changes_ok a0 a1 a1 r16 h17) R20))))) (by kernel_rfl)
end Go.Proofs.YtlbndchfmdogeaaDoor.Sym
