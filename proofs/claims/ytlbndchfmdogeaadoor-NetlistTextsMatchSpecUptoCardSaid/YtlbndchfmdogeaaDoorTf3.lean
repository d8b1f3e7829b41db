/- Printed by gen2.py: the plain forms of functions, and that calling them gives what these give. Conditions: none. -/
import Derived.Test.YtlbndchfmdogeaaDoorTf2
set_option linter.unusedVariables false
set_option maxHeartbeats 4000000
namespace Go.Proofs.YtlbndchfmdogeaaDoor.Sym
open Go Go.RowKit
noncomputable def nl_Text_c : Code := (Go.Proofs.Tryd.f33.body).getD .skip
theorem nl_Text_fn : FnOk PG 33 nl_Text_c 84 [.tmp 2, .tmp 3] := ⟨⟨Go.Proofs.Tryd.f33, by kernel_rfl, by kernel_rfl, by kernel_rfl, by kernel_rfl, by kernel_rfl⟩⟩
noncomputable def nl_Text_c0 : Code := cL (cL (cR (cL (cR (cR nl_Text_c)))))
noncomputable def nl_Text_R (r : ByteArray × Int) : Oc := .ret [(2, sA r.1), (3, iA r.2)] []
noncomputable def nl_Text_F0 (a0 : Netlist) (i1 : Nat) (y2 : ByteArray) : Fr := [(1, .t (.v (.ptr 0 0))), (4, .t (.v (.ptr 1 0))), (12, lA 2 (List.map e_Part a0.Parts)), (13, iA (a0.Parts.length : Int)), (14, iA (i1 : Int))]
noncomputable def nl_Text_H0 (a0 : Netlist) (i1 : Nat) (y2 : ByteArray) : Hp := [(0, .cells 26 [.c (.sl 2 (List.map e_Part a0.Parts)), .c (.sl 3 (List.map e_Net a0.Nets))]), (1, .cells 131 [.sp 1, .rt 2]), (2, .row 5 1 (strE y2))]
noncomputable def nl_Text_B0 (a0 : Netlist) (s : ByteArray) : Oc := .ex 0 [(1, .t (.v (.ptr 0 0))), (4, .t (.v (.ptr 1 0)))] [(0, .cells 26 [.c (.sl 2 (List.map e_Part a0.Parts)), .c (.sl 3 (List.map e_Net a0.Nets))]), (1, .cells 131 [.sp 1, .rt 2]), (2, .row 5 1 (strE s))]
noncomputable def nl_Text_b0 (a0 : Netlist) (i1 : Nat) (y2 : ByteArray) : Option (Stp ByteArray (ByteArray × Int)) :=
 bnd (atI a0.Parts (i1 : Int)) fun x3 =>
 bnd1 (bnd (nl_isPlain x3.Name) fun r8 =>
 cnd (!r8) (some true) (bnd (nl_isPlain x3.Type_) fun r11 =>
 some (!r11))) fun v5 =>
 cnd v5 (some (.ret ((⟨#[]⟩ : ByteArray), 3))) (grd ((⟨#[112, 97, 114, 116, 32]⟩ : ByteArray).size + x3.Name.size ≤ lim) <|
 grd (((⟨#[112, 97, 114, 116, 32]⟩ : ByteArray) ++ x3.Name).size + (⟨#[32]⟩ : ByteArray).size ≤ lim) <|
 grd ((((⟨#[112, 97, 114, 116, 32]⟩ : ByteArray) ++ x3.Name) ++ (⟨#[32]⟩ : ByteArray)).size + x3.Type_.size ≤ lim) <|
 grd (((((⟨#[112, 97, 114, 116, 32]⟩ : ByteArray) ++ x3.Name) ++ (⟨#[32]⟩ : ByteArray)) ++ x3.Type_).size + (⟨#[10]⟩ : ByteArray).size ≤ lim) <|
 grd (y2.size + (((((⟨#[112, 97, 114, 116, 32]⟩ : ByteArray) ++ x3.Name) ++ (⟨#[32]⟩ : ByteArray)) ++ x3.Type_) ++ (⟨#[10]⟩ : ByteArray)).size ≤ lim) <|
 some (.go (y2 ++ (((((⟨#[112, 97, 114, 116, 32]⟩ : ByteArray) ++ x3.Name) ++ (⟨#[32]⟩ : ByteArray)) ++ x3.Type_) ++ (⟨#[10]⟩ : ByteArray)))))
theorem nl_Text_b0_r (a0 : Netlist) (i1 : Nat) (y2 : ByteArray) (o : Stp ByteArray (ByteArray × Int)) (hi : i1 < a0.Parts.length) (h : nl_Text_b0 a0 i1 y2 = some o) :
    Runs PG 84 0 nl_Text_c0 (nl_Text_F0 a0 i1 y2) (nl_Text_H0 a0 i1 y2) (stpOc (fun s' => .nor (nl_Text_F0 a0 (i1 + 1) s') (nl_Text_H0 a0 (i1 + 1) s')) (nl_Text_B0 a0) nl_Text_R o) := by
  unfold nl_Text_b0 at h
  refine Runs.len (s := 12) (sz := 2) (xs := List.map e_Part a0.Parts) (by kernel_rfl) fun hl => ?_
  have hM : a0.Parts.length ≤ lim := len_of hl
  obtain ⟨x3, h4, h⟩ := bnd_e h
  obtain ⟨v5, h6, h⟩ := bnd1_e h
  let q13_f : Fr := [(1, .t (.v (.ptr 0 0))), (4, .t (.v (.ptr 1 0))), (6, .t (.v (.ptr 3 0))), (12, lA 2 (List.map e_Part a0.Parts)), (13, iA (a0.Parts.length : Int)), (14, iA (i1 : Int))]
  let q13_g : Hp := [(0, .cells 26 [.c (.sl 2 (List.map e_Part a0.Parts)), .c (.sl 3 (List.map e_Net a0.Nets))]), (1, .cells 131 [.sp 1, .rt 2]), (2, .row 5 1 (strE y2)), (3, .cells 73 [.c (sC x3.Name), .c (sC x3.Type_)])]
  let q13_f' : Fr := [(1, .t (.v (.ptr 0 0))), (4, .t (.v (.ptr 1 0))), (6, .t (.v (.ptr 3 0))), (12, lA 2 (List.map e_Part a0.Parts)), (13, iA (a0.Parts.length : Int)), (14, iA (i1 : Int)), (27, bA v5)]
  let q13_g' : Hp := [(0, .cells 26 [.c (.sl 2 (List.map e_Part a0.Parts)), .c (.sl 3 (List.map e_Net a0.Nets))]), (1, .cells 131 [.sp 1, .rt 2]), (2, .row 5 1 (strE y2)), (3, .cells 73 [.c (sC x3.Name), .c (sC x3.Type_)])]
  have R7 : Runs PG 84 0 (cL (cL (cR (cL (cL (cR (cR nl_Text_c0))))))) q13_f q13_g (.nor q13_f' q13_g') := by
    obtain ⟨r8, h9, h6⟩ := bnd_e h6
    rcases cnd_e h6 with ⟨h10, h6⟩ | ⟨h10, h6⟩
    · have h6 := Option.some.inj h6
      subst h6
      exact Runs.path XTok PGmix [.r [.val (bA r8), .b true, .b true, .b true, .b true, .b true]] [] (an (nl_isPlain_ok x3.Name r8 h9) (an h10 (an h10 (an h10 (an h10 h10))))) (by kernel_rfl)
    · obtain ⟨r11, h12, h6⟩ := bnd_e h6
      have h6 := Option.some.inj h6
      subst h6
      exact Runs.path XTok PGmix [.r [.val (bA r8), .b false, .b false, .b false, .val (bA r11), .b false, .b false]] [] (an (nl_isPlain_ok x3.Name r8 h9) (an h10 (an h10 (an h10 (an (nl_isPlain_ok x3.Type_ r11 h12) (an h10 h10)))))) (by kernel_rfl)
  rcases cnd_e h with ⟨h14, h⟩ | ⟨h14, h⟩
  · have h := Option.some.inj h
    subst h
    exact Runs.path XTok PGmix [.r [], .b true, .r [.el (e_Part x3), .id 3], .s q13_f q13_g [] (.nor q13_f' q13_g'), .b true, .r []] [] (an (lt_true hi) (an (idx_ok e_Part h4) (an R7 h14))) (by kernel_rfl)
  · obtain ⟨h15, h⟩ := grd_e h
    obtain ⟨h16, h⟩ := grd_e h
    obtain ⟨h17, h⟩ := grd_e h
    obtain ⟨h18, h⟩ := grd_e h
    obtain ⟨h19, h⟩ := grd_e h
    have h := Option.some.inj h
    subst h
    exact Runs.path XTok PGmix [.r [], .b true, .r [.el (e_Part x3), .id 3], .s q13_f q13_g [] (.nor q13_f' q13_g'), .b false, .r [.call [(0, 1), (1, 2), (2, 4)] [.v (.ptr 0 0), sT (((((⟨#[112, 97, 114, 116, 32]⟩ : ByteArray) ++ x3.Name) ++ (⟨#[32]⟩ : ByteArray)) ++ x3.Type_) ++ (⟨#[10]⟩ : ByteArray))] (bldH 131 5 (strE y2)) (.tup [iT ((((((⟨#[112, 97, 114, 116, 32]⟩ : ByteArray) ++ x3.Name) ++ (⟨#[32]⟩ : ByteArray)) ++ x3.Type_) ++ (⟨#[10]⟩ : ByteArray)).size : Int), .v (.c (.v .nilIface))]) [(0, .cells 131 [.sp 0, .rt 2]), (2, .row 5 1 (strE (y2 ++ (((((⟨#[112, 97, 114, 116, 32]⟩ : ByteArray) ++ x3.Name) ++ (⟨#[32]⟩ : ByteArray)) ++ x3.Type_) ++ (⟨#[10]⟩ : ByteArray)))))]], .r [.eq 37 (iA ((i1 + 1 : Nat) : Int))]] [(2, 4)] (an (lt_true hi) (an (idx_ok e_Part h4) (an R7 (an h14 (an h15 (an h16 (an h17 (an h18 (an (an (h_WriteString_ok y2 (((((⟨#[112, 97, 114, 116, 32]⟩ : ByteArray) ++ x3.Name) ++ (⟨#[32]⟩ : ByteArray)) ++ x3.Type_) ++ (⟨#[10]⟩ : ByteArray)) h19) (an (Eq.refl ([.v (.ptr 1 0), sT (((((⟨#[112, 97, 114, 116, 32]⟩ : ByteArray) ++ x3.Name) ++ (⟨#[32]⟩ : ByteArray)) ++ x3.Type_) ++ (⟨#[10]⟩ : ByteArray))] : List TV)) (Eq.refl (renH (asg [(0, 1), (1, 2), (2, 4)]) (bldH 131 5 (strE y2)))))) (wrap_eq hi hM)))))))))) (by kernel_rfl)
theorem nl_Text_b0_e (a0 : Netlist) (y2 : ByteArray) : Runs PG 84 0 nl_Text_c0 (nl_Text_F0 a0 (a0.Parts.length) y2) (nl_Text_H0 a0 (a0.Parts.length) y2) (nl_Text_B0 a0 y2) := by
  exact Runs.path XTok PGmix [.r [], .b false] [] (lt_false (a0.Parts.length)) (by kernel_rfl)
theorem nl_Text_l0 (a0 : Netlist) (y2 : ByteArray) (r : Fin' ByteArray (ByteArray × Int)) (h : forN (fun i1 s => nl_Text_b0 a0 i1 s) (a0.Parts.length) 0 y2 = some r) : Runs PG 84 0 (cL (cR (cL (cR (cR nl_Text_c))))) (nl_Text_F0 a0 0 y2) (nl_Text_H0 a0 0 y2) (finOc (nl_Text_B0 a0) nl_Text_R r) :=
  Runs.loop' (by kernel_rfl) (forN_rounds (σ := ByteArray) (ρ := (ByteArray × Int)) (body := fun i1 s => nl_Text_b0 a0 i1 s) (F := fun i1 s => nl_Text_F0 a0 i1 s) (H := fun i1 s => nl_Text_H0 a0 i1 s) (B := nl_Text_B0 a0) (R := nl_Text_R) (M := a0.Parts.length) (fun _ => rfl) (fun _ => rfl) (fun s => nl_Text_b0_e a0 s) (fun i s o hi h => nl_Text_b0_r a0 i s o hi h) _ 0 _ r (Nat.zero_add _) h)
noncomputable def nl_Text_c1 : Code := cL (cL (cR (cL (cR (cR (cR nl_Text_c))))))
noncomputable def nl_Text_c2 : Code := cL (cL (cR (cL (cR (cR (cR (cL (cL (cR (cR nl_Text_c1))))))))))
noncomputable def nl_Text_F2 (a0 : Netlist) (i23 : Nat) (x25 : Net) (i32 : Nat) (y33 : ByteArray) : Fr := [(4, .t (.v (.ptr 1 0))), (39, lA 3 (List.map e_Net a0.Nets)), (40, iA (a0.Nets.length : Int)), (41, iA (i23 : Int)), (54, lA 2 (List.map e_Pin x25.Pins)), (55, iA (x25.Pins.length : Int)), (56, iA (i32 : Int))]
noncomputable def nl_Text_H2 (a0 : Netlist) (i23 : Nat) (x25 : Net) (i32 : Nat) (y33 : ByteArray) : Hp := [(1, .cells 131 [.sp 1, .rt 4]), (4, .row 5 1 (strE y33))]
noncomputable def nl_Text_B2 (a0 : Netlist) (i23 : Nat) (x25 : Net) (s : ByteArray) : Oc := .ex 4 [(4, .t (.v (.ptr 1 0))), (39, lA 3 (List.map e_Net a0.Nets)), (40, iA (a0.Nets.length : Int)), (41, iA (i23 : Int))] [(1, .cells 131 [.sp 1, .rt 4]), (4, .row 5 1 (strE s))]
noncomputable def nl_Text_b2 (a0 : Netlist) (i23 : Nat) (x25 : Net) (i32 : Nat) (y33 : ByteArray) : Option (Stp ByteArray (ByteArray × Int)) :=
 bnd (atI x25.Pins (i32 : Int)) fun x34 =>
 bnd1 (bnd (nl_isPlain x34.Part) fun r39 =>
 cnd (!r39) (some true) (bnd (nl_isPlain x34.Pin) fun r42 =>
 some (!r42))) fun v36 =>
 cnd v36 (some (.ret ((⟨#[]⟩ : ByteArray), 3))) (grd ((⟨#[32]⟩ : ByteArray).size + x34.Part.size ≤ lim) <|
 grd (((⟨#[32]⟩ : ByteArray) ++ x34.Part).size + (⟨#[46]⟩ : ByteArray).size ≤ lim) <|
 grd ((((⟨#[32]⟩ : ByteArray) ++ x34.Part) ++ (⟨#[46]⟩ : ByteArray)).size + x34.Pin.size ≤ lim) <|
 grd (y33.size + ((((⟨#[32]⟩ : ByteArray) ++ x34.Part) ++ (⟨#[46]⟩ : ByteArray)) ++ x34.Pin).size ≤ lim) <|
 some (.go (y33 ++ ((((⟨#[32]⟩ : ByteArray) ++ x34.Part) ++ (⟨#[46]⟩ : ByteArray)) ++ x34.Pin))))
theorem nl_Text_b2_r (a0 : Netlist) (i23 : Nat) (x25 : Net) (i32 : Nat) (y33 : ByteArray) (o : Stp ByteArray (ByteArray × Int)) (hi : i32 < x25.Pins.length) (h : nl_Text_b2 a0 i23 x25 i32 y33 = some o) :
    Runs PG 84 0 nl_Text_c2 (nl_Text_F2 a0 i23 x25 i32 y33) (nl_Text_H2 a0 i23 x25 i32 y33) (stpOc (fun s' => .nor (nl_Text_F2 a0 i23 x25 (i32 + 1) s') (nl_Text_H2 a0 i23 x25 (i32 + 1) s')) (nl_Text_B2 a0 i23 x25) nl_Text_R o) := by
  unfold nl_Text_b2 at h
  refine Runs.len (s := 54) (sz := 2) (xs := List.map e_Pin x25.Pins) (by kernel_rfl) fun hl => ?_
  have hM : x25.Pins.length ≤ lim := len_of hl
  obtain ⟨x34, h35, h⟩ := bnd_e h
  obtain ⟨v36, h37, h⟩ := bnd1_e h
  let q44_f : Fr := [(4, .t (.v (.ptr 1 0))), (10, .t (.v (.ptr 5 0))), (39, lA 3 (List.map e_Net a0.Nets)), (40, iA (a0.Nets.length : Int)), (41, iA (i23 : Int)), (54, lA 2 (List.map e_Pin x25.Pins)), (55, iA (x25.Pins.length : Int)), (56, iA (i32 : Int))]
  let q44_g : Hp := [(1, .cells 131 [.sp 1, .rt 4]), (4, .row 5 1 (strE y33)), (5, .cells 28 [.c (sC x34.Part), .c (sC x34.Pin)])]
  let q44_f' : Fr := [(4, .t (.v (.ptr 1 0))), (10, .t (.v (.ptr 5 0))), (39, lA 3 (List.map e_Net a0.Nets)), (40, iA (a0.Nets.length : Int)), (41, iA (i23 : Int)), (54, lA 2 (List.map e_Pin x25.Pins)), (55, iA (x25.Pins.length : Int)), (56, iA (i32 : Int)), (69, bA v36)]
  let q44_g' : Hp := [(1, .cells 131 [.sp 1, .rt 4]), (4, .row 5 1 (strE y33)), (5, .cells 28 [.c (sC x34.Part), .c (sC x34.Pin)])]
  have R38 : Runs PG 84 0 (cL (cL (cR (cL (cL (cR (cR nl_Text_c2))))))) q44_f q44_g (.nor q44_f' q44_g') := by
    obtain ⟨r39, h40, h37⟩ := bnd_e h37
    rcases cnd_e h37 with ⟨h41, h37⟩ | ⟨h41, h37⟩
    · have h37 := Option.some.inj h37
      subst h37
      exact Runs.path XTok PGmix [.r [.val (bA r39), .b true, .b true, .b true, .b true, .b true]] [] (an (nl_isPlain_ok x34.Part r39 h40) (an h41 (an h41 (an h41 (an h41 h41))))) (by kernel_rfl)
    · obtain ⟨r42, h43, h37⟩ := bnd_e h37
      have h37 := Option.some.inj h37
      subst h37
      exact Runs.path XTok PGmix [.r [.val (bA r39), .b false, .b false, .b false, .val (bA r42), .b false, .b false]] [] (an (nl_isPlain_ok x34.Part r39 h40) (an h41 (an h41 (an h41 (an (nl_isPlain_ok x34.Pin r42 h43) (an h41 h41)))))) (by kernel_rfl)
  rcases cnd_e h with ⟨h45, h⟩ | ⟨h45, h⟩
  · have h := Option.some.inj h
    subst h
    exact Runs.path XTok PGmix [.r [], .b true, .r [.el (e_Pin x34), .id 5], .s q44_f q44_g [] (.nor q44_f' q44_g'), .b true, .r []] [] (an (lt_true hi) (an (idx_ok e_Pin h35) (an R38 h45))) (by kernel_rfl)
  · obtain ⟨h46, h⟩ := grd_e h
    obtain ⟨h47, h⟩ := grd_e h
    obtain ⟨h48, h⟩ := grd_e h
    obtain ⟨h49, h⟩ := grd_e h
    have h := Option.some.inj h
    subst h
    exact Runs.path XTok PGmix [.r [], .b true, .r [.el (e_Pin x34), .id 5], .s q44_f q44_g [] (.nor q44_f' q44_g'), .b false, .r [.call [(0, 1), (1, 4), (2, 6)] [.v (.ptr 0 0), sT ((((⟨#[32]⟩ : ByteArray) ++ x34.Part) ++ (⟨#[46]⟩ : ByteArray)) ++ x34.Pin)] (bldH 131 5 (strE y33)) (.tup [iT (((((⟨#[32]⟩ : ByteArray) ++ x34.Part) ++ (⟨#[46]⟩ : ByteArray)) ++ x34.Pin).size : Int), .v (.c (.v .nilIface))]) [(0, .cells 131 [.sp 0, .rt 2]), (2, .row 5 1 (strE (y33 ++ ((((⟨#[32]⟩ : ByteArray) ++ x34.Part) ++ (⟨#[46]⟩ : ByteArray)) ++ x34.Pin))))]], .r [.eq 78 (iA ((i32 + 1 : Nat) : Int))]] [(4, 6)] (an (lt_true hi) (an (idx_ok e_Pin h35) (an R38 (an h45 (an h46 (an h47 (an h48 (an (an (h_WriteString_ok y33 ((((⟨#[32]⟩ : ByteArray) ++ x34.Part) ++ (⟨#[46]⟩ : ByteArray)) ++ x34.Pin) h49) (an (Eq.refl ([.v (.ptr 1 0), sT ((((⟨#[32]⟩ : ByteArray) ++ x34.Part) ++ (⟨#[46]⟩ : ByteArray)) ++ x34.Pin)] : List TV)) (Eq.refl (renH (asg [(0, 1), (1, 4), (2, 6)]) (bldH 131 5 (strE y33)))))) (wrap_eq hi hM))))))))) (by kernel_rfl)
theorem nl_Text_b2_e (a0 : Netlist) (i23 : Nat) (x25 : Net) (y33 : ByteArray) : Runs PG 84 0 nl_Text_c2 (nl_Text_F2 a0 i23 x25 (x25.Pins.length) y33) (nl_Text_H2 a0 i23 x25 (x25.Pins.length) y33) (nl_Text_B2 a0 i23 x25 y33) := by
  exact Runs.path XTok PGmix [.r [], .b false] [] (lt_false (x25.Pins.length)) (by kernel_rfl)
theorem nl_Text_l2 (a0 : Netlist) (i23 : Nat) (x25 : Net) (y33 : ByteArray) (r : Fin' ByteArray (ByteArray × Int)) (h : forN (fun i32 s => nl_Text_b2 a0 i23 x25 i32 s) (x25.Pins.length) 0 y33 = some r) : Runs PG 84 0 (cL (cR (cL (cR (cR (cR (cL (cL (cR (cR nl_Text_c1)))))))))) (nl_Text_F2 a0 i23 x25 0 y33) (nl_Text_H2 a0 i23 x25 0 y33) (finOc (nl_Text_B2 a0 i23 x25) nl_Text_R r) :=
  Runs.loop' (by kernel_rfl) (forN_rounds (σ := ByteArray) (ρ := (ByteArray × Int)) (body := fun i32 s => nl_Text_b2 a0 i23 x25 i32 s) (F := fun i32 s => nl_Text_F2 a0 i23 x25 i32 s) (H := fun i32 s => nl_Text_H2 a0 i23 x25 i32 s) (B := nl_Text_B2 a0 i23 x25) (R := nl_Text_R) (M := x25.Pins.length) (fun _ => rfl) (fun _ => rfl) (fun s => nl_Text_b2_e a0 i23 x25 s) (fun i s o hi h => nl_Text_b2_r a0 i23 x25 i s o hi h) _ 0 _ r (Nat.zero_add _) h)
noncomputable def nl_Text_F1 (a0 : Netlist) (i23 : Nat) (y24 : ByteArray) : Fr := [(4, .t (.v (.ptr 1 0))), (39, lA 3 (List.map e_Net a0.Nets)), (40, iA (a0.Nets.length : Int)), (41, iA (i23 : Int))]
noncomputable def nl_Text_H1 (a0 : Netlist) (i23 : Nat) (y24 : ByteArray) : Hp := [(1, .cells 131 [.sp 1, .rt 2]), (2, .row 5 1 (strE y24))]
noncomputable def nl_Text_B1 (a0 : Netlist) (s : ByteArray) : Oc := .ex 2 [(4, .t (.v (.ptr 1 0)))] [(1, .cells 131 [.sp 1, .rt 2]), (2, .row 5 1 (strE s))]
noncomputable def nl_Text_b1 (a0 : Netlist) (i23 : Nat) (y24 : ByteArray) : Option (Stp ByteArray (ByteArray × Int)) :=
 bnd (atI a0.Nets (i23 : Int)) fun x25 =>
 bnd (nl_isPlain x25.Name) fun r27 =>
 cnd (!r27) (some (.ret ((⟨#[]⟩ : ByteArray), 3))) (grd ((⟨#[110, 101, 116, 32]⟩ : ByteArray).size + x25.Name.size ≤ lim) <|
 grd (y24.size + ((⟨#[110, 101, 116, 32]⟩ : ByteArray) ++ x25.Name).size ≤ lim) <|
 aft1 (forN (fun i32 s => nl_Text_b2 a0 i23 x25 i32 s) (x25.Pins.length) 0 (y24 ++ ((⟨#[110, 101, 116, 32]⟩ : ByteArray) ++ x25.Name))) (fun u50 =>
 grd (u50.size + (⟨#[10]⟩ : ByteArray).size ≤ lim) <|
 some (.go (u50 ++ (⟨#[10]⟩ : ByteArray))))
 (fun r52 =>
 some (.ret r52)))
theorem nl_Text_b1_r (a0 : Netlist) (i23 : Nat) (y24 : ByteArray) (o : Stp ByteArray (ByteArray × Int)) (hi : i23 < a0.Nets.length) (h : nl_Text_b1 a0 i23 y24 = some o) :
    Runs PG 84 0 nl_Text_c1 (nl_Text_F1 a0 i23 y24) (nl_Text_H1 a0 i23 y24) (stpOc (fun s' => .nor (nl_Text_F1 a0 (i23 + 1) s') (nl_Text_H1 a0 (i23 + 1) s')) (nl_Text_B1 a0) nl_Text_R o) := by
  unfold nl_Text_b1 at h
  refine Runs.len (s := 39) (sz := 3) (xs := List.map e_Net a0.Nets) (by kernel_rfl) fun hl => ?_
  have hM : a0.Nets.length ≤ lim := len_of hl
  obtain ⟨x25, h26, h⟩ := bnd_e h
  obtain ⟨r27, h28, h⟩ := bnd_e h
  rcases cnd_e h with ⟨h29, h⟩ | ⟨h29, h⟩
  · have h := Option.some.inj h
    subst h
    exact Runs.path XTok PGmix [.r [], .b true, .r [.el (e_Net x25), .id 3], .r [.val (bA r27)], .b true, .r []] [] (an (lt_true hi) (an (idx_ok e_Net h26) (an (nl_isPlain_ok x25.Name r27 h28) h29))) (by kernel_rfl)
  · obtain ⟨h30, h⟩ := grd_e h
    obtain ⟨h31, h⟩ := grd_e h
    rcases aft1_e h with ⟨u50, h51, h⟩ | ⟨r52, h51, h⟩
    · obtain ⟨h53, h⟩ := grd_e h
      have h := Option.some.inj h
      subst h
      exact Runs.path XTok PGmix [.r [], .b true, .r [.el (e_Net x25), .id 3], .r [.val (bA r27)], .b false, .r [.call [(0, 1), (1, 2), (2, 4)] [.v (.ptr 0 0), sT ((⟨#[110, 101, 116, 32]⟩ : ByteArray) ++ x25.Name)] (bldH 131 5 (strE y24)) (.tup [iT (((⟨#[110, 101, 116, 32]⟩ : ByteArray) ++ x25.Name).size : Int), .v (.c (.v .nilIface))]) [(0, .cells 131 [.sp 0, .rt 2]), (2, .row 5 1 (strE (y24 ++ ((⟨#[110, 101, 116, 32]⟩ : ByteArray) ++ x25.Name))))]], .r [.eq 55 (iA (x25.Pins.length : Int))], .s (nl_Text_F2 a0 i23 x25 0 (y24 ++ ((⟨#[110, 101, 116, 32]⟩ : ByteArray) ++ x25.Name))) (nl_Text_H2 a0 i23 x25 0 (y24 ++ ((⟨#[110, 101, 116, 32]⟩ : ByteArray) ++ x25.Name))) [] (nl_Text_B2 a0 i23 x25 u50), .r [.call [(0, 1), (1, 4), (2, 5)] [.v (.ptr 0 0), sT (⟨#[10]⟩ : ByteArray)] (bldH 131 5 (strE u50)) (.tup [iT ((⟨#[10]⟩ : ByteArray).size : Int), .v (.c (.v .nilIface))]) [(0, .cells 131 [.sp 0, .rt 2]), (2, .row 5 1 (strE (u50 ++ (⟨#[10]⟩ : ByteArray))))]], .r [.eq 80 (iA ((i23 + 1 : Nat) : Int))]] [(2, 5)] (an (lt_true hi) (an (idx_ok e_Net h26) (an (nl_isPlain_ok x25.Name r27 h28) (an h29 (an h30 (an (an (h_WriteString_ok y24 ((⟨#[110, 101, 116, 32]⟩ : ByteArray) ++ x25.Name) h31) (an (Eq.refl ([.v (.ptr 1 0), sT ((⟨#[110, 101, 116, 32]⟩ : ByteArray) ++ x25.Name)] : List TV)) (Eq.refl (renH (asg [(0, 1), (1, 2), (2, 4)]) (bldH 131 5 (strE y24)))))) (an (leni_eq e_Pin x25.Pins) (an (nl_Text_l2 a0 i23 x25 (y24 ++ ((⟨#[110, 101, 116, 32]⟩ : ByteArray) ++ x25.Name)) (.fin u50) h51) (an (an (h_WriteString_ok u50 (⟨#[10]⟩ : ByteArray) h53) (an (Eq.refl ([.v (.ptr 1 0), sT (⟨#[10]⟩ : ByteArray)] : List TV)) (Eq.refl (renH (asg [(0, 1), (1, 4), (2, 5)]) (bldH 131 5 (strE u50)))))) (wrap_eq hi hM)))))))))) (by kernel_rfl)
    · have h := Option.some.inj h
      subst h
      exact Runs.path XTok PGmix [.r [], .b true, .r [.el (e_Net x25), .id 3], .r [.val (bA r27)], .b false, .r [.call [(0, 1), (1, 2), (2, 4)] [.v (.ptr 0 0), sT ((⟨#[110, 101, 116, 32]⟩ : ByteArray) ++ x25.Name)] (bldH 131 5 (strE y24)) (.tup [iT (((⟨#[110, 101, 116, 32]⟩ : ByteArray) ++ x25.Name).size : Int), .v (.c (.v .nilIface))]) [(0, .cells 131 [.sp 0, .rt 2]), (2, .row 5 1 (strE (y24 ++ ((⟨#[110, 101, 116, 32]⟩ : ByteArray) ++ x25.Name))))]], .r [.eq 55 (iA (x25.Pins.length : Int))], .s (nl_Text_F2 a0 i23 x25 0 (y24 ++ ((⟨#[110, 101, 116, 32]⟩ : ByteArray) ++ x25.Name))) (nl_Text_H2 a0 i23 x25 0 (y24 ++ ((⟨#[110, 101, 116, 32]⟩ : ByteArray) ++ x25.Name))) [] (nl_Text_R r52)] [] (an (lt_true hi) (an (idx_ok e_Net h26) (an (nl_isPlain_ok x25.Name r27 h28) (an h29 (an h30 (an (an (h_WriteString_ok y24 ((⟨#[110, 101, 116, 32]⟩ : ByteArray) ++ x25.Name) h31) (an (Eq.refl ([.v (.ptr 1 0), sT ((⟨#[110, 101, 116, 32]⟩ : ByteArray) ++ x25.Name)] : List TV)) (Eq.refl (renH (asg [(0, 1), (1, 2), (2, 4)]) (bldH 131 5 (strE y24)))))) (an (leni_eq e_Pin x25.Pins) (nl_Text_l2 a0 i23 x25 (y24 ++ ((⟨#[110, 101, 116, 32]⟩ : ByteArray) ++ x25.Name)) (.ret r52) h51)))))))) (by kernel_rfl)
theorem nl_Text_b1_e (a0 : Netlist) (y24 : ByteArray) : Runs PG 84 0 nl_Text_c1 (nl_Text_F1 a0 (a0.Nets.length) y24) (nl_Text_H1 a0 (a0.Nets.length) y24) (nl_Text_B1 a0 y24) := by
  exact Runs.path XTok PGmix [.r [], .b false] [] (lt_false (a0.Nets.length)) (by kernel_rfl)
theorem nl_Text_l1 (a0 : Netlist) (y24 : ByteArray) (r : Fin' ByteArray (ByteArray × Int)) (h : forN (fun i23 s => nl_Text_b1 a0 i23 s) (a0.Nets.length) 0 y24 = some r) : Runs PG 84 0 (cL (cR (cL (cR (cR (cR nl_Text_c)))))) (nl_Text_F1 a0 0 y24) (nl_Text_H1 a0 0 y24) (finOc (nl_Text_B1 a0) nl_Text_R r) :=
  Runs.loop' (by kernel_rfl) (forN_rounds (σ := ByteArray) (ρ := (ByteArray × Int)) (body := fun i23 s => nl_Text_b1 a0 i23 s) (F := fun i23 s => nl_Text_F1 a0 i23 s) (H := fun i23 s => nl_Text_H1 a0 i23 s) (B := nl_Text_B1 a0) (R := nl_Text_R) (M := a0.Nets.length) (fun _ => rfl) (fun _ => rfl) (fun s => nl_Text_b1_e a0 s) (fun i s o hi h => nl_Text_b1_r a0 i s o hi h) _ 0 _ r (Nat.zero_add _) h)
noncomputable def nl_Text (a0 : Netlist) : Option (ByteArray × Int) :=
 aft1 (forN (fun i1 s => nl_Text_b0 a0 i1 s) (a0.Parts.length) 0 (⟨#[]⟩ : ByteArray)) (fun u20 =>
 aft1 (forN (fun i23 s => nl_Text_b1 a0 i23 s) (a0.Nets.length) 0 u20) (fun u54 =>
 cnd (decide ((u54.size : Int) > 2000000)) (some ((⟨#[]⟩ : ByteArray), 2)) (some (u54, 0)))
 (fun r56 =>
 some r56))
 (fun r22 =>
 some r22)
theorem nl_Text_ok (a0 : Netlist) (r : ByteArray × Int) (h : nl_Text a0 = some r) : Spec PG 33 [gT (e_Netlist a0)] [] (.tup [sT r.1, iT r.2]) [] := by
  unfold nl_Text at h
  rcases aft1_e h with ⟨u20, h21, h⟩ | ⟨r22, h21, h⟩
  · rcases aft1_e h with ⟨u54, h55, h⟩ | ⟨r56, h55, h⟩
    · rcases cnd_e h with ⟨h57, h⟩ | ⟨h57, h⟩
      · have h := Option.some.inj h
        subst h
        exact Spec.path XTok PGmix nl_Text_fn 0 [.r [.id 0], .r [.id 1], .g (.s 1 0), .o 1 1 2 5 1, .r [.eq 13 (iA (a0.Parts.length : Int))], .s (nl_Text_F0 a0 0 (⟨#[]⟩ : ByteArray)) (nl_Text_H0 a0 0 (⟨#[]⟩ : ByteArray)) [] (nl_Text_B0 a0 u20), .r [.eq 40 (iA (a0.Nets.length : Int))], .s (nl_Text_F1 a0 0 u20) (nl_Text_H1 a0 0 u20) [] (nl_Text_B1 a0 u54), .r [.call [(0, 1), (1, 2)] [.v (.ptr 0 0)] (bldH 131 5 (strE u54)) (iA (u54.size : Int)) (bldH 131 5 (strE u54))], .b true, .r []] (an (leni_eq e_Part a0.Parts) (an (nl_Text_l0 a0 (⟨#[]⟩ : ByteArray) (.fin u20) h21) (an (leni_eq e_Net a0.Nets) (an (nl_Text_l1 a0 u20 (.fin u54) h55) (an (an (h_BuilderLen_ok u54) (an (Eq.refl ([.v (.ptr 1 0)] : List TV)) (Eq.refl (renH (asg [(0, 1), (1, 2)]) (bldH 131 5 (strE u54)))))) h57))))) (by kernel_rfl)
      · have h := Option.some.inj h
        subst h
        exact Spec.path XTok PGmix nl_Text_fn 0 [.r [.id 0], .r [.id 1], .g (.s 1 0), .o 1 1 2 5 1, .r [.eq 13 (iA (a0.Parts.length : Int))], .s (nl_Text_F0 a0 0 (⟨#[]⟩ : ByteArray)) (nl_Text_H0 a0 0 (⟨#[]⟩ : ByteArray)) [] (nl_Text_B0 a0 u20), .r [.eq 40 (iA (a0.Nets.length : Int))], .s (nl_Text_F1 a0 0 u20) (nl_Text_H1 a0 0 u20) [] (nl_Text_B1 a0 u54), .r [.call [(0, 1), (1, 2)] [.v (.ptr 0 0)] (bldH 131 5 (strE u54)) (iA (u54.size : Int)) (bldH 131 5 (strE u54))], .b false, .r [.call [(0, 1), (1, 2)] [.v (.ptr 0 0)] (bldH 131 5 (strE u54)) (sA u54) []]] (an (leni_eq e_Part a0.Parts) (an (nl_Text_l0 a0 (⟨#[]⟩ : ByteArray) (.fin u20) h21) (an (leni_eq e_Net a0.Nets) (an (nl_Text_l1 a0 u20 (.fin u54) h55) (an (an (h_BuilderLen_ok u54) (an (Eq.refl ([.v (.ptr 1 0)] : List TV)) (Eq.refl (renH (asg [(0, 1), (1, 2)]) (bldH 131 5 (strE u54)))))) (an h57 (an (h_BuilderString_ok u54) (an (Eq.refl ([.v (.ptr 1 0)] : List TV)) (Eq.refl (renH (asg [(0, 1), (1, 2)]) (bldH 131 5 (strE u54)))))))))))) (by kernel_rfl)
    · have h := Option.some.inj h
      subst h
      exact Spec.path XTok PGmix nl_Text_fn 0 [.r [.id 0], .r [.id 1], .g (.s 1 0), .o 1 1 2 5 1, .r [.eq 13 (iA (a0.Parts.length : Int))], .s (nl_Text_F0 a0 0 (⟨#[]⟩ : ByteArray)) (nl_Text_H0 a0 0 (⟨#[]⟩ : ByteArray)) [] (nl_Text_B0 a0 u20), .r [.eq 40 (iA (a0.Nets.length : Int))], .s (nl_Text_F1 a0 0 u20) (nl_Text_H1 a0 0 u20) [] (nl_Text_R r56)] (an (leni_eq e_Part a0.Parts) (an (nl_Text_l0 a0 (⟨#[]⟩ : ByteArray) (.fin u20) h21) (an (leni_eq e_Net a0.Nets) (nl_Text_l1 a0 u20 (.ret r56) h55)))) (by kernel_rfl)
  · have h := Option.some.inj h
    subst h
    exact Spec.path XTok PGmix nl_Text_fn 0 [.r [.id 0], .r [.id 1], .g (.s 1 0), .o 1 1 2 5 1, .r [.eq 13 (iA (a0.Parts.length : Int))], .s (nl_Text_F0 a0 0 (⟨#[]⟩ : ByteArray)) (nl_Text_H0 a0 0 (⟨#[]⟩ : ByteArray)) [] (nl_Text_R r22)] (an (leni_eq e_Part a0.Parts) (nl_Text_l0 a0 (⟨#[]⟩ : ByteArray) (.ret r22) h21)) (by kernel_rfl)

noncomputable def ref_isListWord_c : Code := (Go.Proofs.Tryd.f68.body).getD .skip
theorem ref_isListWord_fn : FnOk PG 68 ref_isListWord_c 28 [.tmp 2] := ⟨⟨Go.Proofs.Tryd.f68, by kernel_rfl, by kernel_rfl, by kernel_rfl, by kernel_rfl, by kernel_rfl⟩⟩
noncomputable def ref_isListWord_c0 : Code := cL (cL (cR (cL (cR ref_isListWord_c))))
noncomputable def ref_isListWord_R (r : Bool) : Oc := .ret [(2, bA r)] []
noncomputable def ref_isListWord_F0 (a0 : ByteArray) (i1 : Nat) : Fr := [(0, sA a0), (4, sA a0), (5, iA (a0.size : Int)), (6, iA (i1 : Int))]
noncomputable def ref_isListWord_H0 (a0 : ByteArray) (i1 : Nat) : Hp := []
noncomputable def ref_isListWord_B0 (a0 : ByteArray) (s : Unit) : Oc := .ex 0 [(0, sA a0)] []
noncomputable def ref_isListWord_b0 (a0 : ByteArray) (i1 : Nat) : Option (Stp Unit Bool) :=
 bnd1 (grd ((0 : Int) ≤ (i1 : Int) ∧ (i1 : Int) < (a0.size : Int)) <|
 cnd (decide ((bt a0 (i1 : Int)) < 33)) (some true) (grd ((0 : Int) ≤ (i1 : Int) ∧ (i1 : Int) < (a0.size : Int)) <|
 cnd (decide ((bt a0 (i1 : Int)) > 126)) (some true) (grd ((0 : Int) ≤ (i1 : Int) ∧ (i1 : Int) < (a0.size : Int)) <|
 some ((bt a0 (i1 : Int)) == 46)))) fun v2 =>
 cnd v2 (some (.ret false)) (some (.go ()))
theorem ref_isListWord_b0_r (a0 : ByteArray) (i1 : Nat) (o : Stp Unit Bool) (hi : i1 < a0.size) (h : ref_isListWord_b0 a0 i1 = some o) :
    Runs PG 28 0 ref_isListWord_c0 (ref_isListWord_F0 a0 i1 ) (ref_isListWord_H0 a0 i1 ) (stpOc (fun s' => .nor (ref_isListWord_F0 a0 (i1 + 1) ) (ref_isListWord_H0 a0 (i1 + 1) )) (ref_isListWord_B0 a0) ref_isListWord_R o) := by
  unfold ref_isListWord_b0 at h
  refine Runs.slen (s := 4) (b := a0) (by kernel_rfl) fun hM => ?_
  obtain ⟨v2, h3, h⟩ := bnd1_e h
  let q10_f : Fr := [(0, sA a0), (3, iA (i1 : Int)), (4, sA a0), (5, iA (a0.size : Int)), (6, iA (i1 : Int))]
  let q10_g : Hp := []
  let q10_f' : Fr := [(0, sA a0), (4, sA a0), (5, iA (a0.size : Int)), (6, iA (i1 : Int)), (24, bA v2)]
  let q10_g' : Hp := []
  have R4 : Runs PG 28 0 (cL (cR (cL (cL (cR (cR ref_isListWord_c0)))))) q10_f q10_g (.nor q10_f' q10_g') := by
    obtain ⟨h5, h3⟩ := grd_e h3
    rcases cnd_e h3 with ⟨h6, h3⟩ | ⟨h6, h3⟩
    · have h3 := Option.some.inj h3
      subst h3
      exact Runs.path XTok PGmix [.r [.b true, .b true, .b true, .b true, .b true, .b true, .b true, .b true, .b true, .b true]] [] (an h5 (an h6 (an h6 (an h6 (an h6 (an h6 (an (Eq.refl true) (an (Eq.refl true) (an (Eq.refl true) (an (Eq.refl true) (Eq.refl true))))))))))) (by kernel_rfl)
    · obtain ⟨h7, h3⟩ := grd_e h3
      rcases cnd_e h3 with ⟨h8, h3⟩ | ⟨h8, h3⟩
      · have h3 := Option.some.inj h3
        subst h3
        exact Runs.path XTok PGmix [.r [.b false, .b false, .b false, .b false, .b false, .b true, .b true, .b true, .b true, .b true]] [] (an h5 (an h6 (an h6 (an h6 (an h7 (an h6 (an h6 (an h8 (an h8 (an h8 (an h8 h8))))))))))) (by kernel_rfl)
      · obtain ⟨h9, h3⟩ := grd_e h3
        have h3 := Option.some.inj h3
        subst h3
        exact Runs.path XTok PGmix [.r [.b false, .b false, .b false, .b false, .b false, .b false, .b false, .b false, .b false, .b false]] [] (an h5 (an h6 (an h6 (an h6 (an h7 (an h6 (an h6 (an h8 (an h8 (an h8 (an h9 (an h8 h8)))))))))))) (by kernel_rfl)
  rcases cnd_e h with ⟨h11, h⟩ | ⟨h11, h⟩
  · have h := Option.some.inj h
    subst h
    exact Runs.path XTok PGmix [.r [], .b true, .r [], .s q10_f q10_g [] (.nor q10_f' q10_g'), .b true, .r []] [] (an (lt_true hi) (an R4 h11)) (by kernel_rfl)
  · have h := Option.some.inj h
    subst h
    exact Runs.path XTok PGmix [.r [], .b true, .r [], .s q10_f q10_g [] (.nor q10_f' q10_g'), .b false, .r [.eq 25 (iA ((i1 + 1 : Nat) : Int))]] [] (an (lt_true hi) (an R4 (an h11 (wrap_eq hi hM)))) (by kernel_rfl)
theorem ref_isListWord_b0_e (a0 : ByteArray) : Runs PG 28 0 ref_isListWord_c0 (ref_isListWord_F0 a0 (a0.size) ) (ref_isListWord_H0 a0 (a0.size) ) (ref_isListWord_B0 a0 ()) := by
  exact Runs.path XTok PGmix [.r [], .b false] [] (lt_false (a0.size)) (by kernel_rfl)
theorem ref_isListWord_l0 (a0 : ByteArray) (r : Fin' Unit Bool) (h : forN (fun i1 s => ref_isListWord_b0 a0 i1 ) (a0.size) 0 () = some r) : Runs PG 28 0 (cL (cR (cL (cR ref_isListWord_c)))) (ref_isListWord_F0 a0 0 ) (ref_isListWord_H0 a0 0 ) (finOc (ref_isListWord_B0 a0) ref_isListWord_R r) :=
  Runs.loop' (by kernel_rfl) (forN_rounds (σ := Unit) (ρ := Bool) (body := fun i1 s => ref_isListWord_b0 a0 i1 ) (F := fun i1 s => ref_isListWord_F0 a0 i1 ) (H := fun i1 s => ref_isListWord_H0 a0 i1 ) (B := ref_isListWord_B0 a0) (R := ref_isListWord_R) (M := a0.size) (fun _ => rfl) (fun _ => rfl) (fun s => ref_isListWord_b0_e a0 ) (fun i s o hi h => ref_isListWord_b0_r a0 i o hi h) _ 0 _ r (Nat.zero_add _) h)
noncomputable def ref_isListWord (a0 : ByteArray) : Option Bool :=
 aft0 (forN (fun i1 s => ref_isListWord_b0 a0 i1 ) (a0.size) 0 ()) (
 some (sNe a0 (⟨#[]⟩ : ByteArray)))
 (fun r13 =>
 some r13)
theorem ref_isListWord_ok (a0 : ByteArray) (r : Bool) (h : ref_isListWord a0 = some r) : Spec PG 68 [sT a0] [] (bA r) [] := by
  unfold ref_isListWord at h
  rcases aft0_e h with ⟨h12, h⟩ | ⟨r13, h12, h⟩
  · have h := Option.some.inj h
    subst h
    exact Spec.path XTok PGmix ref_isListWord_fn 0 [.r [], .r [], .s (ref_isListWord_F0 a0 0 ) (ref_isListWord_H0 a0 0 ) [] (ref_isListWord_B0 a0 ()), .r []] (ref_isListWord_l0 a0 (.fin ()) h12) (by kernel_rfl)
  · have h := Option.some.inj h
    subst h
    exact Spec.path XTok PGmix ref_isListWord_fn 0 [.r [], .r [], .s (ref_isListWord_F0 a0 0 ) (ref_isListWord_H0 a0 0 ) [] (ref_isListWord_R r13)] (ref_isListWord_l0 a0 (.ret r13) h12) (by kernel_rfl)

noncomputable def ref_Text_c : Code := (Go.Proofs.Tryd.f34.body).getD .skip
theorem ref_Text_fn : FnOk PG 34 ref_Text_c 89 [.tmp 2, .tmp 3] := ⟨⟨Go.Proofs.Tryd.f34, by kernel_rfl, by kernel_rfl, by kernel_rfl, by kernel_rfl, by kernel_rfl⟩⟩
noncomputable def ref_Text_c0 : Code := cL (cL (cR (cL (cR (cR ref_Text_c)))))
noncomputable def ref_Text_R (r : ByteArray × Int) : Oc := .ret [(2, sA r.1), (3, iA r.2)] []
noncomputable def ref_Text_F0 (a0 : Netlist) (i1 : Nat) (y2 : ByteArray) : Fr := [(1, .t (.v (.ptr 0 0))), (4, sA y2), (12, lA 2 (List.map e_Part a0.Parts)), (13, iA (a0.Parts.length : Int)), (14, iA (i1 : Int))]
noncomputable def ref_Text_H0 (a0 : Netlist) (i1 : Nat) (y2 : ByteArray) : Hp := [(0, .cells 26 [.c (.sl 2 (List.map e_Part a0.Parts)), .c (.sl 3 (List.map e_Net a0.Nets))])]
noncomputable def ref_Text_B0 (a0 : Netlist) (s : ByteArray) : Oc := .ex 0 [(1, .t (.v (.ptr 0 0))), (4, sA s)] [(0, .cells 26 [.c (.sl 2 (List.map e_Part a0.Parts)), .c (.sl 3 (List.map e_Net a0.Nets))])]
noncomputable def ref_Text_b0 (a0 : Netlist) (i1 : Nat) (y2 : ByteArray) : Option (Stp ByteArray (ByteArray × Int)) :=
 bnd (atI a0.Parts (i1 : Int)) fun x3 =>
 bnd1 (bnd (ref_isListWord x3.Name) fun r8 =>
 cnd (!r8) (some true) (bnd (ref_isListWord x3.Type_) fun r11 =>
 some (!r11))) fun v5 =>
 cnd v5 (some (.ret ((⟨#[]⟩ : ByteArray), 3))) (grd ((⟨#[112, 97, 114, 116, 32]⟩ : ByteArray).size + x3.Name.size ≤ lim) <|
 grd (((⟨#[112, 97, 114, 116, 32]⟩ : ByteArray) ++ x3.Name).size + (⟨#[32]⟩ : ByteArray).size ≤ lim) <|
 grd ((((⟨#[112, 97, 114, 116, 32]⟩ : ByteArray) ++ x3.Name) ++ (⟨#[32]⟩ : ByteArray)).size + x3.Type_.size ≤ lim) <|
 grd (((((⟨#[112, 97, 114, 116, 32]⟩ : ByteArray) ++ x3.Name) ++ (⟨#[32]⟩ : ByteArray)) ++ x3.Type_).size + (⟨#[10]⟩ : ByteArray).size ≤ lim) <|
 grd (y2.size + (((((⟨#[112, 97, 114, 116, 32]⟩ : ByteArray) ++ x3.Name) ++ (⟨#[32]⟩ : ByteArray)) ++ x3.Type_) ++ (⟨#[10]⟩ : ByteArray)).size ≤ lim) <|
 some (.go (y2 ++ (((((⟨#[112, 97, 114, 116, 32]⟩ : ByteArray) ++ x3.Name) ++ (⟨#[32]⟩ : ByteArray)) ++ x3.Type_) ++ (⟨#[10]⟩ : ByteArray)))))
theorem ref_Text_b0_r (a0 : Netlist) (i1 : Nat) (y2 : ByteArray) (o : Stp ByteArray (ByteArray × Int)) (hi : i1 < a0.Parts.length) (h : ref_Text_b0 a0 i1 y2 = some o) :
    Runs PG 89 0 ref_Text_c0 (ref_Text_F0 a0 i1 y2) (ref_Text_H0 a0 i1 y2) (stpOc (fun s' => .nor (ref_Text_F0 a0 (i1 + 1) s') (ref_Text_H0 a0 (i1 + 1) s')) (ref_Text_B0 a0) ref_Text_R o) := by
  unfold ref_Text_b0 at h
  refine Runs.len (s := 12) (sz := 2) (xs := List.map e_Part a0.Parts) (by kernel_rfl) fun hl => ?_
  have hM : a0.Parts.length ≤ lim := len_of hl
  obtain ⟨x3, h4, h⟩ := bnd_e h
  obtain ⟨v5, h6, h⟩ := bnd1_e h
  let q13_f : Fr := [(1, .t (.v (.ptr 0 0))), (4, sA y2), (6, .t (.v (.ptr 1 0))), (12, lA 2 (List.map e_Part a0.Parts)), (13, iA (a0.Parts.length : Int)), (14, iA (i1 : Int))]
  let q13_g : Hp := [(0, .cells 26 [.c (.sl 2 (List.map e_Part a0.Parts)), .c (.sl 3 (List.map e_Net a0.Nets))]), (1, .cells 73 [.c (sC x3.Name), .c (sC x3.Type_)])]
  let q13_f' : Fr := [(1, .t (.v (.ptr 0 0))), (4, sA y2), (6, .t (.v (.ptr 1 0))), (12, lA 2 (List.map e_Part a0.Parts)), (13, iA (a0.Parts.length : Int)), (14, iA (i1 : Int)), (27, bA v5)]
  let q13_g' : Hp := [(0, .cells 26 [.c (.sl 2 (List.map e_Part a0.Parts)), .c (.sl 3 (List.map e_Net a0.Nets))]), (1, .cells 73 [.c (sC x3.Name), .c (sC x3.Type_)])]
  have R7 : Runs PG 89 0 (cL (cL (cR (cL (cL (cR (cR ref_Text_c0))))))) q13_f q13_g (.nor q13_f' q13_g') := by
    obtain ⟨r8, h9, h6⟩ := bnd_e h6
    rcases cnd_e h6 with ⟨h10, h6⟩ | ⟨h10, h6⟩
    · have h6 := Option.some.inj h6
      subst h6
      exact Runs.path XTok PGmix [.r [.val (bA r8), .b true, .b true, .b true, .b true, .b true]] [] (an (ref_isListWord_ok x3.Name r8 h9) (an h10 (an h10 (an h10 (an h10 h10))))) (by kernel_rfl)
    · obtain ⟨r11, h12, h6⟩ := bnd_e h6
      have h6 := Option.some.inj h6
      subst h6
      exact Runs.path XTok PGmix [.r [.val (bA r8), .b false, .b false, .b false, .val (bA r11), .b false, .b false]] [] (an (ref_isListWord_ok x3.Name r8 h9) (an h10 (an h10 (an h10 (an (ref_isListWord_ok x3.Type_ r11 h12) (an h10 h10)))))) (by kernel_rfl)
  rcases cnd_e h with ⟨h14, h⟩ | ⟨h14, h⟩
  · have h := Option.some.inj h
    subst h
    exact Runs.path XTok PGmix [.r [], .b true, .r [.el (e_Part x3), .id 1], .s q13_f q13_g [] (.nor q13_f' q13_g'), .b true, .r []] [] (an (lt_true hi) (an (idx_ok e_Part h4) (an R7 h14))) (by kernel_rfl)
  · obtain ⟨h15, h⟩ := grd_e h
    obtain ⟨h16, h⟩ := grd_e h
    obtain ⟨h17, h⟩ := grd_e h
    obtain ⟨h18, h⟩ := grd_e h
    obtain ⟨h19, h⟩ := grd_e h
    have h := Option.some.inj h
    subst h
    exact Runs.path XTok PGmix [.r [], .b true, .r [.el (e_Part x3), .id 1], .s q13_f q13_g [] (.nor q13_f' q13_g'), .b false, .r [], .r [.eq 38 (iA ((i1 + 1 : Nat) : Int))]] [] (an (lt_true hi) (an (idx_ok e_Part h4) (an R7 (an h14 (an h15 (an h16 (an h17 (an h18 (an h19 (wrap_eq hi hM)))))))))) (by kernel_rfl)
theorem ref_Text_b0_e (a0 : Netlist) (y2 : ByteArray) : Runs PG 89 0 ref_Text_c0 (ref_Text_F0 a0 (a0.Parts.length) y2) (ref_Text_H0 a0 (a0.Parts.length) y2) (ref_Text_B0 a0 y2) := by
  exact Runs.path XTok PGmix [.r [], .b false] [] (lt_false (a0.Parts.length)) (by kernel_rfl)
theorem ref_Text_l0 (a0 : Netlist) (y2 : ByteArray) (r : Fin' ByteArray (ByteArray × Int)) (h : forN (fun i1 s => ref_Text_b0 a0 i1 s) (a0.Parts.length) 0 y2 = some r) : Runs PG 89 0 (cL (cR (cL (cR (cR ref_Text_c))))) (ref_Text_F0 a0 0 y2) (ref_Text_H0 a0 0 y2) (finOc (ref_Text_B0 a0) ref_Text_R r) :=
  Runs.loop' (by kernel_rfl) (forN_rounds (σ := ByteArray) (ρ := (ByteArray × Int)) (body := fun i1 s => ref_Text_b0 a0 i1 s) (F := fun i1 s => ref_Text_F0 a0 i1 s) (H := fun i1 s => ref_Text_H0 a0 i1 s) (B := ref_Text_B0 a0) (R := ref_Text_R) (M := a0.Parts.length) (fun _ => rfl) (fun _ => rfl) (fun s => ref_Text_b0_e a0 s) (fun i s o hi h => ref_Text_b0_r a0 i s o hi h) _ 0 _ r (Nat.zero_add _) h)
noncomputable def ref_Text_c1 : Code := cL (cL (cR (cL (cR (cR (cR ref_Text_c))))))
noncomputable def ref_Text_c2 : Code := cL (cL (cR (cL (cR (cR (cR (cL (cL (cR (cR ref_Text_c1))))))))))
noncomputable def ref_Text_F2 (a0 : Netlist) (i23 : Nat) (x25 : Net) (i32 : Nat) (y33 : ByteArray) : Fr := [(4, sA y33), (40, lA 3 (List.map e_Net a0.Nets)), (41, iA (a0.Nets.length : Int)), (42, iA (i23 : Int)), (56, lA 2 (List.map e_Pin x25.Pins)), (57, iA (x25.Pins.length : Int)), (58, iA (i32 : Int))]
noncomputable def ref_Text_H2 (a0 : Netlist) (i23 : Nat) (x25 : Net) (i32 : Nat) (y33 : ByteArray) : Hp := []
noncomputable def ref_Text_B2 (a0 : Netlist) (i23 : Nat) (x25 : Net) (s : ByteArray) : Oc := .ex 4 [(4, sA s), (40, lA 3 (List.map e_Net a0.Nets)), (41, iA (a0.Nets.length : Int)), (42, iA (i23 : Int))] []
noncomputable def ref_Text_b2 (a0 : Netlist) (i23 : Nat) (x25 : Net) (i32 : Nat) (y33 : ByteArray) : Option (Stp ByteArray (ByteArray × Int)) :=
 bnd (atI x25.Pins (i32 : Int)) fun x34 =>
 bnd1 (bnd (ref_isListWord x34.Part) fun r39 =>
 cnd (!r39) (some true) (bnd (ref_isListWord x34.Pin) fun r42 =>
 some (!r42))) fun v36 =>
 cnd v36 (some (.ret ((⟨#[]⟩ : ByteArray), 3))) (grd ((⟨#[32]⟩ : ByteArray).size + x34.Part.size ≤ lim) <|
 grd (((⟨#[32]⟩ : ByteArray) ++ x34.Part).size + (⟨#[46]⟩ : ByteArray).size ≤ lim) <|
 grd ((((⟨#[32]⟩ : ByteArray) ++ x34.Part) ++ (⟨#[46]⟩ : ByteArray)).size + x34.Pin.size ≤ lim) <|
 grd (y33.size + ((((⟨#[32]⟩ : ByteArray) ++ x34.Part) ++ (⟨#[46]⟩ : ByteArray)) ++ x34.Pin).size ≤ lim) <|
 some (.go (y33 ++ ((((⟨#[32]⟩ : ByteArray) ++ x34.Part) ++ (⟨#[46]⟩ : ByteArray)) ++ x34.Pin))))
theorem ref_Text_b2_r (a0 : Netlist) (i23 : Nat) (x25 : Net) (i32 : Nat) (y33 : ByteArray) (o : Stp ByteArray (ByteArray × Int)) (hi : i32 < x25.Pins.length) (h : ref_Text_b2 a0 i23 x25 i32 y33 = some o) :
    Runs PG 89 0 ref_Text_c2 (ref_Text_F2 a0 i23 x25 i32 y33) (ref_Text_H2 a0 i23 x25 i32 y33) (stpOc (fun s' => .nor (ref_Text_F2 a0 i23 x25 (i32 + 1) s') (ref_Text_H2 a0 i23 x25 (i32 + 1) s')) (ref_Text_B2 a0 i23 x25) ref_Text_R o) := by
  unfold ref_Text_b2 at h
  refine Runs.len (s := 56) (sz := 2) (xs := List.map e_Pin x25.Pins) (by kernel_rfl) fun hl => ?_
  have hM : x25.Pins.length ≤ lim := len_of hl
  obtain ⟨x34, h35, h⟩ := bnd_e h
  obtain ⟨v36, h37, h⟩ := bnd1_e h
  let q44_f : Fr := [(4, sA y33), (10, .t (.v (.ptr 0 0))), (40, lA 3 (List.map e_Net a0.Nets)), (41, iA (a0.Nets.length : Int)), (42, iA (i23 : Int)), (56, lA 2 (List.map e_Pin x25.Pins)), (57, iA (x25.Pins.length : Int)), (58, iA (i32 : Int))]
  let q44_g : Hp := [(0, .cells 28 [.c (sC x34.Part), .c (sC x34.Pin)])]
  let q44_f' : Fr := [(4, sA y33), (10, .t (.v (.ptr 0 0))), (40, lA 3 (List.map e_Net a0.Nets)), (41, iA (a0.Nets.length : Int)), (42, iA (i23 : Int)), (56, lA 2 (List.map e_Pin x25.Pins)), (57, iA (x25.Pins.length : Int)), (58, iA (i32 : Int)), (71, bA v36)]
  let q44_g' : Hp := [(0, .cells 28 [.c (sC x34.Part), .c (sC x34.Pin)])]
  have R38 : Runs PG 89 0 (cL (cL (cR (cL (cL (cR (cR ref_Text_c2))))))) q44_f q44_g (.nor q44_f' q44_g') := by
    obtain ⟨r39, h40, h37⟩ := bnd_e h37
    rcases cnd_e h37 with ⟨h41, h37⟩ | ⟨h41, h37⟩
    · have h37 := Option.some.inj h37
      subst h37
      exact Runs.path XTok PGmix [.r [.val (bA r39), .b true, .b true, .b true, .b true, .b true]] [] (an (ref_isListWord_ok x34.Part r39 h40) (an h41 (an h41 (an h41 (an h41 h41))))) (by kernel_rfl)
    · obtain ⟨r42, h43, h37⟩ := bnd_e h37
      have h37 := Option.some.inj h37
      subst h37
      exact Runs.path XTok PGmix [.r [.val (bA r39), .b false, .b false, .b false, .val (bA r42), .b false, .b false]] [] (an (ref_isListWord_ok x34.Part r39 h40) (an h41 (an h41 (an h41 (an (ref_isListWord_ok x34.Pin r42 h43) (an h41 h41)))))) (by kernel_rfl)
  rcases cnd_e h with ⟨h45, h⟩ | ⟨h45, h⟩
  · have h := Option.some.inj h
    subst h
    exact Runs.path XTok PGmix [.r [], .b true, .r [.el (e_Pin x34), .id 0], .s q44_f q44_g [] (.nor q44_f' q44_g'), .b true, .r []] [] (an (lt_true hi) (an (idx_ok e_Pin h35) (an R38 h45))) (by kernel_rfl)
  · obtain ⟨h46, h⟩ := grd_e h
    obtain ⟨h47, h⟩ := grd_e h
    obtain ⟨h48, h⟩ := grd_e h
    obtain ⟨h49, h⟩ := grd_e h
    have h := Option.some.inj h
    subst h
    exact Runs.path XTok PGmix [.r [], .b true, .r [.el (e_Pin x34), .id 0], .s q44_f q44_g [] (.nor q44_f' q44_g'), .b false, .r [], .r [.eq 81 (iA ((i32 + 1 : Nat) : Int))]] [] (an (lt_true hi) (an (idx_ok e_Pin h35) (an R38 (an h45 (an h46 (an h47 (an h48 (an h49 (wrap_eq hi hM))))))))) (by kernel_rfl)
theorem ref_Text_b2_e (a0 : Netlist) (i23 : Nat) (x25 : Net) (y33 : ByteArray) : Runs PG 89 0 ref_Text_c2 (ref_Text_F2 a0 i23 x25 (x25.Pins.length) y33) (ref_Text_H2 a0 i23 x25 (x25.Pins.length) y33) (ref_Text_B2 a0 i23 x25 y33) := by
  exact Runs.path XTok PGmix [.r [], .b false] [] (lt_false (x25.Pins.length)) (by kernel_rfl)
theorem ref_Text_l2 (a0 : Netlist) (i23 : Nat) (x25 : Net) (y33 : ByteArray) (r : Fin' ByteArray (ByteArray × Int)) (h : forN (fun i32 s => ref_Text_b2 a0 i23 x25 i32 s) (x25.Pins.length) 0 y33 = some r) : Runs PG 89 0 (cL (cR (cL (cR (cR (cR (cL (cL (cR (cR ref_Text_c1)))))))))) (ref_Text_F2 a0 i23 x25 0 y33) (ref_Text_H2 a0 i23 x25 0 y33) (finOc (ref_Text_B2 a0 i23 x25) ref_Text_R r) :=
  Runs.loop' (by kernel_rfl) (forN_rounds (σ := ByteArray) (ρ := (ByteArray × Int)) (body := fun i32 s => ref_Text_b2 a0 i23 x25 i32 s) (F := fun i32 s => ref_Text_F2 a0 i23 x25 i32 s) (H := fun i32 s => ref_Text_H2 a0 i23 x25 i32 s) (B := ref_Text_B2 a0 i23 x25) (R := ref_Text_R) (M := x25.Pins.length) (fun _ => rfl) (fun _ => rfl) (fun s => ref_Text_b2_e a0 i23 x25 s) (fun i s o hi h => ref_Text_b2_r a0 i23 x25 i s o hi h) _ 0 _ r (Nat.zero_add _) h)
noncomputable def ref_Text_F1 (a0 : Netlist) (i23 : Nat) (y24 : ByteArray) : Fr := [(4, sA y24), (40, lA 3 (List.map e_Net a0.Nets)), (41, iA (a0.Nets.length : Int)), (42, iA (i23 : Int))]
noncomputable def ref_Text_H1 (a0 : Netlist) (i23 : Nat) (y24 : ByteArray) : Hp := []
noncomputable def ref_Text_B1 (a0 : Netlist) (s : ByteArray) : Oc := .ex 2 [(4, sA s)] []
noncomputable def ref_Text_b1 (a0 : Netlist) (i23 : Nat) (y24 : ByteArray) : Option (Stp ByteArray (ByteArray × Int)) :=
 bnd (atI a0.Nets (i23 : Int)) fun x25 =>
 bnd (ref_isListWord x25.Name) fun r27 =>
 cnd (!r27) (some (.ret ((⟨#[]⟩ : ByteArray), 3))) (grd ((⟨#[110, 101, 116, 32]⟩ : ByteArray).size + x25.Name.size ≤ lim) <|
 grd (y24.size + ((⟨#[110, 101, 116, 32]⟩ : ByteArray) ++ x25.Name).size ≤ lim) <|
 aft1 (forN (fun i32 s => ref_Text_b2 a0 i23 x25 i32 s) (x25.Pins.length) 0 (y24 ++ ((⟨#[110, 101, 116, 32]⟩ : ByteArray) ++ x25.Name))) (fun u50 =>
 grd (u50.size + (⟨#[10]⟩ : ByteArray).size ≤ lim) <|
 some (.go (u50 ++ (⟨#[10]⟩ : ByteArray))))
 (fun r52 =>
 some (.ret r52)))
theorem ref_Text_b1_r (a0 : Netlist) (i23 : Nat) (y24 : ByteArray) (o : Stp ByteArray (ByteArray × Int)) (hi : i23 < a0.Nets.length) (h : ref_Text_b1 a0 i23 y24 = some o) :
    Runs PG 89 0 ref_Text_c1 (ref_Text_F1 a0 i23 y24) (ref_Text_H1 a0 i23 y24) (stpOc (fun s' => .nor (ref_Text_F1 a0 (i23 + 1) s') (ref_Text_H1 a0 (i23 + 1) s')) (ref_Text_B1 a0) ref_Text_R o) := by
  unfold ref_Text_b1 at h
  refine Runs.len (s := 40) (sz := 3) (xs := List.map e_Net a0.Nets) (by kernel_rfl) fun hl => ?_
  have hM : a0.Nets.length ≤ lim := len_of hl
  obtain ⟨x25, h26, h⟩ := bnd_e h
  obtain ⟨r27, h28, h⟩ := bnd_e h
  rcases cnd_e h with ⟨h29, h⟩ | ⟨h29, h⟩
  · have h := Option.some.inj h
    subst h
    exact Runs.path XTok PGmix [.r [], .b true, .r [.el (e_Net x25), .id 0], .r [.val (bA r27)], .b true, .r []] [] (an (lt_true hi) (an (idx_ok e_Net h26) (an (ref_isListWord_ok x25.Name r27 h28) h29))) (by kernel_rfl)
  · obtain ⟨h30, h⟩ := grd_e h
    obtain ⟨h31, h⟩ := grd_e h
    rcases aft1_e h with ⟨u50, h51, h⟩ | ⟨r52, h51, h⟩
    · obtain ⟨h53, h⟩ := grd_e h
      have h := Option.some.inj h
      subst h
      exact Runs.path XTok PGmix [.r [], .b true, .r [.el (e_Net x25), .id 0], .r [.val (bA r27)], .b false, .r [], .r [.eq 57 (iA (x25.Pins.length : Int))], .s (ref_Text_F2 a0 i23 x25 0 (y24 ++ ((⟨#[110, 101, 116, 32]⟩ : ByteArray) ++ x25.Name))) (ref_Text_H2 a0 i23 x25 0 (y24 ++ ((⟨#[110, 101, 116, 32]⟩ : ByteArray) ++ x25.Name))) [] (ref_Text_B2 a0 i23 x25 u50), .r [], .r [.eq 84 (iA ((i23 + 1 : Nat) : Int))]] [] (an (lt_true hi) (an (idx_ok e_Net h26) (an (ref_isListWord_ok x25.Name r27 h28) (an h29 (an h30 (an h31 (an (leni_eq e_Pin x25.Pins) (an (ref_Text_l2 a0 i23 x25 (y24 ++ ((⟨#[110, 101, 116, 32]⟩ : ByteArray) ++ x25.Name)) (.fin u50) h51) (an h53 (wrap_eq hi hM)))))))))) (by kernel_rfl)
    · have h := Option.some.inj h
      subst h
      exact Runs.path XTok PGmix [.r [], .b true, .r [.el (e_Net x25), .id 0], .r [.val (bA r27)], .b false, .r [], .r [.eq 57 (iA (x25.Pins.length : Int))], .s (ref_Text_F2 a0 i23 x25 0 (y24 ++ ((⟨#[110, 101, 116, 32]⟩ : ByteArray) ++ x25.Name))) (ref_Text_H2 a0 i23 x25 0 (y24 ++ ((⟨#[110, 101, 116, 32]⟩ : ByteArray) ++ x25.Name))) [] (ref_Text_R r52)] [] (an (lt_true hi) (an (idx_ok e_Net h26) (an (ref_isListWord_ok x25.Name r27 h28) (an h29 (an h30 (an h31 (an (leni_eq e_Pin x25.Pins) (ref_Text_l2 a0 i23 x25 (y24 ++ ((⟨#[110, 101, 116, 32]⟩ : ByteArray) ++ x25.Name)) (.ret r52) h51)))))))) (by kernel_rfl)
theorem ref_Text_b1_e (a0 : Netlist) (y24 : ByteArray) : Runs PG 89 0 ref_Text_c1 (ref_Text_F1 a0 (a0.Nets.length) y24) (ref_Text_H1 a0 (a0.Nets.length) y24) (ref_Text_B1 a0 y24) := by
  exact Runs.path XTok PGmix [.r [], .b false] [] (lt_false (a0.Nets.length)) (by kernel_rfl)
theorem ref_Text_l1 (a0 : Netlist) (y24 : ByteArray) (r : Fin' ByteArray (ByteArray × Int)) (h : forN (fun i23 s => ref_Text_b1 a0 i23 s) (a0.Nets.length) 0 y24 = some r) : Runs PG 89 0 (cL (cR (cL (cR (cR (cR ref_Text_c)))))) (ref_Text_F1 a0 0 y24) (ref_Text_H1 a0 0 y24) (finOc (ref_Text_B1 a0) ref_Text_R r) :=
  Runs.loop' (by kernel_rfl) (forN_rounds (σ := ByteArray) (ρ := (ByteArray × Int)) (body := fun i23 s => ref_Text_b1 a0 i23 s) (F := fun i23 s => ref_Text_F1 a0 i23 s) (H := fun i23 s => ref_Text_H1 a0 i23 s) (B := ref_Text_B1 a0) (R := ref_Text_R) (M := a0.Nets.length) (fun _ => rfl) (fun _ => rfl) (fun s => ref_Text_b1_e a0 s) (fun i s o hi h => ref_Text_b1_r a0 i s o hi h) _ 0 _ r (Nat.zero_add _) h)
noncomputable def ref_Text (a0 : Netlist) : Option (ByteArray × Int) :=
 aft1 (forN (fun i1 s => ref_Text_b0 a0 i1 s) (a0.Parts.length) 0 (⟨#[]⟩ : ByteArray)) (fun u20 =>
 aft1 (forN (fun i23 s => ref_Text_b1 a0 i23 s) (a0.Nets.length) 0 u20) (fun u54 =>
 cnd (decide ((u54.size : Int) > 2000000)) (some ((⟨#[]⟩ : ByteArray), 2)) (some (u54, 0)))
 (fun r56 =>
 some r56))
 (fun r22 =>
 some r22)
theorem ref_Text_ok (a0 : Netlist) (r : ByteArray × Int) (h : ref_Text a0 = some r) : Spec PG 34 [gT (e_Netlist a0)] [] (.tup [sT r.1, iT r.2]) [] := by
  unfold ref_Text at h
  rcases aft1_e h with ⟨u20, h21, h⟩ | ⟨r22, h21, h⟩
  · rcases aft1_e h with ⟨u54, h55, h⟩ | ⟨r56, h55, h⟩
    · rcases cnd_e h with ⟨h57, h⟩ | ⟨h57, h⟩
      · have h := Option.some.inj h
        subst h
        exact Spec.path XTok PGmix ref_Text_fn 0 [.r [.id 0], .r [], .r [.eq 13 (iA (a0.Parts.length : Int))], .s (ref_Text_F0 a0 0 (⟨#[]⟩ : ByteArray)) (ref_Text_H0 a0 0 (⟨#[]⟩ : ByteArray)) [] (ref_Text_B0 a0 u20), .r [.eq 41 (iA (a0.Nets.length : Int))], .s (ref_Text_F1 a0 0 u20) (ref_Text_H1 a0 0 u20) [] (ref_Text_B1 a0 u54), .r [], .b true, .r []] (an (leni_eq e_Part a0.Parts) (an (ref_Text_l0 a0 (⟨#[]⟩ : ByteArray) (.fin u20) h21) (an (leni_eq e_Net a0.Nets) (an (ref_Text_l1 a0 u20 (.fin u54) h55) h57)))) (by kernel_rfl)
      · have h := Option.some.inj h
        subst h
        exact Spec.path XTok PGmix ref_Text_fn 0 [.r [.id 0], .r [], .r [.eq 13 (iA (a0.Parts.length : Int))], .s (ref_Text_F0 a0 0 (⟨#[]⟩ : ByteArray)) (ref_Text_H0 a0 0 (⟨#[]⟩ : ByteArray)) [] (ref_Text_B0 a0 u20), .r [.eq 41 (iA (a0.Nets.length : Int))], .s (ref_Text_F1 a0 0 u20) (ref_Text_H1 a0 0 u20) [] (ref_Text_B1 a0 u54), .r [], .b false, .r []] (an (leni_eq e_Part a0.Parts) (an (ref_Text_l0 a0 (⟨#[]⟩ : ByteArray) (.fin u20) h21) (an (leni_eq e_Net a0.Nets) (an (ref_Text_l1 a0 u20 (.fin u54) h55) h57)))) (by kernel_rfl)
    · have h := Option.some.inj h
      subst h
      exact Spec.path XTok PGmix ref_Text_fn 0 [.r [.id 0], .r [], .r [.eq 13 (iA (a0.Parts.length : Int))], .s (ref_Text_F0 a0 0 (⟨#[]⟩ : ByteArray)) (ref_Text_H0 a0 0 (⟨#[]⟩ : ByteArray)) [] (ref_Text_B0 a0 u20), .r [.eq 41 (iA (a0.Nets.length : Int))], .s (ref_Text_F1 a0 0 u20) (ref_Text_H1 a0 0 u20) [] (ref_Text_R r56)] (an (leni_eq e_Part a0.Parts) (an (ref_Text_l0 a0 (⟨#[]⟩ : ByteArray) (.fin u20) h21) (an (leni_eq e_Net a0.Nets) (ref_Text_l1 a0 u20 (.ret r56) h55)))) (by kernel_rfl)
  · have h := Option.some.inj h
    subst h
    exact Spec.path XTok PGmix ref_Text_fn 0 [.r [.id 0], .r [], .r [.eq 13 (iA (a0.Parts.length : Int))], .s (ref_Text_F0 a0 0 (⟨#[]⟩ : ByteArray)) (ref_Text_H0 a0 0 (⟨#[]⟩ : ByteArray)) [] (ref_Text_R r22)] (an (leni_eq e_Part a0.Parts) (ref_Text_l0 a0 (⟨#[]⟩ : ByteArray) (.ret r22) h21)) (by kernel_rfl)

noncomputable def law_NetlistTextsMatchSpec_c : Code := (Go.Proofs.Tryd.f9.body).getD .skip
theorem law_NetlistTextsMatchSpec_fn : FnOk PG 9 law_NetlistTextsMatchSpec_c 66 [.tmp 2] := ⟨⟨Go.Proofs.Tryd.f9, by kernel_rfl, by kernel_rfl, by kernel_rfl, by kernel_rfl, by kernel_rfl⟩⟩
noncomputable def law_NetlistTextsMatchSpec_c0 : Code := cL (cL (cR (cL (cR (cR (cR (cR (cR law_NetlistTextsMatchSpec_c))))))))
noncomputable def law_NetlistTextsMatchSpec_R (r : Bool) : Oc := .ret [(2, bA r)] []
noncomputable def law_NetlistTextsMatchSpec_F0 (a0 : Netlist) (r1 : ByteArray × Int) (i15 : Nat) : Fr := [(1, .t (.v (.ptr 0 0))), (3, sA r1.1), (35, lA 3 (List.map e_Net a0.Nets)), (36, iA (a0.Nets.length : Int)), (37, iA (i15 : Int))]
noncomputable def law_NetlistTextsMatchSpec_H0 (a0 : Netlist) (r1 : ByteArray × Int) (i15 : Nat) : Hp := [(0, .cells 26 [.c (.sl 2 (List.map e_Part a0.Parts)), .c (.sl 3 (List.map e_Net a0.Nets))])]
noncomputable def law_NetlistTextsMatchSpec_B0 (a0 : Netlist) (r1 : ByteArray × Int) (s : Unit) : Oc := .ex 0 [(1, .t (.v (.ptr 0 0))), (3, sA r1.1)] [(0, .cells 26 [.c (.sl 2 (List.map e_Part a0.Parts)), .c (.sl 3 (List.map e_Net a0.Nets))])]
noncomputable def law_NetlistTextsMatchSpec_b0 (a0 : Netlist) (r1 : ByteArray × Int) (i15 : Nat) : Option (Stp Unit Bool) :=
 bnd (atI a0.Nets (i15 : Int)) fun x16 =>
 cnd (decide ((x16.Ports.length : Int) > 0)) (some (.ret true)) (some (.go ()))
theorem law_NetlistTextsMatchSpec_b0_r (a0 : Netlist) (r1 : ByteArray × Int) (i15 : Nat) (o : Stp Unit Bool) (hi : i15 < a0.Nets.length) (h : law_NetlistTextsMatchSpec_b0 a0 r1 i15 = some o) :
    Runs PG 66 0 law_NetlistTextsMatchSpec_c0 (law_NetlistTextsMatchSpec_F0 a0 r1 i15 ) (law_NetlistTextsMatchSpec_H0 a0 r1 i15 ) (stpOc (fun s' => .nor (law_NetlistTextsMatchSpec_F0 a0 r1 (i15 + 1) ) (law_NetlistTextsMatchSpec_H0 a0 r1 (i15 + 1) )) (law_NetlistTextsMatchSpec_B0 a0 r1) law_NetlistTextsMatchSpec_R o) := by
  unfold law_NetlistTextsMatchSpec_b0 at h
  refine Runs.len (s := 35) (sz := 3) (xs := List.map e_Net a0.Nets) (by kernel_rfl) fun hl => ?_
  have hM : a0.Nets.length ≤ lim := len_of hl
  obtain ⟨x16, h17, h⟩ := bnd_e h
  rcases cnd_e h with ⟨h18, h⟩ | ⟨h18, h⟩
  · have h := Option.some.inj h
    subst h
    exact Runs.path XTok PGmix [.r [], .b true, .r [], .r [.el (e_Net x16), .eq 46 (iA (x16.Ports.length : Int))], .b true, .r []] [] (an (lt_true hi) (an (idx_ok e_Net h17) (an (leni_eq e_str x16.Ports) h18))) (by kernel_rfl)
  · have h := Option.some.inj h
    subst h
    exact Runs.path XTok PGmix [.r [], .b true, .r [], .r [.el (e_Net x16), .eq 46 (iA (x16.Ports.length : Int))], .b false, .r [.eq 48 (iA ((i15 + 1 : Nat) : Int))]] [] (an (lt_true hi) (an (idx_ok e_Net h17) (an (leni_eq e_str x16.Ports) (an h18 (wrap_eq hi hM))))) (by kernel_rfl)
theorem law_NetlistTextsMatchSpec_b0_e (a0 : Netlist) (r1 : ByteArray × Int) : Runs PG 66 0 law_NetlistTextsMatchSpec_c0 (law_NetlistTextsMatchSpec_F0 a0 r1 (a0.Nets.length) ) (law_NetlistTextsMatchSpec_H0 a0 r1 (a0.Nets.length) ) (law_NetlistTextsMatchSpec_B0 a0 r1 ()) := by
  exact Runs.path XTok PGmix [.r [], .b false] [] (lt_false (a0.Nets.length)) (by kernel_rfl)
theorem law_NetlistTextsMatchSpec_l0 (a0 : Netlist) (r1 : ByteArray × Int) (r : Fin' Unit Bool) (h : forN (fun i15 s => law_NetlistTextsMatchSpec_b0 a0 r1 i15 ) (a0.Nets.length) 0 () = some r) : Runs PG 66 0 (cL (cR (cL (cR (cR (cR (cR (cR law_NetlistTextsMatchSpec_c)))))))) (law_NetlistTextsMatchSpec_F0 a0 r1 0 ) (law_NetlistTextsMatchSpec_H0 a0 r1 0 ) (finOc (law_NetlistTextsMatchSpec_B0 a0 r1) law_NetlistTextsMatchSpec_R r) :=
  Runs.loop' (by kernel_rfl) (forN_rounds (σ := Unit) (ρ := Bool) (body := fun i15 s => law_NetlistTextsMatchSpec_b0 a0 r1 i15 ) (F := fun i15 s => law_NetlistTextsMatchSpec_F0 a0 r1 i15 ) (H := fun i15 s => law_NetlistTextsMatchSpec_H0 a0 r1 i15 ) (B := law_NetlistTextsMatchSpec_B0 a0 r1) (R := law_NetlistTextsMatchSpec_R) (M := a0.Nets.length) (fun _ => rfl) (fun _ => rfl) (fun s => law_NetlistTextsMatchSpec_b0_e a0 r1 ) (fun i s o hi h => law_NetlistTextsMatchSpec_b0_r a0 r1 i o hi h) _ 0 _ r (Nat.zero_add _) h)
noncomputable def law_NetlistTextsMatchSpec (a0 : Netlist) : Option Bool :=
 bnd (nl_Text a0) fun r1 =>
 bnd (ref_Text a0) fun r3 =>
 bnd1 (cnd (r1.2 != r3.2) (some true) (cnd (sNe r1.1 r3.1) (some true) (bnd (law_awake ) fun r10 =>
 some (!r10)))) fun v5 =>
 cnd v5 (some false) (cnd (r1.2 != 0) (some true) (aft0 (forN (fun i15 s => law_NetlistTextsMatchSpec_b0 a0 r1 i15 ) (a0.Nets.length) 0 ()) (
 bnd (nl_Read r1.1) fun r21 =>
 bnd1 (cnd (r21.2.2 == 0) (cnd (r21.2.1 == 0) (bnd (ref_Same a0 r21.1) fun r28 =>
 some r28) (some false)) (some false)) fun v23 =>
 some v23)
 (fun r20 =>
 some r20)))
theorem law_NetlistTextsMatchSpec_ok (a0 : Netlist) (r : Bool) (h : law_NetlistTextsMatchSpec a0 = some r) : Spec PG 9 [gT (e_Netlist a0)] [] (bA r) [] := by
  unfold law_NetlistTextsMatchSpec at h
  obtain ⟨r1, h2, h⟩ := bnd_e h
  obtain ⟨r3, h4, h⟩ := bnd_e h
  obtain ⟨v5, h6, h⟩ := bnd1_e h
  let q12_f : Fr := [(1, .t (.v (.ptr 0 0))), (3, sA r1.1), (4, iA r1.2), (5, sA r3.1), (6, iA r3.2)]
  let q12_g : Hp := [(0, .cells 26 [.c (.sl 2 (List.map e_Part a0.Parts)), .c (.sl 3 (List.map e_Net a0.Nets))])]
  let q12_f' : Fr := [(1, .t (.v (.ptr 0 0))), (3, sA r1.1), (4, iA r1.2), (31, bA v5)]
  let q12_g' : Hp := [(0, .cells 26 [.c (.sl 2 (List.map e_Part a0.Parts)), .c (.sl 3 (List.map e_Net a0.Nets))])]
  have R7 : Runs PG 66 0 (cL (cL (cR (cR (cR law_NetlistTextsMatchSpec_c))))) q12_f q12_g (.nor q12_f' q12_g') := by
    rcases cnd_e h6 with ⟨h8, h6⟩ | ⟨h8, h6⟩
    · have h6 := Option.some.inj h6
      subst h6
      exact Runs.path XTok PGmix [.r [.b true, .b true, .b true, .b true, .b true, .b true, .b true]] [] (an h8 (an h8 (an h8 (an h8 (an (Eq.refl true) (an (Eq.refl true) (Eq.refl true))))))) (by kernel_rfl)
    · rcases cnd_e h6 with ⟨h9, h6⟩ | ⟨h9, h6⟩
      · have h6 := Option.some.inj h6
        subst h6
        exact Runs.path XTok PGmix [.r [.b false, .b false, .b false, .b false, .b true, .b true, .b true]] [] (an h8 (an h8 (an h8 (an h8 (an h9 (an h9 h9)))))) (by kernel_rfl)
      · obtain ⟨r10, h11, h6⟩ := bnd_e h6
        have h6 := Option.some.inj h6
        subst h6
        exact Runs.path XTok PGmix [.r [.b false, .b false, .b false, .b false, .b false, .val (bA r10), .b false, .b false]] [] (an h8 (an h8 (an h8 (an h8 (an h9 (an (law_awake_ok r10 h11) (an h9 h9))))))) (by kernel_rfl)
  rcases cnd_e h with ⟨h13, h⟩ | ⟨h13, h⟩
  · have h := Option.some.inj h
    subst h
    exact Spec.path XTok PGmix law_NetlistTextsMatchSpec_fn 0 [.r [.id 0], .r [.val (.tup [sT r1.1, iT r1.2])], .r [.val (.tup [sT r3.1, iT r3.2])], .s q12_f q12_g [] (.nor q12_f' q12_g'), .b true, .r []] (an (nl_Text_ok a0 r1 h2) (an (ref_Text_ok a0 r3 h4) (an R7 h13))) (by kernel_rfl)
  · rcases cnd_e h with ⟨h14, h⟩ | ⟨h14, h⟩
    · have h := Option.some.inj h
      subst h
      exact Spec.path XTok PGmix law_NetlistTextsMatchSpec_fn 0 [.r [.id 0], .r [.val (.tup [sT r1.1, iT r1.2])], .r [.val (.tup [sT r3.1, iT r3.2])], .s q12_f q12_g [] (.nor q12_f' q12_g'), .b false, .r [], .b true, .r []] (an (nl_Text_ok a0 r1 h2) (an (ref_Text_ok a0 r3 h4) (an R7 (an h13 h14)))) (by kernel_rfl)
    · rcases aft0_e h with ⟨h19, h⟩ | ⟨r20, h19, h⟩
      · obtain ⟨r21, h22, h⟩ := bnd_e h
        obtain ⟨v23, h24, h⟩ := bnd1_e h
        let q30_f : Fr := [(1, .t (.v (.ptr 0 0))), (4, iA r21.2.2), (8, .t (.v (.ptr 1 0))), (9, iA r21.2.1)]
        let q30_g : Hp := [(0, .cells 26 [.c (.sl 2 (List.map e_Part a0.Parts)), .c (.sl 3 (List.map e_Net a0.Nets))]), (1, .cells 26 [.c (.sl 2 (List.map e_Part r21.1.Parts)), .c (.sl 3 (List.map e_Net r21.1.Nets))])]
        let q30_f' : Fr := [(2, bA v23)]
        let q30_g' : Hp := []
        have R25 : Runs PG 66 0 (cL (cR (cR (cR (cR (cR (cR (cR law_NetlistTextsMatchSpec_c)))))))) q30_f q30_g (.nor q30_f' q30_g') := by
          rcases cnd_e h24 with ⟨h26, h24⟩ | ⟨h26, h24⟩
          · rcases cnd_e h24 with ⟨h27, h24⟩ | ⟨h27, h24⟩
            · obtain ⟨r28, h29, h24⟩ := bnd_e h24
              have h24 := Option.some.inj h24
              subst h24
              exact Runs.path XTok PGmix [.r [.b true, .b true, .b true, .b true, .b true, .b true, .val (bA r28), .b true]] [] (an h26 (an h26 (an h26 (an h27 (an h27 (an h27 (an (ref_Same_ok a0 r21.1 r28 h29) h27))))))) (by kernel_rfl)
            · have h24 := Option.some.inj h24
              subst h24
              exact Runs.path XTok PGmix [.r [.b true, .b true, .b true, .b false, .b false, .b false, .b false]] [] (an h26 (an h26 (an h26 (an h27 (an h27 (an h27 h27)))))) (by kernel_rfl)
          · have h24 := Option.some.inj h24
            subst h24
            exact Runs.path XTok PGmix [.r [.b false, .b false, .b false, .b false, .b false, .b false, .b false]] [] (an h26 (an h26 (an h26 (an (Eq.refl false) (an (Eq.refl false) (an (Eq.refl false) (Eq.refl false))))))) (by kernel_rfl)
        have h := Option.some.inj h
        subst h
        exact Spec.path XTok PGmix law_NetlistTextsMatchSpec_fn 0 [.r [.id 0], .r [.val (.tup [sT r1.1, iT r1.2])], .r [.val (.tup [sT r3.1, iT r3.2])], .s q12_f q12_g [] (.nor q12_f' q12_g'), .b false, .r [], .b false, .r [.eq 36 (iA (a0.Nets.length : Int))], .s (law_NetlistTextsMatchSpec_F0 a0 r1 0 ) (law_NetlistTextsMatchSpec_H0 a0 r1 0 ) [] (law_NetlistTextsMatchSpec_B0 a0 r1 ()), .r [.val (.tup [gT (e_Netlist r21.1), iT r21.2.1, iT r21.2.2]), .id 1], .s q30_f q30_g [] (.nor q30_f' q30_g')] (an (nl_Text_ok a0 r1 h2) (an (ref_Text_ok a0 r3 h4) (an R7 (an h13 (an h14 (an (leni_eq e_Net a0.Nets) (an (law_NetlistTextsMatchSpec_l0 a0 r1 (.fin ()) h19) (an (nl_Read_ok r1.1 r21 h22) R25)))))))) (by kernel_rfl)
      · have h := Option.some.inj h
        subst h
        exact Spec.path XTok PGmix law_NetlistTextsMatchSpec_fn 0 [.r [.id 0], .r [.val (.tup [sT r1.1, iT r1.2])], .r [.val (.tup [sT r3.1, iT r3.2])], .s q12_f q12_g [] (.nor q12_f' q12_g'), .b false, .r [], .b false, .r [.eq 36 (iA (a0.Nets.length : Int))], .s (law_NetlistTextsMatchSpec_F0 a0 r1 0 ) (law_NetlistTextsMatchSpec_H0 a0 r1 0 ) [] (law_NetlistTextsMatchSpec_R r20)] (an (nl_Text_ok a0 r1 h2) (an (ref_Text_ok a0 r3 h4) (an R7 (an h13 (an h14 (an (leni_eq e_Net a0.Nets) (law_NetlistTextsMatchSpec_l0 a0 r1 (.ret r20) h19))))))) (by kernel_rfl)
end Go.Proofs.YtlbndchfmdogeaaDoor.Sym
