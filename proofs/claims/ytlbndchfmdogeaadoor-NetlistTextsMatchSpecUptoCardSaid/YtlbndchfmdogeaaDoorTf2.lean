/- Printed by gen2.py: the plain forms of functions, and that calling them gives what these give. Conditions: none. -/
import Derived.Test.YtlbndchfmdogeaaDoorTf1
set_option linter.unusedVariables false
set_option maxHeartbeats 4000000
namespace Go.Proofs.YtlbndchfmdogeaaDoor.Sym
open Go Go.RowKit
noncomputable def nl_CheckList_1_c : Code := (Go.Proofs.Tryd.f51.body).getD .skip
theorem nl_CheckList_1_fn : FnOk PG 51 nl_CheckList_1_c 10 [.tmp 4] := ⟨⟨Go.Proofs.Tryd.f51, by kernel_rfl, by kernel_rfl, by kernel_rfl, by kernel_rfl, by kernel_rfl⟩⟩
noncomputable def nl_CheckList_1 (a0 : Pin) (a1 : List PartType) (a2 : Netlist) : Option Bool :=
 bnd (nl_hasPin a1 a2.Parts a0) fun r1 =>
 some r1
theorem nl_CheckList_1_ok (a0 : Pin) (a1 : List PartType) (a2 : Netlist) (r : Bool) (h : nl_CheckList_1 a0 a1 a2 = some r) : Spec PG 51 [gT (e_Pin a0), .v (.c (.ptr [.sl 2 (List.map e_PartType a1)])), .v (.c (.ptr (e_Netlist a2)))] [] (bA r) [] := by
  unfold nl_CheckList_1 at h
  obtain ⟨r1, h2, h⟩ := bnd_e h
  have h := Option.some.inj h
  subst h
  exact Spec.path XTok PGmix nl_CheckList_1_fn 0 [.r [.id 0], .r [.val (bA r1)]] (nl_hasPin_ok a1 a2.Parts a0 r1 h2) (by kernel_rfl)

noncomputable def nl_CheckList_c : Code := (Go.Proofs.Tryd.f15.body).getD .skip
theorem nl_CheckList_fn : FnOk PG 15 nl_CheckList_c 71 [.tmp 4] := ⟨⟨Go.Proofs.Tryd.f15, by kernel_rfl, by kernel_rfl, by kernel_rfl, by kernel_rfl, by kernel_rfl⟩⟩
noncomputable def nl_CheckList_c0 : Code := cL (cL (cR (cL (cR (cR (cR (cR (cR nl_CheckList_c))))))))
noncomputable def nl_CheckList_R (r : Int) : Oc := .ret [(4, iA r)] []
noncomputable def nl_CheckList_F0 (a0 : List PartType) (a1 : Netlist) (i8 : Nat) (y9 : List (Pin × Bool)) : Fr := [(2, .t (.v (.c (.ptr [.sl 2 (List.map e_PartType a0)])))), (3, .t (.v (.c (.ptr (e_Netlist a1))))), (7, .t (.v (.rt 2))), (29, lA 3 (List.map e_Net a1.Nets)), (30, iA (a1.Nets.length : Int)), (31, iA (i8 : Int))]
noncomputable def nl_CheckList_H0 (a0 : List PartType) (a1 : Netlist) (i8 : Nat) (y9 : List (Pin × Bool)) : Hp := [(2, .map (keys PG 28) (encM kv_Pin dv_bool y9))]
noncomputable def nl_CheckList_B0 (a0 : List PartType) (a1 : Netlist) (s : (List (Pin × Bool))) : Oc := .ex 0 [] []
noncomputable def nl_CheckList_b0 (a0 : List PartType) (a1 : Netlist) (i8 : Nat) (y9 : List (Pin × Bool)) : Option (Stp (List (Pin × Bool)) Int) :=
 bnd (atI a1.Nets (i8 : Int)) fun x10 =>
 bnd (nl_IsPath x10.Name) fun r12 =>
 cnd (!r12) (some (.ret 5)) (cnd ((x10.Pins.length : Int) == 0) (some (.ret 9)) (bnd (nl_checkNetPins x10.Pins (fun z0 => nl_CheckList_1 z0 a0 a1) y9) fun r16 =>
 cnd (r16.1 != 0) (some (.ret r16.1)) (cnd (decide ((x10.Ports.length : Int) > 0)) (some (.ret 3)) (bnd1 (cnd (decide ((i8 : Int) > 0)) (bnd (atI a1.Nets (w64 ((i8 : Int) - 1))) fun x24 =>
 some (sLe x10.Name x24.Name)) (some false)) fun v20 =>
 cnd v20 (some (.ret 8)) (some (.go r16.2))))))
theorem nl_CheckList_b0_r (a0 : List PartType) (a1 : Netlist) (i8 : Nat) (y9 : List (Pin × Bool)) (o : Stp (List (Pin × Bool)) Int) (hi : i8 < a1.Nets.length) (h : nl_CheckList_b0 a0 a1 i8 y9 = some o) :
    Runs PG 71 0 nl_CheckList_c0 (nl_CheckList_F0 a0 a1 i8 y9) (nl_CheckList_H0 a0 a1 i8 y9) (stpOc (fun s' => .nor (nl_CheckList_F0 a0 a1 (i8 + 1) s') (nl_CheckList_H0 a0 a1 (i8 + 1) s')) (nl_CheckList_B0 a0 a1) nl_CheckList_R o) := by
  unfold nl_CheckList_b0 at h
  refine Runs.len (s := 29) (sz := 3) (xs := List.map e_Net a1.Nets) (by kernel_rfl) fun hl => ?_
  have hM : a1.Nets.length ≤ lim := len_of hl
  obtain ⟨x10, h11, h⟩ := bnd_e h
  obtain ⟨r12, h13, h⟩ := bnd_e h
  rcases cnd_e h with ⟨h14, h⟩ | ⟨h14, h⟩
  · have h := Option.some.inj h
    subst h
    exact Runs.path XTok PGmix [.r [], .b true, .r [.el (e_Net x10), .id 3], .r [.val (bA r12)], .b true, .r []] [] (an (lt_true hi) (an (idx_ok e_Net h11) (an (nl_IsPath_ok x10.Name r12 h13) h14))) (by kernel_rfl)
  · rcases cnd_e h with ⟨h15, h⟩ | ⟨h15, h⟩
    · have h := Option.some.inj h
      subst h
      exact Runs.path XTok PGmix [.r [], .b true, .r [.el (e_Net x10), .id 3], .r [.val (bA r12)], .b false, .r [.eq 42 (iA (x10.Pins.length : Int))], .b true, .r []] [] (an (lt_true hi) (an (idx_ok e_Net h11) (an (nl_IsPath_ok x10.Name r12 h13) (an h14 (an (leni_eq e_Pin x10.Pins) h15))))) (by kernel_rfl)
    · obtain ⟨r16, h17, h⟩ := bnd_e h
      rcases cnd_e h with ⟨h18, h⟩ | ⟨h18, h⟩
      · have h := Option.some.inj h
        subst h
        exact Runs.path XTok PGmix [.r [], .b true, .r [.el (e_Net x10), .id 3], .r [.val (bA r12)], .b false, .r [.eq 42 (iA (x10.Pins.length : Int))], .b false, .r [.call [(0, 2)] [lT 2 (List.map e_Pin x10.Pins), .v (.c (.fn 51 [.ptr [.sl 2 (List.map e_PartType a0)], .ptr (e_Netlist a1)])), .v (.rt 0)] [(0, .map (keys PG 28) (encM kv_Pin dv_bool y9))] (iA r16.1) [(0, .map (keys PG 28) (encM kv_Pin dv_bool r16.2))]], .r [], .b true, .r []] [] (an (lt_true hi) (an (idx_ok e_Net h11) (an (nl_IsPath_ok x10.Name r12 h13) (an h14 (an (leni_eq e_Pin x10.Pins) (an h15 (an (an (nl_checkNetPins_ok x10.Pins 51 [.ptr [.sl 2 (List.map e_PartType a0)], .ptr (e_Netlist a1)] (fun z0 => nl_CheckList_1 z0 a0 a1) (fun z0 r h => nl_CheckList_1_ok z0 a0 a1 r h) y9 r16 h17) (an (Eq.refl ([lT 2 (List.map e_Pin x10.Pins), .v (.c (.fn 51 [.ptr [.sl 2 (List.map e_PartType a0)], .ptr (e_Netlist a1)])), .v (.rt 2)] : List TV)) (Eq.refl (renH (asg [(0, 2)]) [(0, .map (keys PG 28) (encM kv_Pin dv_bool y9))])))) h18))))))) (by kernel_rfl)
      · rcases cnd_e h with ⟨h19, h⟩ | ⟨h19, h⟩
        · have h := Option.some.inj h
          subst h
          exact Runs.path XTok PGmix [.r [], .b true, .r [.el (e_Net x10), .id 3], .r [.val (bA r12)], .b false, .r [.eq 42 (iA (x10.Pins.length : Int))], .b false, .r [.call [(0, 2)] [lT 2 (List.map e_Pin x10.Pins), .v (.c (.fn 51 [.ptr [.sl 2 (List.map e_PartType a0)], .ptr (e_Netlist a1)])), .v (.rt 0)] [(0, .map (keys PG 28) (encM kv_Pin dv_bool y9))] (iA r16.1) [(0, .map (keys PG 28) (encM kv_Pin dv_bool r16.2))]], .r [], .b false, .r [.eq 54 (iA (x10.Ports.length : Int))], .b true, .r []] [] (an (lt_true hi) (an (idx_ok e_Net h11) (an (nl_IsPath_ok x10.Name r12 h13) (an h14 (an (leni_eq e_Pin x10.Pins) (an h15 (an (an (nl_checkNetPins_ok x10.Pins 51 [.ptr [.sl 2 (List.map e_PartType a0)], .ptr (e_Netlist a1)] (fun z0 => nl_CheckList_1 z0 a0 a1) (fun z0 r h => nl_CheckList_1_ok z0 a0 a1 r h) y9 r16 h17) (an (Eq.refl ([lT 2 (List.map e_Pin x10.Pins), .v (.c (.fn 51 [.ptr [.sl 2 (List.map e_PartType a0)], .ptr (e_Netlist a1)])), .v (.rt 2)] : List TV)) (Eq.refl (renH (asg [(0, 2)]) [(0, .map (keys PG 28) (encM kv_Pin dv_bool y9))])))) (an h18 (an (leni_eq e_str x10.Ports) h19))))))))) (by kernel_rfl)
        · obtain ⟨v20, h21, h⟩ := bnd1_e h
          let q26_f : Fr := [(2, .t (.v (.c (.ptr [.sl 2 (List.map e_PartType a0)])))), (3, .t (.v (.c (.ptr (e_Netlist a1))))), (7, .t (.v (.rt 2))), (8, iA (i8 : Int)), (9, .t (.v (.ptr 3 0))), (29, lA 3 (List.map e_Net a1.Nets)), (30, iA (a1.Nets.length : Int)), (31, iA (i8 : Int))]
          let q26_g : Hp := [(2, .map (keys PG 28) (encM kv_Pin dv_bool r16.2)), (3, .cells 64 [.c (sC x10.Name), .c (.sl 2 (List.map e_Pin x10.Pins)), .c (.sl 1 (List.map e_str x10.Ports))])]
          let q26_f' : Fr := [(2, .t (.v (.c (.ptr [.sl 2 (List.map e_PartType a0)])))), (3, .t (.v (.c (.ptr (e_Netlist a1))))), (7, .t (.v (.rt 2))), (29, lA 3 (List.map e_Net a1.Nets)), (30, iA (a1.Nets.length : Int)), (31, iA (i8 : Int)), (69, bA v20)]
          let q26_g' : Hp := [(2, .map (keys PG 28) (encM kv_Pin dv_bool r16.2))]
          have R22 : Runs PG 71 0 (cL (cR (cR (cR (cR (cR (cL (cL (cR (cR nl_CheckList_c0)))))))))) q26_f q26_g (.nor q26_f' q26_g') := by
            rcases cnd_e h21 with ⟨h23, h21⟩ | ⟨h23, h21⟩
            · obtain ⟨x24, h25, h21⟩ := bnd_e h21
              have h21 := Option.some.inj h21
              subst h21
              exact Runs.path XTok PGmix [.d [([], []), ([], []), ([], []), ([], [.b true]), ([3], [.b true]), ([], [.b true]), ([], [.b true]), ([], [.b true]), ([], [.b true]), ([], [.b true, .el (e_Net x24)]), ([], [.b true]), ([], [.b true]), ([], [.b true]), ([], [.b true])]] [] (an h23 (an h23 (an h23 (an h23 (an h23 (an h23 (an h23 (an (idx_ok e_Net h25) (an h23 (an h23 (an h23 h23))))))))))) (by kernel_rfl)
            · have h21 := Option.some.inj h21
              subst h21
              exact Runs.path XTok PGmix [.d [([], []), ([], []), ([], []), ([], [.b false]), ([], [.b false]), ([], [.b false]), ([], [.b false]), ([], [.b false]), ([], [.b false]), ([], [.b false]), ([], [.b false]), ([], [.b false]), ([], [.b false]), ([], [.b false])]] [] (an h23 (an h23 (an h23 (an h23 (an h23 (an h23 (an h23 (an h23 (an h23 (an h23 h23)))))))))) (by kernel_rfl)
          rcases cnd_e h with ⟨h27, h⟩ | ⟨h27, h⟩
          · have h := Option.some.inj h
            subst h
            exact Runs.path XTok PGmix [.r [], .b true, .r [.el (e_Net x10), .id 3], .r [.val (bA r12)], .b false, .r [.eq 42 (iA (x10.Pins.length : Int))], .b false, .r [.call [(0, 2)] [lT 2 (List.map e_Pin x10.Pins), .v (.c (.fn 51 [.ptr [.sl 2 (List.map e_PartType a0)], .ptr (e_Netlist a1)])), .v (.rt 0)] [(0, .map (keys PG 28) (encM kv_Pin dv_bool y9))] (iA r16.1) [(0, .map (keys PG 28) (encM kv_Pin dv_bool r16.2))]], .r [], .b false, .r [.eq 54 (iA (x10.Ports.length : Int))], .b false, .s q26_f q26_g [] (.nor q26_f' q26_g'), .b true, .r []] [] (an (lt_true hi) (an (idx_ok e_Net h11) (an (nl_IsPath_ok x10.Name r12 h13) (an h14 (an (leni_eq e_Pin x10.Pins) (an h15 (an (an (nl_checkNetPins_ok x10.Pins 51 [.ptr [.sl 2 (List.map e_PartType a0)], .ptr (e_Netlist a1)] (fun z0 => nl_CheckList_1 z0 a0 a1) (fun z0 r h => nl_CheckList_1_ok z0 a0 a1 r h) y9 r16 h17) (an (Eq.refl ([lT 2 (List.map e_Pin x10.Pins), .v (.c (.fn 51 [.ptr [.sl 2 (List.map e_PartType a0)], .ptr (e_Netlist a1)])), .v (.rt 2)] : List TV)) (Eq.refl (renH (asg [(0, 2)]) [(0, .map (keys PG 28) (encM kv_Pin dv_bool y9))])))) (an h18 (an (leni_eq e_str x10.Ports) (an h19 (an R22 h27))))))))))) (by kernel_rfl)
          · have h := Option.some.inj h
            subst h
            exact Runs.path XTok PGmix [.r [], .b true, .r [.el (e_Net x10), .id 3], .r [.val (bA r12)], .b false, .r [.eq 42 (iA (x10.Pins.length : Int))], .b false, .r [.call [(0, 2)] [lT 2 (List.map e_Pin x10.Pins), .v (.c (.fn 51 [.ptr [.sl 2 (List.map e_PartType a0)], .ptr (e_Netlist a1)])), .v (.rt 0)] [(0, .map (keys PG 28) (encM kv_Pin dv_bool y9))] (iA r16.1) [(0, .map (keys PG 28) (encM kv_Pin dv_bool r16.2))]], .r [], .b false, .r [.eq 54 (iA (x10.Ports.length : Int))], .b false, .s q26_f q26_g [] (.nor q26_f' q26_g'), .b false, .r [.eq 70 (iA ((i8 + 1 : Nat) : Int))]] [] (an (lt_true hi) (an (idx_ok e_Net h11) (an (nl_IsPath_ok x10.Name r12 h13) (an h14 (an (leni_eq e_Pin x10.Pins) (an h15 (an (an (nl_checkNetPins_ok x10.Pins 51 [.ptr [.sl 2 (List.map e_PartType a0)], .ptr (e_Netlist a1)] (fun z0 => nl_CheckList_1 z0 a0 a1) (fun z0 r h => nl_CheckList_1_ok z0 a0 a1 r h) y9 r16 h17) (an (Eq.refl ([lT 2 (List.map e_Pin x10.Pins), .v (.c (.fn 51 [.ptr [.sl 2 (List.map e_PartType a0)], .ptr (e_Netlist a1)])), .v (.rt 2)] : List TV)) (Eq.refl (renH (asg [(0, 2)]) [(0, .map (keys PG 28) (encM kv_Pin dv_bool y9))])))) (an h18 (an (leni_eq e_str x10.Ports) (an h19 (an R22 (an h27 (wrap_eq hi hM))))))))))))) (by kernel_rfl)
theorem nl_CheckList_b0_e (a0 : List PartType) (a1 : Netlist) (y9 : List (Pin × Bool)) : Runs PG 71 0 nl_CheckList_c0 (nl_CheckList_F0 a0 a1 (a1.Nets.length) y9) (nl_CheckList_H0 a0 a1 (a1.Nets.length) y9) (nl_CheckList_B0 a0 a1 y9) := by
  exact Runs.path XTok PGmix [.r [], .b false] [] (lt_false (a1.Nets.length)) (by kernel_rfl)
theorem nl_CheckList_l0 (a0 : List PartType) (a1 : Netlist) (y9 : List (Pin × Bool)) (r : Fin' (List (Pin × Bool)) Int) (h : forN (fun i8 s => nl_CheckList_b0 a0 a1 i8 s) (a1.Nets.length) 0 y9 = some r) : Runs PG 71 0 (cL (cR (cL (cR (cR (cR (cR (cR nl_CheckList_c)))))))) (nl_CheckList_F0 a0 a1 0 y9) (nl_CheckList_H0 a0 a1 0 y9) (finOc (nl_CheckList_B0 a0 a1) nl_CheckList_R r) :=
  Runs.loop' (by kernel_rfl) (forN_rounds (σ := (List (Pin × Bool))) (ρ := Int) (body := fun i8 s => nl_CheckList_b0 a0 a1 i8 s) (F := fun i8 s => nl_CheckList_F0 a0 a1 i8 s) (H := fun i8 s => nl_CheckList_H0 a0 a1 i8 s) (B := nl_CheckList_B0 a0 a1) (R := nl_CheckList_R) (M := a1.Nets.length) (fun _ => rfl) (fun _ => rfl) (fun s => nl_CheckList_b0_e a0 a1 s) (fun i s o hi h => nl_CheckList_b0_r a0 a1 i s o hi h) _ 0 _ r (Nat.zero_add _) h)
noncomputable def nl_CheckList (a0 : List PartType) (a1 : Netlist) : Option Int :=
 bnd (nl_CheckTypes a0) fun r1 =>
 cnd (r1 != 0) (some r1) (bnd (nl_checkParts a0 a1.Parts (fun z0 => nl_IsPath z0)) fun r4 =>
 cnd (r4 != 0) (some r4) (cnd (decide ((a1.Nets.length : Int) > 1000)) (some 2) (aft1 (forN (fun i8 s => nl_CheckList_b0 a0 a1 i8 s) (a1.Nets.length) 0 []) (fun u28 =>
 some 0)
 (fun r30 =>
 some r30))))
theorem nl_CheckList_ok (a0 : List PartType) (a1 : Netlist) (r : Int) (h : nl_CheckList a0 a1 = some r) : Spec PG 15 [lT 2 (List.map e_PartType a0), gT (e_Netlist a1)] [] (iA r) [] := by
  unfold nl_CheckList at h
  obtain ⟨r1, h2, h⟩ := bnd_e h
  rcases cnd_e h with ⟨h3, h⟩ | ⟨h3, h⟩
  · have h := Option.some.inj h
    subst h
    exact Spec.path XTok PGmix nl_CheckList_fn 0 [.r [.id 0, .id 1], .r [.val (iA r1)], .r [], .b true, .r []] (an (nl_CheckTypes_ok a0 r1 h2) h3) (by kernel_rfl)
  · obtain ⟨r4, h5, h⟩ := bnd_e h
    rcases cnd_e h with ⟨h6, h⟩ | ⟨h6, h⟩
    · have h := Option.some.inj h
      subst h
      exact Spec.path XTok PGmix nl_CheckList_fn 0 [.r [.id 0, .id 1], .r [.val (iA r1)], .r [], .b false, .r [.val (iA r4)], .r [], .b true, .r []] (an (nl_CheckTypes_ok a0 r1 h2) (an h3 (an (nl_checkParts_ok a0 a1.Parts 49 [] (fun z0 => nl_IsPath z0) (fun z0 r h => nl_IsPath_ok z0 r h) r4 h5) h6))) (by kernel_rfl)
    · rcases cnd_e h with ⟨h7, h⟩ | ⟨h7, h⟩
      · have h := Option.some.inj h
        subst h
        exact Spec.path XTok PGmix nl_CheckList_fn 0 [.r [.id 0, .id 1], .r [.val (iA r1)], .r [], .b false, .r [.val (iA r4)], .r [], .b false, .r [.eq 25 (iA (a1.Nets.length : Int))], .b true, .r []] (an (nl_CheckTypes_ok a0 r1 h2) (an h3 (an (nl_checkParts_ok a0 a1.Parts 49 [] (fun z0 => nl_IsPath z0) (fun z0 r h => nl_IsPath_ok z0 r h) r4 h5) (an h6 (an (leni_eq e_Net a1.Nets) h7))))) (by kernel_rfl)
      · rcases aft1_e h with ⟨u28, h29, h⟩ | ⟨r30, h29, h⟩
        · have h := Option.some.inj h
          subst h
          exact Spec.path XTok PGmix nl_CheckList_fn 0 [.r [.id 0, .id 1], .r [.val (iA r1)], .r [], .b false, .r [.val (iA r4)], .r [], .b false, .r [.eq 25 (iA (a1.Nets.length : Int))], .b false, .r [.id 2], .r [.eq 30 (iA (a1.Nets.length : Int))], .fb 0, .fb 1, .s (nl_CheckList_F0 a0 a1 0 []) (nl_CheckList_H0 a0 a1 0 []) [] (nl_CheckList_B0 a0 a1 u28), .r []] (an (nl_CheckTypes_ok a0 r1 h2) (an h3 (an (nl_checkParts_ok a0 a1.Parts 49 [] (fun z0 => nl_IsPath z0) (fun z0 r h => nl_IsPath_ok z0 r h) r4 h5) (an h6 (an (leni_eq e_Net a1.Nets) (an h7 (an (leni_eq e_Net a1.Nets) (nl_CheckList_l0 a0 a1 [] (.fin u28) h29)))))))) (by kernel_rfl)
        · have h := Option.some.inj h
          subst h
          exact Spec.path XTok PGmix nl_CheckList_fn 0 [.r [.id 0, .id 1], .r [.val (iA r1)], .r [], .b false, .r [.val (iA r4)], .r [], .b false, .r [.eq 25 (iA (a1.Nets.length : Int))], .b false, .r [.id 2], .r [.eq 30 (iA (a1.Nets.length : Int))], .fb 0, .fb 1, .s (nl_CheckList_F0 a0 a1 0 []) (nl_CheckList_H0 a0 a1 0 []) [] (nl_CheckList_R r30)] (an (nl_CheckTypes_ok a0 r1 h2) (an h3 (an (nl_checkParts_ok a0 a1.Parts 49 [] (fun z0 => nl_IsPath z0) (fun z0 r h => nl_IsPath_ok z0 r h) r4 h5) (an h6 (an (leni_eq e_Net a1.Nets) (an h7 (an (leni_eq e_Net a1.Nets) (nl_CheckList_l0 a0 a1 [] (.ret r30) h29)))))))) (by kernel_rfl)

noncomputable def nl_Nets_c : Code := (Go.Proofs.Tryd.f44.body).getD .skip
theorem nl_Nets_fn : FnOk PG 44 nl_Nets_c 30 [.tmp 2] := ⟨⟨Go.Proofs.Tryd.f44, by kernel_rfl, by kernel_rfl, by kernel_rfl, by kernel_rfl, by kernel_rfl⟩⟩
noncomputable def nl_Nets_c0 : Code := cL (cL (cR (cL (cR (cR nl_Nets_c)))))
noncomputable def nl_Nets_R (r : (List (Pin × Int))) : Oc := .ret [(2, .t (.v (.rt 0)))] [(0, .map (keys PG 28) (encM kv_Pin dv_i64 r))]
noncomputable def nl_Nets_c1 : Code := cL (cL (cR (cR (cL (cL (cR (cR nl_Nets_c0)))))))
noncomputable def nl_Nets_F1 (a0 : Netlist) (i1 : Nat) (x3 : Net) (i5 : Nat) (y6 : List (Pin × Int)) : Fr := [(3, .t (.v (.rt 1))), (4, iA (i1 : Int)), (10, lA 3 (List.map e_Net a0.Nets)), (11, iA (a0.Nets.length : Int)), (12, iA (i1 : Int)), (18, lA 2 (List.map e_Pin x3.Pins)), (19, iA (x3.Pins.length : Int)), (20, iA (i5 : Int))]
noncomputable def nl_Nets_H1 (a0 : Netlist) (i1 : Nat) (x3 : Net) (i5 : Nat) (y6 : List (Pin × Int)) : Hp := [(1, .map (keys PG 28) (encM kv_Pin dv_i64 y6))]
noncomputable def nl_Nets_B1 (a0 : Netlist) (i1 : Nat) (x3 : Net) (s : (List (Pin × Int))) : Oc := .ex 2 [(3, .t (.v (.rt 1))), (10, lA 3 (List.map e_Net a0.Nets)), (11, iA (a0.Nets.length : Int)), (12, iA (i1 : Int))] [(1, .map (keys PG 28) (encM kv_Pin dv_i64 s))]
noncomputable def nl_Nets_b1 (a0 : Netlist) (i1 : Nat) (x3 : Net) (i5 : Nat) (y6 : List (Pin × Int)) : Option (Stp (List (Pin × Int)) (List (Pin × Int))) :=
 bnd (atI x3.Pins (i5 : Int)) fun x7 =>
 some (.go (tput y6 x7 (i1 : Int)))
theorem nl_Nets_b1_r (a0 : Netlist) (i1 : Nat) (x3 : Net) (i5 : Nat) (y6 : List (Pin × Int)) (o : Stp (List (Pin × Int)) (List (Pin × Int))) (hi : i5 < x3.Pins.length) (h : nl_Nets_b1 a0 i1 x3 i5 y6 = some o) :
    Runs PG 30 0 nl_Nets_c1 (nl_Nets_F1 a0 i1 x3 i5 y6) (nl_Nets_H1 a0 i1 x3 i5 y6) (stpOc (fun s' => .nor (nl_Nets_F1 a0 i1 x3 (i5 + 1) s') (nl_Nets_H1 a0 i1 x3 (i5 + 1) s')) (nl_Nets_B1 a0 i1 x3) nl_Nets_R o) := by
  unfold nl_Nets_b1 at h
  refine Runs.len (s := 18) (sz := 2) (xs := List.map e_Pin x3.Pins) (by kernel_rfl) fun hl => ?_
  have hM : x3.Pins.length ≤ lim := len_of hl
  obtain ⟨x7, h8, h⟩ := bnd_e h
  have h := Option.some.inj h
  subst h
  exact Runs.path XTok PGmix [.r [], .b true, .r [.el (e_Pin x7), .id 2], .r [.es (encM kv_Pin dv_i64 (tput y6 x7 (i1 : Int)))], .r [.eq 27 (iA ((i5 + 1 : Nat) : Int))]] [] (an (lt_true hi) (an (idx_ok e_Pin h8) (an (an kd_Pin (an (Eq.refl (keys PG 28)) (an (kf_Pin x7) (put_ok dv_i64 ki_Pin y6 x7 (i1 : Int))))) (wrap_eq hi hM)))) (by kernel_rfl)
theorem nl_Nets_b1_e (a0 : Netlist) (i1 : Nat) (x3 : Net) (y6 : List (Pin × Int)) : Runs PG 30 0 nl_Nets_c1 (nl_Nets_F1 a0 i1 x3 (x3.Pins.length) y6) (nl_Nets_H1 a0 i1 x3 (x3.Pins.length) y6) (nl_Nets_B1 a0 i1 x3 y6) := by
  exact Runs.path XTok PGmix [.r [], .b false] [] (lt_false (x3.Pins.length)) (by kernel_rfl)
theorem nl_Nets_l1 (a0 : Netlist) (i1 : Nat) (x3 : Net) (y6 : List (Pin × Int)) (r : Fin' (List (Pin × Int)) (List (Pin × Int))) (h : forN (fun i5 s => nl_Nets_b1 a0 i1 x3 i5 s) (x3.Pins.length) 0 y6 = some r) : Runs PG 30 0 (cL (cR (cR (cL (cL (cR (cR nl_Nets_c0))))))) (nl_Nets_F1 a0 i1 x3 0 y6) (nl_Nets_H1 a0 i1 x3 0 y6) (finOc (nl_Nets_B1 a0 i1 x3) nl_Nets_R r) :=
  Runs.loop' (by kernel_rfl) (forN_rounds (σ := (List (Pin × Int))) (ρ := (List (Pin × Int))) (body := fun i5 s => nl_Nets_b1 a0 i1 x3 i5 s) (F := fun i5 s => nl_Nets_F1 a0 i1 x3 i5 s) (H := fun i5 s => nl_Nets_H1 a0 i1 x3 i5 s) (B := nl_Nets_B1 a0 i1 x3) (R := nl_Nets_R) (M := x3.Pins.length) (fun _ => rfl) (fun _ => rfl) (fun s => nl_Nets_b1_e a0 i1 x3 s) (fun i s o hi h => nl_Nets_b1_r a0 i1 x3 i s o hi h) _ 0 _ r (Nat.zero_add _) h)
noncomputable def nl_Nets_F0 (a0 : Netlist) (i1 : Nat) (y2 : List (Pin × Int)) : Fr := [(3, .t (.v (.rt 1))), (10, lA 3 (List.map e_Net a0.Nets)), (11, iA (a0.Nets.length : Int)), (12, iA (i1 : Int))]
noncomputable def nl_Nets_H0 (a0 : Netlist) (i1 : Nat) (y2 : List (Pin × Int)) : Hp := [(1, .map (keys PG 28) (encM kv_Pin dv_i64 y2))]
noncomputable def nl_Nets_B0 (a0 : Netlist) (s : (List (Pin × Int))) : Oc := .ex 0 [(3, .t (.v (.rt 1)))] [(1, .map (keys PG 28) (encM kv_Pin dv_i64 s))]
noncomputable def nl_Nets_b0 (a0 : Netlist) (i1 : Nat) (y2 : List (Pin × Int)) : Option (Stp (List (Pin × Int)) (List (Pin × Int))) :=
 bnd (atI a0.Nets (i1 : Int)) fun x3 =>
 aft1 (forN (fun i5 s => nl_Nets_b1 a0 i1 x3 i5 s) (x3.Pins.length) 0 y2) (fun u9 =>
 some (.go u9))
 (fun r11 =>
 some (.ret r11))
theorem nl_Nets_b0_r (a0 : Netlist) (i1 : Nat) (y2 : List (Pin × Int)) (o : Stp (List (Pin × Int)) (List (Pin × Int))) (hi : i1 < a0.Nets.length) (h : nl_Nets_b0 a0 i1 y2 = some o) :
    Runs PG 30 0 nl_Nets_c0 (nl_Nets_F0 a0 i1 y2) (nl_Nets_H0 a0 i1 y2) (stpOc (fun s' => .nor (nl_Nets_F0 a0 (i1 + 1) s') (nl_Nets_H0 a0 (i1 + 1) s')) (nl_Nets_B0 a0) nl_Nets_R o) := by
  unfold nl_Nets_b0 at h
  refine Runs.len (s := 10) (sz := 3) (xs := List.map e_Net a0.Nets) (by kernel_rfl) fun hl => ?_
  have hM : a0.Nets.length ≤ lim := len_of hl
  obtain ⟨x3, h4, h⟩ := bnd_e h
  rcases aft1_e h with ⟨u9, h10, h⟩ | ⟨r11, h10, h⟩
  · have h := Option.some.inj h
    subst h
    exact Runs.path XTok PGmix [.r [], .b true, .r [.el (e_Net x3), .id 2], .r [.eq 19 (iA (x3.Pins.length : Int))], .s (nl_Nets_F1 a0 i1 x3 0 y2) (nl_Nets_H1 a0 i1 x3 0 y2) [] (nl_Nets_B1 a0 i1 x3 u9), .r [.eq 28 (iA ((i1 + 1 : Nat) : Int))]] [] (an (lt_true hi) (an (idx_ok e_Net h4) (an (leni_eq e_Pin x3.Pins) (an (nl_Nets_l1 a0 i1 x3 y2 (.fin u9) h10) (wrap_eq hi hM))))) (by kernel_rfl)
  · have h := Option.some.inj h
    subst h
    exact Runs.path XTok PGmix [.r [], .b true, .r [.el (e_Net x3), .id 2], .r [.eq 19 (iA (x3.Pins.length : Int))], .s (nl_Nets_F1 a0 i1 x3 0 y2) (nl_Nets_H1 a0 i1 x3 0 y2) [] (nl_Nets_R r11)] [] (an (lt_true hi) (an (idx_ok e_Net h4) (an (leni_eq e_Pin x3.Pins) (nl_Nets_l1 a0 i1 x3 y2 (.ret r11) h10)))) (by kernel_rfl)
theorem nl_Nets_b0_e (a0 : Netlist) (y2 : List (Pin × Int)) : Runs PG 30 0 nl_Nets_c0 (nl_Nets_F0 a0 (a0.Nets.length) y2) (nl_Nets_H0 a0 (a0.Nets.length) y2) (nl_Nets_B0 a0 y2) := by
  exact Runs.path XTok PGmix [.r [], .b false] [] (lt_false (a0.Nets.length)) (by kernel_rfl)
theorem nl_Nets_l0 (a0 : Netlist) (y2 : List (Pin × Int)) (r : Fin' (List (Pin × Int)) (List (Pin × Int))) (h : forN (fun i1 s => nl_Nets_b0 a0 i1 s) (a0.Nets.length) 0 y2 = some r) : Runs PG 30 0 (cL (cR (cL (cR (cR nl_Nets_c))))) (nl_Nets_F0 a0 0 y2) (nl_Nets_H0 a0 0 y2) (finOc (nl_Nets_B0 a0) nl_Nets_R r) :=
  Runs.loop' (by kernel_rfl) (forN_rounds (σ := (List (Pin × Int))) (ρ := (List (Pin × Int))) (body := fun i1 s => nl_Nets_b0 a0 i1 s) (F := fun i1 s => nl_Nets_F0 a0 i1 s) (H := fun i1 s => nl_Nets_H0 a0 i1 s) (B := nl_Nets_B0 a0) (R := nl_Nets_R) (M := a0.Nets.length) (fun _ => rfl) (fun _ => rfl) (fun s => nl_Nets_b0_e a0 s) (fun i s o hi h => nl_Nets_b0_r a0 i s o hi h) _ 0 _ r (Nat.zero_add _) h)
noncomputable def nl_Nets (a0 : Netlist) : Option ((List (Pin × Int))) :=
 aft1 (forN (fun i1 s => nl_Nets_b0 a0 i1 s) (a0.Nets.length) 0 []) (fun u12 =>
 some u12)
 (fun r14 =>
 some r14)
theorem nl_Nets_ok (a0 : Netlist) (r : (List (Pin × Int))) (h : nl_Nets a0 = some r) : Spec PG 44 [gT (e_Netlist a0)] [] (.t (.v (.rt 0))) [(0, .map (keys PG 28) (encM kv_Pin dv_i64 r))] := by
  unfold nl_Nets at h
  rcases aft1_e h with ⟨u12, h13, h⟩ | ⟨r14, h13, h⟩
  · have h := Option.some.inj h
    subst h
    exact Spec.path XTok PGmix nl_Nets_fn 0 [.r [.id 0], .r [.id 1], .r [.eq 11 (iA (a0.Nets.length : Int))], .s (nl_Nets_F0 a0 0 []) (nl_Nets_H0 a0 0 []) [] (nl_Nets_B0 a0 u12), .r [], .w [(2, .t (.v (.rt 0)))] [(0, .map (keys PG 28) (encM kv_Pin dv_i64 u12))] [(0, 1)]] (an (leni_eq e_Net a0.Nets) (nl_Nets_l0 a0 [] (.fin u12) h13)) (by kernel_rfl)
  · have h := Option.some.inj h
    subst h
    exact Spec.path XTok PGmix nl_Nets_fn 0 [.r [.id 0], .r [.id 1], .r [.eq 11 (iA (a0.Nets.length : Int))], .s (nl_Nets_F0 a0 0 []) (nl_Nets_H0 a0 0 []) [] (nl_Nets_R r14)] (an (leni_eq e_Net a0.Nets) (nl_Nets_l0 a0 [] (.ret r14) h13)) (by kernel_rfl)

noncomputable def nl_pinsOf_c : Code := (Go.Proofs.Tryd.f74.body).getD .skip
theorem nl_pinsOf_fn : FnOk PG 74 nl_pinsOf_c 31 [.tmp 4] := ⟨⟨Go.Proofs.Tryd.f74, by kernel_rfl, by kernel_rfl, by kernel_rfl, by kernel_rfl, by kernel_rfl⟩⟩
noncomputable def nl_pinsOf_c0 : Code := cL (cL (cR (cL (cR (cR nl_pinsOf_c)))))
noncomputable def nl_pinsOf_R (r : List Pin) : Oc := .ret [(4, lA 2 (List.map e_Pin r))] []
noncomputable def nl_pinsOf_F0 (a1 : Part) (x3 : PartType) (i5 : Nat) (y6 : List Pin) : Fr := [(3, .t (.v (.ptr 0 0))), (5, .t (.v (.rt 1))), (15, lA 3 (List.map e_PinType x3.Pins)), (16, iA (x3.Pins.length : Int)), (17, iA (i5 : Int))]
noncomputable def nl_pinsOf_H0 (a1 : Part) (x3 : PartType) (i5 : Nat) (y6 : List Pin) : Hp := [(0, .cells 73 [.c (sC a1.Name), .c (sC a1.Type_)]), (1, .row 28 2 (List.map e_Pin y6))]
noncomputable def nl_pinsOf_B0 (a1 : Part) (x3 : PartType) (s : List Pin) : Oc := .ex 0 [(5, .t (.v (.rt 1)))] [(1, .row 28 2 (List.map e_Pin s))]
noncomputable def nl_pinsOf_b0 (a1 : Part) (x3 : PartType) (i5 : Nat) (y6 : List Pin) : Option (Stp (List Pin) (List Pin)) :=
 bnd (atI x3.Pins (i5 : Int)) fun x7 =>
 grd (y6.length + [(⟨a1.Name, x7.Name⟩ : Pin)].length ≤ lim) <|
 some (.go (y6 ++ [(⟨a1.Name, x7.Name⟩ : Pin)]))
theorem nl_pinsOf_b0_r (a1 : Part) (x3 : PartType) (i5 : Nat) (y6 : List Pin) (o : Stp (List Pin) (List Pin)) (hi : i5 < x3.Pins.length) (h : nl_pinsOf_b0 a1 x3 i5 y6 = some o) :
    Runs PG 31 0 nl_pinsOf_c0 (nl_pinsOf_F0 a1 x3 i5 y6) (nl_pinsOf_H0 a1 x3 i5 y6) (stpOc (fun s' => .nor (nl_pinsOf_F0 a1 x3 (i5 + 1) s') (nl_pinsOf_H0 a1 x3 (i5 + 1) s')) (nl_pinsOf_B0 a1 x3) nl_pinsOf_R o) := by
  unfold nl_pinsOf_b0 at h
  refine Runs.len (s := 15) (sz := 3) (xs := List.map e_PinType x3.Pins) (by kernel_rfl) fun hl => ?_
  have hM : x3.Pins.length ≤ lim := len_of hl
  obtain ⟨x7, h8, h⟩ := bnd_e h
  obtain ⟨h9, h⟩ := grd_e h
  have h := Option.some.inj h
  subst h
  exact Runs.path XTok PGmix [.r [], .b true, .r [.el (e_PinType x7), .id 2], .r [.id 3, .row (List.map e_Pin [(⟨a1.Name, x7.Name⟩ : Pin)]), .id 4, .row (List.map e_Pin (y6 ++ [(⟨a1.Name, x7.Name⟩ : Pin)]))], .r [.eq 29 (iA ((i5 + 1 : Nat) : Int))]] [(1, 4)] (an (lt_true hi) (an (idx_ok e_PinType h8) (an (Eq.refl (List.flatten (List.map e_Pin [(⟨a1.Name, x7.Name⟩ : Pin)]))) (an (app_ok e_Pin h9) (wrap_eq hi hM))))) (by kernel_rfl)
theorem nl_pinsOf_b0_e (a1 : Part) (x3 : PartType) (y6 : List Pin) : Runs PG 31 0 nl_pinsOf_c0 (nl_pinsOf_F0 a1 x3 (x3.Pins.length) y6) (nl_pinsOf_H0 a1 x3 (x3.Pins.length) y6) (nl_pinsOf_B0 a1 x3 y6) := by
  exact Runs.path XTok PGmix [.r [], .b false] [] (lt_false (x3.Pins.length)) (by kernel_rfl)
theorem nl_pinsOf_l0 (a1 : Part) (x3 : PartType) (y6 : List Pin) (r : Fin' (List Pin) (List Pin)) (h : forN (fun i5 s => nl_pinsOf_b0 a1 x3 i5 s) (x3.Pins.length) 0 y6 = some r) : Runs PG 31 0 (cL (cR (cL (cR (cR nl_pinsOf_c))))) (nl_pinsOf_F0 a1 x3 0 y6) (nl_pinsOf_H0 a1 x3 0 y6) (finOc (nl_pinsOf_B0 a1 x3) nl_pinsOf_R r) :=
  Runs.loop' (by kernel_rfl) (forN_rounds (σ := (List Pin)) (ρ := (List Pin)) (body := fun i5 s => nl_pinsOf_b0 a1 x3 i5 s) (F := fun i5 s => nl_pinsOf_F0 a1 x3 i5 s) (H := fun i5 s => nl_pinsOf_H0 a1 x3 i5 s) (B := nl_pinsOf_B0 a1 x3) (R := nl_pinsOf_R) (M := x3.Pins.length) (fun _ => rfl) (fun _ => rfl) (fun s => nl_pinsOf_b0_e a1 x3 s) (fun i s o hi h => nl_pinsOf_b0_r a1 x3 i s o hi h) _ 0 _ r (Nat.zero_add _) h)
noncomputable def nl_pinsOf (a0 : List PartType) (a1 : Part) : Option (List Pin) :=
 bnd (nl_TypeAt a0 a1.Type_) fun r1 =>
 bnd (atI a0 r1) fun x3 =>
 aft1 (forN (fun i5 s => nl_pinsOf_b0 a1 x3 i5 s) (x3.Pins.length) 0 []) (fun u10 =>
 some u10)
 (fun r12 =>
 some r12)
theorem nl_pinsOf_ok (a0 : List PartType) (a1 : Part) (r : List Pin) (h : nl_pinsOf a0 a1 = some r) : Spec PG 74 [lT 2 (List.map e_PartType a0), gT (e_Part a1)] [] (lA 2 (List.map e_Pin r)) [] := by
  unfold nl_pinsOf at h
  obtain ⟨r1, h2, h⟩ := bnd_e h
  obtain ⟨x3, h4, h⟩ := bnd_e h
  rcases aft1_e h with ⟨u10, h11, h⟩ | ⟨r12, h11, h⟩
  · have h := Option.some.inj h
    subst h
    exact Spec.path XTok PGmix nl_pinsOf_fn 0 [.r [.id 0, .nl 2], .r [.mk 1 28 2], .r [.val (iA r1), .el (e_PartType x3), .eq 16 (iA (x3.Pins.length : Int))], .s (nl_pinsOf_F0 a1 x3 0 []) (nl_pinsOf_H0 a1 x3 0 []) [] (nl_pinsOf_B0 a1 x3 u10), .r [], .f 1] (an (nl_TypeAt_ok a0 a1.Type_ r1 h2) (an (idx_ok e_PartType h4) (an (leni_eq e_PinType x3.Pins) (nl_pinsOf_l0 a1 x3 [] (.fin u10) h11)))) (by kernel_rfl)
  · have h := Option.some.inj h
    subst h
    exact Spec.path XTok PGmix nl_pinsOf_fn 0 [.r [.id 0, .nl 2], .r [.mk 1 28 2], .r [.val (iA r1), .el (e_PartType x3), .eq 16 (iA (x3.Pins.length : Int))], .s (nl_pinsOf_F0 a1 x3 0 []) (nl_pinsOf_H0 a1 x3 0 []) [] (nl_pinsOf_R r12)] (an (nl_TypeAt_ok a0 a1.Type_ r1 h2) (an (idx_ok e_PartType h4) (an (leni_eq e_PinType x3.Pins) (nl_pinsOf_l0 a1 x3 [] (.ret r12) h11)))) (by kernel_rfl)

noncomputable def nl_LooseOf_c : Code := (Go.Proofs.Tryd.f54.body).getD .skip
theorem nl_LooseOf_fn : FnOk PG 54 nl_LooseOf_c 45 [.tmp 4] := ⟨⟨Go.Proofs.Tryd.f54, by kernel_rfl, by kernel_rfl, by kernel_rfl, by kernel_rfl, by kernel_rfl⟩⟩
noncomputable def nl_LooseOf_c0 : Code := cL (cL (cR (cL (cR (cR (cR nl_LooseOf_c))))))
noncomputable def nl_LooseOf_R (r : List Pin) : Oc := .ret [(4, lA 2 (List.map e_Pin r))] []
noncomputable def nl_LooseOf_c1 : Code := cL (cL (cR (cR (cL (cL (cR (cR nl_LooseOf_c0)))))))
noncomputable def nl_LooseOf_F1 (a0 : List PartType) (a1 : Netlist) (r1 : (List (Pin × Int))) (i3 : Nat) (r7 : List Pin) (i9 : Nat) (y10 : List Pin) : Fr := [(0, lA 2 (List.map e_PartType a0)), (5, .t (.v (.rt 1))), (6, .t (.v (.rt 2))), (16, lA 2 (List.map e_Part a1.Parts)), (17, iA (a1.Parts.length : Int)), (18, iA (i3 : Int)), (24, lA 2 (List.map e_Pin r7)), (25, iA (r7.length : Int)), (26, iA (i9 : Int))]
noncomputable def nl_LooseOf_H1 (a0 : List PartType) (a1 : Netlist) (r1 : (List (Pin × Int))) (i3 : Nat) (r7 : List Pin) (i9 : Nat) (y10 : List Pin) : Hp := [(1, .map (keys PG 28) (encM kv_Pin dv_i64 r1)), (2, .row 28 2 (List.map e_Pin y10))]
noncomputable def nl_LooseOf_B1 (a0 : List PartType) (a1 : Netlist) (r1 : (List (Pin × Int))) (i3 : Nat) (r7 : List Pin) (s : List Pin) : Oc := .ex 2 [(0, lA 2 (List.map e_PartType a0)), (5, .t (.v (.rt 1))), (6, .t (.v (.rt 2))), (16, lA 2 (List.map e_Part a1.Parts)), (17, iA (a1.Parts.length : Int)), (18, iA (i3 : Int))] [(1, .map (keys PG 28) (encM kv_Pin dv_i64 r1)), (2, .row 28 2 (List.map e_Pin s))]
noncomputable def nl_LooseOf_b1 (a0 : List PartType) (a1 : Netlist) (r1 : (List (Pin × Int))) (i3 : Nat) (r7 : List Pin) (i9 : Nat) (y10 : List Pin) : Option (Stp (List Pin) (List Pin)) :=
 bnd (atI r7 (i9 : Int)) fun x11 =>
 bnd1 (opt (tlook r1 x11) (fun v16 =>
 some true) (some false)) fun v13 =>
 bnd1 (cnd (!v13) (grd (y10.length + [x11].length ≤ lim) <|
 some (y10 ++ [x11])) (some y10)) fun v19 =>
 some (.go v19)
theorem nl_LooseOf_b1_r (a0 : List PartType) (a1 : Netlist) (r1 : (List (Pin × Int))) (i3 : Nat) (r7 : List Pin) (i9 : Nat) (y10 : List Pin) (o : Stp (List Pin) (List Pin)) (hi : i9 < r7.length) (h : nl_LooseOf_b1 a0 a1 r1 i3 r7 i9 y10 = some o) :
    Runs PG 45 0 nl_LooseOf_c1 (nl_LooseOf_F1 a0 a1 r1 i3 r7 i9 y10) (nl_LooseOf_H1 a0 a1 r1 i3 r7 i9 y10) (stpOc (fun s' => .nor (nl_LooseOf_F1 a0 a1 r1 i3 r7 (i9 + 1) s') (nl_LooseOf_H1 a0 a1 r1 i3 r7 (i9 + 1) s')) (nl_LooseOf_B1 a0 a1 r1 i3 r7) nl_LooseOf_R o) := by
  unfold nl_LooseOf_b1 at h
  refine Runs.len (s := 24) (sz := 2) (xs := List.map e_Pin r7) (by kernel_rfl) fun hl => ?_
  have hM : r7.length ≤ lim := len_of hl
  obtain ⟨x11, h12, h⟩ := bnd_e h
  obtain ⟨v13, h14, h⟩ := bnd1_e h
  let q18_f : Fr := [(0, lA 2 (List.map e_PartType a0)), (5, .t (.v (.rt 1))), (6, .t (.v (.rt 2))), (10, .t (.v (.ptr 3 0))), (16, lA 2 (List.map e_Part a1.Parts)), (17, iA (a1.Parts.length : Int)), (18, iA (i3 : Int)), (24, lA 2 (List.map e_Pin r7)), (25, iA (r7.length : Int)), (26, iA (i9 : Int))]
  let q18_g : Hp := [(1, .map (keys PG 28) (encM kv_Pin dv_i64 r1)), (2, .row 28 2 (List.map e_Pin y10)), (3, .cells 28 [.c (sC x11.Part), .c (sC x11.Pin)])]
  let q18_f' : Fr := [(0, lA 2 (List.map e_PartType a0)), (5, .t (.v (.rt 1))), (6, .t (.v (.rt 2))), (10, .t (.v (.ptr 3 0))), (16, lA 2 (List.map e_Part a1.Parts)), (17, iA (a1.Parts.length : Int)), (18, iA (i3 : Int)), (24, lA 2 (List.map e_Pin r7)), (25, iA (r7.length : Int)), (26, iA (i9 : Int)), (12, bA v13)]
  let q18_g' : Hp := [(1, .map (keys PG 28) (encM kv_Pin dv_i64 r1)), (2, .row 28 2 (List.map e_Pin y10)), (3, .cells 28 [.c (sC x11.Part), .c (sC x11.Pin)])]
  have R15 : Runs PG 45 0 (cL (cR (cL (cL (cR (cR nl_LooseOf_c1)))))) q18_f q18_g (.nor q18_f' q18_g') := by
    rcases opt_e h14 with ⟨v16, h17, h14⟩ | ⟨h17, h14⟩
    · have h14 := Option.some.inj h14
      subst h14
      exact Runs.path XTok PGmix [.r [.look (some (dv_i64 v16))]] [] (an kd_Pin (an (Eq.refl (keys PG 28)) (an (kf_Pin x11) (tl_some dv_i64 ki_Pin h17)))) (by kernel_rfl)
    · have h14 := Option.some.inj h14
      subst h14
      exact Runs.path XTok PGmix [.r [.look (none)]] [] (an kd_Pin (an (Eq.refl (keys PG 28)) (an (kf_Pin x11) (tl_none dv_i64 ki_Pin h17)))) (by kernel_rfl)
  obtain ⟨v19, h20, h⟩ := bnd1_e h
  let q24_f : Fr := [(0, lA 2 (List.map e_PartType a0)), (5, .t (.v (.rt 1))), (6, .t (.v (.rt 2))), (10, .t (.v (.ptr 3 0))), (16, lA 2 (List.map e_Part a1.Parts)), (17, iA (a1.Parts.length : Int)), (18, iA (i3 : Int)), (24, lA 2 (List.map e_Pin r7)), (25, iA (r7.length : Int)), (26, iA (i9 : Int)), (37, bA (!v13))]
  let q24_g : Hp := [(1, .map (keys PG 28) (encM kv_Pin dv_i64 r1)), (2, .row 28 2 (List.map e_Pin y10)), (3, .cells 28 [.c (sC x11.Part), .c (sC x11.Pin)])]
  let q24_f' : Fr := [(0, lA 2 (List.map e_PartType a0)), (5, .t (.v (.rt 1))), (6, .t (.v (.rt 5))), (16, lA 2 (List.map e_Part a1.Parts)), (17, iA (a1.Parts.length : Int)), (18, iA (i3 : Int)), (24, lA 2 (List.map e_Pin r7)), (25, iA (r7.length : Int)), (26, iA (i9 : Int))]
  let q24_g' : Hp := [(1, .map (keys PG 28) (encM kv_Pin dv_i64 r1)), (5, .row 28 2 (List.map e_Pin v19))]
  have R21 : Runs PG 45 0 (cR (cR (cR (cL (cL (cR (cR nl_LooseOf_c1))))))) q24_f q24_g (.nor q24_f' q24_g') := by
    rcases cnd_e h20 with ⟨h22, h20⟩ | ⟨h22, h20⟩
    · obtain ⟨h23, h20⟩ := grd_e h20
      have h20 := Option.some.inj h20
      subst h20
      exact Runs.path XTok PGmix [.b true, .r [.id 4, .row (List.map e_Pin [x11]), .id 5, .row (List.map e_Pin (y10 ++ [x11]))]] [] (an h22 (an (Eq.refl (List.flatten (List.map e_Pin [x11]))) (app_ok e_Pin h23))) (by kernel_rfl)
    · have h20 := Option.some.inj h20
      subst h20
      exact Runs.path XTok PGmix [.b false] [(5, 2)] h22 (by kernel_rfl)
  have h := Option.some.inj h
  subst h
  exact Runs.path XTok PGmix [.r [], .b true, .r [.el (e_Pin x11), .id 3], .s q18_f q18_g [] (.nor q18_f' q18_g'), .r [], .s q24_f q24_g [] (.nor q24_f' q24_g'), .r [.eq 42 (iA ((i9 + 1 : Nat) : Int))]] [(2, 5)] (an (lt_true hi) (an (idx_ok e_Pin h12) (an R15 (an R21 (wrap_eq hi hM))))) (by kernel_rfl)
theorem nl_LooseOf_b1_e (a0 : List PartType) (a1 : Netlist) (r1 : (List (Pin × Int))) (i3 : Nat) (r7 : List Pin) (y10 : List Pin) : Runs PG 45 0 nl_LooseOf_c1 (nl_LooseOf_F1 a0 a1 r1 i3 r7 (r7.length) y10) (nl_LooseOf_H1 a0 a1 r1 i3 r7 (r7.length) y10) (nl_LooseOf_B1 a0 a1 r1 i3 r7 y10) := by
  exact Runs.path XTok PGmix [.r [], .b false] [] (lt_false (r7.length)) (by kernel_rfl)
theorem nl_LooseOf_l1 (a0 : List PartType) (a1 : Netlist) (r1 : (List (Pin × Int))) (i3 : Nat) (r7 : List Pin) (y10 : List Pin) (r : Fin' (List Pin) (List Pin)) (h : forN (fun i9 s => nl_LooseOf_b1 a0 a1 r1 i3 r7 i9 s) (r7.length) 0 y10 = some r) : Runs PG 45 0 (cL (cR (cR (cL (cL (cR (cR nl_LooseOf_c0))))))) (nl_LooseOf_F1 a0 a1 r1 i3 r7 0 y10) (nl_LooseOf_H1 a0 a1 r1 i3 r7 0 y10) (finOc (nl_LooseOf_B1 a0 a1 r1 i3 r7) nl_LooseOf_R r) :=
  Runs.loop' (by kernel_rfl) (forN_rounds (σ := (List Pin)) (ρ := (List Pin)) (body := fun i9 s => nl_LooseOf_b1 a0 a1 r1 i3 r7 i9 s) (F := fun i9 s => nl_LooseOf_F1 a0 a1 r1 i3 r7 i9 s) (H := fun i9 s => nl_LooseOf_H1 a0 a1 r1 i3 r7 i9 s) (B := nl_LooseOf_B1 a0 a1 r1 i3 r7) (R := nl_LooseOf_R) (M := r7.length) (fun _ => rfl) (fun _ => rfl) (fun s => nl_LooseOf_b1_e a0 a1 r1 i3 r7 s) (fun i s o hi h => nl_LooseOf_b1_r a0 a1 r1 i3 r7 i s o hi h) _ 0 _ r (Nat.zero_add _) h)
noncomputable def nl_LooseOf_F0 (a0 : List PartType) (a1 : Netlist) (r1 : (List (Pin × Int))) (i3 : Nat) (y4 : List Pin) : Fr := [(0, lA 2 (List.map e_PartType a0)), (5, .t (.v (.rt 1))), (6, .t (.v (.rt 2))), (16, lA 2 (List.map e_Part a1.Parts)), (17, iA (a1.Parts.length : Int)), (18, iA (i3 : Int))]
noncomputable def nl_LooseOf_H0 (a0 : List PartType) (a1 : Netlist) (r1 : (List (Pin × Int))) (i3 : Nat) (y4 : List Pin) : Hp := [(1, .map (keys PG 28) (encM kv_Pin dv_i64 r1)), (2, .row 28 2 (List.map e_Pin y4))]
noncomputable def nl_LooseOf_B0 (a0 : List PartType) (a1 : Netlist) (r1 : (List (Pin × Int))) (s : List Pin) : Oc := .ex 0 [(6, .t (.v (.rt 2)))] [(2, .row 28 2 (List.map e_Pin s))]
noncomputable def nl_LooseOf_b0 (a0 : List PartType) (a1 : Netlist) (r1 : (List (Pin × Int))) (i3 : Nat) (y4 : List Pin) : Option (Stp (List Pin) (List Pin)) :=
 bnd (atI a1.Parts (i3 : Int)) fun x5 =>
 bnd (nl_pinsOf a0 x5) fun r7 =>
 aft1 (forN (fun i9 s => nl_LooseOf_b1 a0 a1 r1 i3 r7 i9 s) (r7.length) 0 y4) (fun u25 =>
 some (.go u25))
 (fun r27 =>
 some (.ret r27))
theorem nl_LooseOf_b0_r (a0 : List PartType) (a1 : Netlist) (r1 : (List (Pin × Int))) (i3 : Nat) (y4 : List Pin) (o : Stp (List Pin) (List Pin)) (hi : i3 < a1.Parts.length) (h : nl_LooseOf_b0 a0 a1 r1 i3 y4 = some o) :
    Runs PG 45 0 nl_LooseOf_c0 (nl_LooseOf_F0 a0 a1 r1 i3 y4) (nl_LooseOf_H0 a0 a1 r1 i3 y4) (stpOc (fun s' => .nor (nl_LooseOf_F0 a0 a1 r1 (i3 + 1) s') (nl_LooseOf_H0 a0 a1 r1 (i3 + 1) s')) (nl_LooseOf_B0 a0 a1 r1) nl_LooseOf_R o) := by
  unfold nl_LooseOf_b0 at h
  refine Runs.len (s := 16) (sz := 2) (xs := List.map e_Part a1.Parts) (by kernel_rfl) fun hl => ?_
  have hM : a1.Parts.length ≤ lim := len_of hl
  obtain ⟨x5, h6, h⟩ := bnd_e h
  obtain ⟨r7, h8, h⟩ := bnd_e h
  rcases aft1_e h with ⟨u25, h26, h⟩ | ⟨r27, h26, h⟩
  · have h := Option.some.inj h
    subst h
    exact Runs.path XTok PGmix [.r [], .b true, .r [.el (e_Part x5), .id 3], .r [.val (lA 2 (List.map e_Pin r7)), .eq 25 (iA (r7.length : Int))], .s (nl_LooseOf_F1 a0 a1 r1 i3 r7 0 y4) (nl_LooseOf_H1 a0 a1 r1 i3 r7 0 y4) [] (nl_LooseOf_B1 a0 a1 r1 i3 r7 u25), .r [.eq 43 (iA ((i3 + 1 : Nat) : Int))]] [] (an (lt_true hi) (an (idx_ok e_Part h6) (an (nl_pinsOf_ok a0 x5 r7 h8) (an (leni_eq e_Pin r7) (an (nl_LooseOf_l1 a0 a1 r1 i3 r7 y4 (.fin u25) h26) (wrap_eq hi hM)))))) (by kernel_rfl)
  · have h := Option.some.inj h
    subst h
    exact Runs.path XTok PGmix [.r [], .b true, .r [.el (e_Part x5), .id 3], .r [.val (lA 2 (List.map e_Pin r7)), .eq 25 (iA (r7.length : Int))], .s (nl_LooseOf_F1 a0 a1 r1 i3 r7 0 y4) (nl_LooseOf_H1 a0 a1 r1 i3 r7 0 y4) [] (nl_LooseOf_R r27)] [] (an (lt_true hi) (an (idx_ok e_Part h6) (an (nl_pinsOf_ok a0 x5 r7 h8) (an (leni_eq e_Pin r7) (nl_LooseOf_l1 a0 a1 r1 i3 r7 y4 (.ret r27) h26))))) (by kernel_rfl)
theorem nl_LooseOf_b0_e (a0 : List PartType) (a1 : Netlist) (r1 : (List (Pin × Int))) (y4 : List Pin) : Runs PG 45 0 nl_LooseOf_c0 (nl_LooseOf_F0 a0 a1 r1 (a1.Parts.length) y4) (nl_LooseOf_H0 a0 a1 r1 (a1.Parts.length) y4) (nl_LooseOf_B0 a0 a1 r1 y4) := by
  exact Runs.path XTok PGmix [.r [], .b false] [] (lt_false (a1.Parts.length)) (by kernel_rfl)
theorem nl_LooseOf_l0 (a0 : List PartType) (a1 : Netlist) (r1 : (List (Pin × Int))) (y4 : List Pin) (r : Fin' (List Pin) (List Pin)) (h : forN (fun i3 s => nl_LooseOf_b0 a0 a1 r1 i3 s) (a1.Parts.length) 0 y4 = some r) : Runs PG 45 0 (cL (cR (cL (cR (cR (cR nl_LooseOf_c)))))) (nl_LooseOf_F0 a0 a1 r1 0 y4) (nl_LooseOf_H0 a0 a1 r1 0 y4) (finOc (nl_LooseOf_B0 a0 a1 r1) nl_LooseOf_R r) :=
  Runs.loop' (by kernel_rfl) (forN_rounds (σ := (List Pin)) (ρ := (List Pin)) (body := fun i3 s => nl_LooseOf_b0 a0 a1 r1 i3 s) (F := fun i3 s => nl_LooseOf_F0 a0 a1 r1 i3 s) (H := fun i3 s => nl_LooseOf_H0 a0 a1 r1 i3 s) (B := nl_LooseOf_B0 a0 a1 r1) (R := nl_LooseOf_R) (M := a1.Parts.length) (fun _ => rfl) (fun _ => rfl) (fun s => nl_LooseOf_b0_e a0 a1 r1 s) (fun i s o hi h => nl_LooseOf_b0_r a0 a1 r1 i s o hi h) _ 0 _ r (Nat.zero_add _) h)
noncomputable def nl_LooseOf (a0 : List PartType) (a1 : Netlist) : Option (List Pin) :=
 bnd (nl_Nets a1) fun r1 =>
 aft1 (forN (fun i3 s => nl_LooseOf_b0 a0 a1 r1 i3 s) (a1.Parts.length) 0 []) (fun u28 =>
 some u28)
 (fun r30 =>
 some r30)
theorem nl_LooseOf_ok (a0 : List PartType) (a1 : Netlist) (r : List Pin) (h : nl_LooseOf a0 a1 = some r) : Spec PG 54 [lT 2 (List.map e_PartType a0), gT (e_Netlist a1)] [] (lA 2 (List.map e_Pin r)) [] := by
  unfold nl_LooseOf at h
  obtain ⟨r1, h2, h⟩ := bnd_e h
  rcases aft1_e h with ⟨u28, h29, h⟩ | ⟨r30, h29, h⟩
  · have h := Option.some.inj h
    subst h
    exact Spec.path XTok PGmix nl_LooseOf_fn 0 [.r [.id 0, .nl 2], .r [.call [(0, 1)] [gT (e_Netlist a1)] [] (.t (.v (.rt 0))) [(0, .map (keys PG 28) (encM kv_Pin dv_i64 r1))]], .r [.mk 2 28 2], .r [.eq 17 (iA (a1.Parts.length : Int))], .s (nl_LooseOf_F0 a0 a1 r1 0 []) (nl_LooseOf_H0 a0 a1 r1 0 []) [] (nl_LooseOf_B0 a0 a1 r1 u28), .r [], .f 2] (an (an (nl_Nets_ok a1 r1 h2) (an (Eq.refl ([gT (e_Netlist a1)] : List TV)) (Eq.refl (renH (asg [(0, 1)]) [])))) (an (leni_eq e_Part a1.Parts) (nl_LooseOf_l0 a0 a1 r1 [] (.fin u28) h29))) (by kernel_rfl)
  · have h := Option.some.inj h
    subst h
    exact Spec.path XTok PGmix nl_LooseOf_fn 0 [.r [.id 0, .nl 2], .r [.call [(0, 1)] [gT (e_Netlist a1)] [] (.t (.v (.rt 0))) [(0, .map (keys PG 28) (encM kv_Pin dv_i64 r1))]], .r [.mk 2 28 2], .r [.eq 17 (iA (a1.Parts.length : Int))], .s (nl_LooseOf_F0 a0 a1 r1 0 []) (nl_LooseOf_H0 a0 a1 r1 0 []) [] (nl_LooseOf_R r30)] (an (an (nl_Nets_ok a1 r1 h2) (an (Eq.refl ([gT (e_Netlist a1)] : List TV)) (Eq.refl (renH (asg [(0, 1)]) [])))) (an (leni_eq e_Part a1.Parts) (nl_LooseOf_l0 a0 a1 r1 [] (.ret r30) h29))) (by kernel_rfl)

noncomputable def nl_Loose_c : Code := (Go.Proofs.Tryd.f17.body).getD .skip
theorem nl_Loose_fn : FnOk PG 17 nl_Loose_c 16 [.tmp 4, .tmp 5] := ⟨⟨Go.Proofs.Tryd.f17, by kernel_rfl, by kernel_rfl, by kernel_rfl, by kernel_rfl, by kernel_rfl⟩⟩
noncomputable def nl_Loose (a0 : List PartType) (a1 : Netlist) : Option (List Pin × Int) :=
 bnd (nl_CheckList a0 a1) fun r1 =>
 cnd (r1 != 0) (some ([], r1)) (bnd (nl_LooseOf a0 a1) fun r4 =>
 some (r4, 0))
theorem nl_Loose_ok (a0 : List PartType) (a1 : Netlist) (r : List Pin × Int) (h : nl_Loose a0 a1 = some r) : Spec PG 17 [lT 2 (List.map e_PartType a0), gT (e_Netlist a1)] [] (.tup [lT 2 (List.map e_Pin r.1), iT r.2]) [] := by
  unfold nl_Loose at h
  obtain ⟨r1, h2, h⟩ := bnd_e h
  rcases cnd_e h with ⟨h3, h⟩ | ⟨h3, h⟩
  · have h := Option.some.inj h
    subst h
    exact Spec.path XTok PGmix nl_Loose_fn 0 [.r [.id 0, .nl 2], .r [.val (iA r1)], .r [], .b true, .r [.nl 2]] (an (nl_CheckList_ok a0 a1 r1 h2) h3) (by kernel_rfl)
  · obtain ⟨r4, h5, h⟩ := bnd_e h
    have h := Option.some.inj h
    subst h
    exact Spec.path XTok PGmix nl_Loose_fn 0 [.r [.id 0, .nl 2], .r [.val (iA r1)], .r [], .b false, .r [.val (lA 2 (List.map e_Pin r4))]] (an (nl_CheckList_ok a0 a1 r1 h2) (an h3 (nl_LooseOf_ok a0 a1 r4 h5))) (by kernel_rfl)

noncomputable def law_awake_c : Code := (Go.Proofs.Tryd.f20.body).getD .skip
theorem law_awake_fn : FnOk PG 20 law_awake_c 30 [.tmp 0] := ⟨⟨Go.Proofs.Tryd.f20, by kernel_rfl, by kernel_rfl, by kernel_rfl, by kernel_rfl, by kernel_rfl⟩⟩
noncomputable def law_awake : Option Bool :=
 bnd (nl_Loose ([(⟨(⟨#[114]⟩ : ByteArray), [(⟨(⟨#[49]⟩ : ByteArray), 6, 0⟩ : PinType)]⟩ : PartType)]) (⟨[(⟨(⟨#[97]⟩ : ByteArray), (⟨#[114]⟩ : ByteArray)⟩ : Part)], []⟩ : Netlist)) fun r1 =>
 bnd1 (cnd (r1.2 == 0) (cnd ((r1.1.length : Int) == 1) (bnd (atI r1.1 0) fun x8 =>
 some (sEq x8.Part (⟨#[97]⟩ : ByteArray) && (sEq x8.Pin (⟨#[49]⟩ : ByteArray) && true))) (some false)) (some false)) fun v3 =>
 some v3
theorem law_awake_ok (r : Bool) (h : law_awake = some r) : Spec PG 20 [] [] (bA r) [] := by
  unfold law_awake at h
  obtain ⟨r1, h2, h⟩ := bnd_e h
  obtain ⟨v3, h4, h⟩ := bnd1_e h
  let q10_f : Fr := [(2, lA 2 (List.map e_Pin r1.1)), (3, iA r1.2)]
  let q10_g : Hp := []
  let q10_f' : Fr := [(0, bA v3)]
  let q10_g' : Hp := []
  have R5 : Runs PG 30 0 (cL (cR (cR (cR law_awake_c)))) q10_f q10_g (.nor q10_f' q10_g') := by
    rcases cnd_e h4 with ⟨h6, h4⟩ | ⟨h6, h4⟩
    · rcases cnd_e h4 with ⟨h7, h4⟩ | ⟨h7, h4⟩
      · obtain ⟨x8, h9, h4⟩ := bnd_e h4
        have h4 := Option.some.inj h4
        subst h4
        exact Runs.path XTok PGmix [.r [.b true, .b true, .eq 20 (iA (r1.1.length : Int)), .b true, .b true, .b true, .b true, .el (e_Pin x8), .b true, .b true, .b true, .b true]] [] (an h6 (an h6 (an (leni_eq e_Pin r1.1) (an h6 (an h6 (an h7 (an h7 (an (idx_ok e_Pin h9) (an h7 (an h7 (an h7 h7))))))))))) (by kernel_rfl)
      · have h4 := Option.some.inj h4
        subst h4
        exact Runs.path XTok PGmix [.r [.b true, .b true, .eq 20 (iA (r1.1.length : Int)), .b true, .b true, .b false, .b false, .b false, .b false, .b false, .b false]] [] (an h6 (an h6 (an (leni_eq e_Pin r1.1) (an h6 (an h6 (an h7 (an h7 (an h7 (an h7 (an h7 h7)))))))))) (by kernel_rfl)
    · have h4 := Option.some.inj h4
      subst h4
      exact Runs.path XTok PGmix [.r [.b false, .b false, .b false, .b false, .b false, .b false, .b false, .b false, .b false, .b false]] [] (an h6 (an h6 (an h6 (an h6 (an (Eq.refl false) (an (Eq.refl false) (an (Eq.refl false) (an (Eq.refl false) (an (Eq.refl false) (Eq.refl false)))))))))) (by kernel_rfl)
  have h := Option.some.inj h
  subst h
  exact Spec.path XTok PGmix law_awake_fn 0 [.r [], .r [.id 0, .row (List.map e_PinType [(⟨(⟨#[49]⟩ : ByteArray), 6, 0⟩ : PinType)]), .fz 0, .id 0, .row (List.map e_PartType [(⟨(⟨#[114]⟩ : ByteArray), [(⟨(⟨#[49]⟩ : ByteArray), 6, 0⟩ : PinType)]⟩ : PartType)])], .r [.id 1, .row (List.map e_Part [(⟨(⟨#[97]⟩ : ByteArray), (⟨#[114]⟩ : ByteArray)⟩ : Part)]), .fz 0, .fz 1, .val (.tup [lT 2 (List.map e_Pin r1.1), iT r1.2])], .s q10_f q10_g [] (.nor q10_f' q10_g')] (an (Eq.refl (List.flatten (List.map e_PinType [(⟨(⟨#[49]⟩ : ByteArray), 6, 0⟩ : PinType)]))) (an (Eq.refl (List.flatten (List.map e_PartType [(⟨(⟨#[114]⟩ : ByteArray), [(⟨(⟨#[49]⟩ : ByteArray), 6, 0⟩ : PinType)]⟩ : PartType)]))) (an (Eq.refl (List.flatten (List.map e_Part [(⟨(⟨#[97]⟩ : ByteArray), (⟨#[114]⟩ : ByteArray)⟩ : Part)]))) (an (Spec.fit (nl_Loose_ok ([(⟨(⟨#[114]⟩ : ByteArray), [(⟨(⟨#[49]⟩ : ByteArray), 6, 0⟩ : PinType)]⟩ : PartType)]) (⟨[(⟨(⟨#[97]⟩ : ByteArray), (⟨#[114]⟩ : ByteArray)⟩ : Part)], []⟩ : Netlist) r1 h2) (.cons (FitT.v (FitC.same _)) (.cons (FitT.agg (.cons (FitC.same _) (.cons (FitC.nil 3) .nil))) .nil))) R5)))) (by kernel_rfl)

noncomputable def internal_stringslite_Cut_c : Code := (Go.Proofs.Tryd.f126.body).getD .skip
theorem internal_stringslite_Cut_fn : FnOk PG 126 internal_stringslite_Cut_c 23 [.tmp 4, .tmp 5, .tmp 6] := ⟨⟨Go.Proofs.Tryd.f126, by kernel_rfl, by kernel_rfl, by kernel_rfl, by kernel_rfl, by kernel_rfl⟩⟩
noncomputable def internal_stringslite_Cut (a0 : ByteArray) (a1 : ByteArray) : Option (ByteArray × ByteArray × Bool) :=
 bnd (h_Index2 a0 a1) fun r1 =>
 cnd (decide (r1 ≥ 0)) (grd ((0 : Int) ≤ 0 ∧ 0 ≤ r1 ∧ r1 ≤ (a0.size : Int)) <|
 grd ((0 : Int) ≤ w64 (r1 + (a1.size : Int)) ∧ w64 (r1 + (a1.size : Int)) ≤ (a0.size : Int)) <|
 some (a0.extract (Int.toNat 0) (Int.toNat r1), a0.extract (Int.toNat (w64 (r1 + (a1.size : Int)))) a0.size, true)) (some (a0, (⟨#[]⟩ : ByteArray), false))
theorem internal_stringslite_Cut_ok (a0 : ByteArray) (a1 : ByteArray) (r : ByteArray × ByteArray × Bool) (h : internal_stringslite_Cut a0 a1 = some r) : Spec PG 126 [sT a0, sT a1] [] (.tup [sT r.1, sT r.2.1, bT r.2.2]) [] := by
  unfold internal_stringslite_Cut at h
  obtain ⟨r1, h2, h⟩ := bnd_e h
  rcases cnd_e h with ⟨h3, h⟩ | ⟨h3, h⟩
  · obtain ⟨h4, h⟩ := grd_e h
    obtain ⟨h5, h⟩ := grd_e h
    have h := Option.some.inj h
    subst h
    exact Spec.path XTok PGmix internal_stringslite_Cut_fn 0 [.r [], .r [.val (iA r1)], .r [], .b true, .d [([], []), ([], []), ([], []), ([], []), ([], []), ([], []), ([], []), ([], []), ([], []), ([], []), ([], []), ([], [])]] (an (h_Index2_ok a0 a1 r1 h2) (an h3 (an h4 h5))) (by kernel_rfl)
  · have h := Option.some.inj h
    subst h
    exact Spec.path XTok PGmix internal_stringslite_Cut_fn 0 [.r [], .r [.val (iA r1)], .r [], .b false, .r []] (an (h_Index2_ok a0 a1 r1 h2) h3) (by kernel_rfl)

noncomputable def strings_Cut_c : Code := (Go.Proofs.Tryd.f65.body).getD .skip
theorem strings_Cut_fn : FnOk PG 65 strings_Cut_c 13 [.tmp 4, .tmp 5, .tmp 6] := ⟨⟨Go.Proofs.Tryd.f65, by kernel_rfl, by kernel_rfl, by kernel_rfl, by kernel_rfl, by kernel_rfl⟩⟩
noncomputable def strings_Cut (a0 : ByteArray) (a1 : ByteArray) : Option (ByteArray × ByteArray × Bool) :=
 bnd (internal_stringslite_Cut a0 a1) fun r1 =>
 some (r1.1, r1.2.1, r1.2.2)
theorem strings_Cut_ok (a0 : ByteArray) (a1 : ByteArray) (r : ByteArray × ByteArray × Bool) (h : strings_Cut a0 a1 = some r) : Spec PG 65 [sT a0, sT a1] [] (.tup [sT r.1, sT r.2.1, bT r.2.2]) [] := by
  unfold strings_Cut at h
  obtain ⟨r1, h2, h⟩ := bnd_e h
  have h := Option.some.inj h
  subst h
  exact Spec.path XTok PGmix strings_Cut_fn 0 [.r [], .r [.val (.tup [sT r1.1, sT r1.2.1, bT r1.2.2])]] (internal_stringslite_Cut_ok a0 a1 r1 h2) (by kernel_rfl)

noncomputable def strings_indexFunc_c : Code := (Go.Proofs.Tryd.f198.body).getD .skip
theorem strings_indexFunc_fn : FnOk PG 198 strings_indexFunc_c 21 [.tmp 6] := ⟨⟨Go.Proofs.Tryd.f198, by kernel_rfl, by kernel_rfl, by kernel_rfl, by kernel_rfl, by kernel_rfl⟩⟩
noncomputable def strings_indexFunc_c0 : Code := cL (cL (cR (cL (cR strings_indexFunc_c))))
noncomputable def strings_indexFunc_R (r : Int) : Oc := .ret [(6, iA r)] []
noncomputable def strings_indexFunc_F0 (a1_k : FuncId) (a1_c : List C) (a0 : ByteArray) (a2 : Bool) (y1 : Nat) : Fr := [(1, .t (.v (.c (.fn a1_k a1_c)))), (2, bA a2), (10, .t (.v (.rt 0)))]
noncomputable def strings_indexFunc_H0 (a1_k : FuncId) (a1_c : List C) (a0 : ByteArray) (a2 : Bool) (y1 : Nat) : Hp := [(0, .iter a0 y1)]
noncomputable def strings_indexFunc_B0 (a1_k : FuncId) (a1_c : List C) (a0 : ByteArray) (a2 : Bool) (s : Nat) : Oc := .ex 0 [] []
noncomputable def strings_indexFunc_b0 (a1 : Int → Option Bool) (a0 : ByteArray) (a2 : Bool) (y1 : Nat) : Option (Stp Nat Int) :=
 cnd (decide (y1 < a0.size)) (bnd (a1 ((Utf8.decode a0 y1).1 : Int)) fun r3 =>
 cnd (r3 == a2) (some (.ret (y1 : Int))) (some (.go (y1 + (Utf8.decode a0 y1).2)))) (some (.brk y1))
theorem strings_indexFunc_b0_r (a1_k : FuncId) (a1_c : List C) (a1 : Int → Option Bool) (a1_ok : ∀ (z0 : Int) (r : Bool), a1 z0 = some r → Spec PG a1_k ([.v (.c (.v (.int .i32 z0)))] ++ List.map (fun x => TV.v (CV.c x)) a1_c) [] (bA r) []) (a0 : ByteArray) (a2 : Bool) (y1 : Nat) (o : Stp Nat Int) (h : strings_indexFunc_b0 a1 a0 a2 y1 = some o) :
    Runs PG 21 0 strings_indexFunc_c0 (strings_indexFunc_F0 a1_k a1_c a0 a2 y1) (strings_indexFunc_H0 a1_k a1_c a0 a2 y1) (stpOc (fun s' => .nor (strings_indexFunc_F0 a1_k a1_c a0 a2 s') (strings_indexFunc_H0 a1_k a1_c a0 a2 s')) (strings_indexFunc_B0 a1_k a1_c a0 a2) strings_indexFunc_R o) := by
  unfold strings_indexFunc_b0 at h
  rcases cnd_e h with ⟨h2, h⟩ | ⟨h2, h⟩
  · obtain ⟨r3, h4, h⟩ := bnd_e h
    rcases cnd_e h with ⟨h5, h⟩ | ⟨h5, h⟩
    · have h := Option.some.inj h
      subst h
      exact Runs.path XTok PGmix [.r [.b true], .b true, .r [], .r [.val (bA r3)], .b true, .r []] [] (an (of_decide_eq_true h2) (an (Eq.refl true) (an (a1_ok ((Utf8.decode a0 y1).1 : Int) r3 h4) h5))) (by kernel_rfl)
    · have h := Option.some.inj h
      subst h
      exact Runs.path XTok PGmix [.r [.b true], .b true, .r [], .r [.val (bA r3)], .b false] [] (an (of_decide_eq_true h2) (an (Eq.refl true) (an (a1_ok ((Utf8.decode a0 y1).1 : Int) r3 h4) h5))) (by kernel_rfl)
  · have h := Option.some.inj h
    subst h
    exact Runs.path XTok PGmix [.r [.b false], .b false] [] (an (of_decide_eq_false h2) (Eq.refl false)) (by kernel_rfl)
theorem strings_indexFunc_l0 (a1_k : FuncId) (a1_c : List C) (a1 : Int → Option Bool) (a1_ok : ∀ (z0 : Int) (r : Bool), a1 z0 = some r → Spec PG a1_k ([.v (.c (.v (.int .i32 z0)))] ++ List.map (fun x => TV.v (CV.c x)) a1_c) [] (bA r) []) (a0 : ByteArray) (a2 : Bool) (y1 : Nat) (r : Fin' Nat Int) (h : loop (fun s => strings_indexFunc_b0 a1 a0 a2 s) y1 = some r) : Runs PG 21 0 (cL (cR (cL (cR strings_indexFunc_c)))) (strings_indexFunc_F0 a1_k a1_c a0 a2 y1) (strings_indexFunc_H0 a1_k a1_c a0 a2 y1) (finOc (strings_indexFunc_B0 a1_k a1_c a0 a2) strings_indexFunc_R r) :=
  Runs.loop' (by kernel_rfl) (loop_rounds (σ := Nat) (ρ := Int) (body := fun s => strings_indexFunc_b0 a1 a0 a2 s) (F := fun s => strings_indexFunc_F0 a1_k a1_c a0 a2 s) (H := fun s => strings_indexFunc_H0 a1_k a1_c a0 a2 s) (B := strings_indexFunc_B0 a1_k a1_c a0 a2) (R := strings_indexFunc_R) (fun _ => rfl) (fun _ => rfl) (fun s o h => strings_indexFunc_b0_r a1_k a1_c a1 a1_ok a0 a2 s o h) h)
noncomputable def strings_indexFunc (a0 : ByteArray) (a1 : Int → Option Bool) (a2 : Bool) : Option Int :=
 aft1 (loop (fun s => strings_indexFunc_b0 a1 a0 a2 s) 0) (fun u6 =>
 some (-1))
 (fun r8 =>
 some r8)
theorem strings_indexFunc_ok (a0 : ByteArray) (a1_k : FuncId) (a1_c : List C) (a1 : Int → Option Bool) (a1_ok : ∀ (z0 : Int) (r : Bool), a1 z0 = some r → Spec PG a1_k ([.v (.c (.v (.int .i32 z0)))] ++ List.map (fun x => TV.v (CV.c x)) a1_c) [] (bA r) []) (a2 : Bool) (r : Int) (h : strings_indexFunc a0 a1 a2 = some r) : Spec PG 198 [sT a0, .v (.c (.fn a1_k a1_c)), bT a2] [] (iA r) [] := by
  unfold strings_indexFunc at h
  rcases aft1_e h with ⟨u6, h7, h⟩ | ⟨r8, h7, h⟩
  · have h := Option.some.inj h
    subst h
    exact Spec.path XTok PGmix strings_indexFunc_fn 0 [.r [], .r [.id 0], .s (strings_indexFunc_F0 a1_k a1_c a0 a2 0) (strings_indexFunc_H0 a1_k a1_c a0 a2 0) [] (strings_indexFunc_B0 a1_k a1_c a0 a2 u6), .r []] (an trivial (strings_indexFunc_l0 a1_k a1_c a1 a1_ok a0 a2 0 (.fin u6) h7)) (by kernel_rfl)
  · have h := Option.some.inj h
    subst h
    exact Spec.path XTok PGmix strings_indexFunc_fn 0 [.r [], .r [.id 0], .s (strings_indexFunc_F0 a1_k a1_c a0 a2 0) (strings_indexFunc_H0 a1_k a1_c a0 a2 0) [] (strings_indexFunc_R r8)] (an trivial (strings_indexFunc_l0 a1_k a1_c a1 a1_ok a0 a2 0 (.ret r8) h7)) (by kernel_rfl)

noncomputable def strings_IndexFunc_c : Code := (Go.Proofs.Tryd.f170.body).getD .skip
theorem strings_IndexFunc_fn : FnOk PG 170 strings_IndexFunc_c 8 [.tmp 4] := ⟨⟨Go.Proofs.Tryd.f170, by kernel_rfl, by kernel_rfl, by kernel_rfl, by kernel_rfl, by kernel_rfl⟩⟩
noncomputable def strings_IndexFunc (a0 : ByteArray) (a1 : Int → Option Bool) : Option Int :=
 bnd (strings_indexFunc a0 a1 true) fun r1 =>
 some r1
theorem strings_IndexFunc_ok (a0 : ByteArray) (a1_k : FuncId) (a1_c : List C) (a1 : Int → Option Bool) (a1_ok : ∀ (z0 : Int) (r : Bool), a1 z0 = some r → Spec PG a1_k ([.v (.c (.v (.int .i32 z0)))] ++ List.map (fun x => TV.v (CV.c x)) a1_c) [] (bA r) []) (r : Int) (h : strings_IndexFunc a0 a1 = some r) : Spec PG 170 [sT a0, .v (.c (.fn a1_k a1_c))] [] (iA r) [] := by
  unfold strings_IndexFunc at h
  obtain ⟨r1, h2, h⟩ := bnd_e h
  have h := Option.some.inj h
  subst h
  exact Spec.path XTok PGmix strings_IndexFunc_fn 0 [.r [], .r [.val (iA r1)]] (strings_indexFunc_ok a0 a1_k a1_c a1 a1_ok true r1 h2) (by kernel_rfl)

noncomputable def strings_ContainsFunc_c : Code := (Go.Proofs.Tryd.f136.body).getD .skip
theorem strings_ContainsFunc_fn : FnOk PG 136 strings_ContainsFunc_c 9 [.tmp 4] := ⟨⟨Go.Proofs.Tryd.f136, by kernel_rfl, by kernel_rfl, by kernel_rfl, by kernel_rfl, by kernel_rfl⟩⟩
noncomputable def strings_ContainsFunc (a0 : ByteArray) (a1 : Int → Option Bool) : Option Bool :=
 bnd (strings_IndexFunc a0 a1) fun r1 =>
 some (decide (r1 ≥ 0))
theorem strings_ContainsFunc_ok (a0 : ByteArray) (a1_k : FuncId) (a1_c : List C) (a1 : Int → Option Bool) (a1_ok : ∀ (z0 : Int) (r : Bool), a1 z0 = some r → Spec PG a1_k ([.v (.c (.v (.int .i32 z0)))] ++ List.map (fun x => TV.v (CV.c x)) a1_c) [] (bA r) []) (r : Bool) (h : strings_ContainsFunc a0 a1 = some r) : Spec PG 136 [sT a0, .v (.c (.fn a1_k a1_c))] [] (bA r) [] := by
  unfold strings_ContainsFunc at h
  obtain ⟨r1, h2, h⟩ := bnd_e h
  have h := Option.some.inj h
  subst h
  exact Spec.path XTok PGmix strings_ContainsFunc_fn 0 [.r [], .r [.val (iA r1)]] (strings_IndexFunc_ok a0 a1_k a1_c a1 a1_ok r1 h2) (by kernel_rfl)

noncomputable def nl_isPlain_1_c : Code := (Go.Proofs.Tryd.f137.body).getD .skip
theorem nl_isPlain_1_fn : FnOk PG 137 nl_isPlain_1_c 13 [.tmp 2] := ⟨⟨Go.Proofs.Tryd.f137, by kernel_rfl, by kernel_rfl, by kernel_rfl, by kernel_rfl, by kernel_rfl⟩⟩
noncomputable def nl_isPlain_1 (a0 : Int) : Option Bool :=
 bnd1 (cnd (decide (a0 < 33)) (some true) (cnd (decide (a0 > 126)) (some true) (some (a0 == 46)))) fun v1 =>
 some v1
theorem nl_isPlain_1_ok (a0 : Int) (r : Bool) (h : nl_isPlain_1 a0 = some r) : Spec PG 137 [.v (.c (.v (.int .i32 a0)))] [] (bA r) [] := by
  unfold nl_isPlain_1 at h
  obtain ⟨v1, h2, h⟩ := bnd1_e h
  let q6_f : Fr := [(0, .t (.v (.c (.v (.int .i32 a0)))))]
  let q6_g : Hp := []
  let q6_f' : Fr := [(2, bA v1)]
  let q6_g' : Hp := []
  have R3 : Runs PG 13 0 (cL (cR nl_isPlain_1_c)) q6_f q6_g (.nor q6_f' q6_g') := by
    rcases cnd_e h2 with ⟨h4, h2⟩ | ⟨h4, h2⟩
    · have h2 := Option.some.inj h2
      subst h2
      exact Runs.path XTok PGmix [.r [.b true, .b true, .b true, .b true, .b true, .b true]] [] (an h4 (an h4 (an h4 (an (Eq.refl true) (an (Eq.refl true) (Eq.refl true)))))) (by kernel_rfl)
    · rcases cnd_e h2 with ⟨h5, h2⟩ | ⟨h5, h2⟩
      · have h2 := Option.some.inj h2
        subst h2
        exact Runs.path XTok PGmix [.r [.b false, .b false, .b false, .b true, .b true, .b true]] [] (an h4 (an h4 (an h4 (an h5 (an h5 h5))))) (by kernel_rfl)
      · have h2 := Option.some.inj h2
        subst h2
        exact Runs.path XTok PGmix [.r [.b false, .b false, .b false, .b false, .b false, .b false]] [] (an h4 (an h4 (an h4 (an h5 (an h5 h5))))) (by kernel_rfl)
  have h := Option.some.inj h
  subst h
  exact Spec.path XTok PGmix nl_isPlain_1_fn 0 [.r [], .s q6_f q6_g [] (.nor q6_f' q6_g')] R3 (by kernel_rfl)

noncomputable def nl_isPlain_c : Code := (Go.Proofs.Tryd.f90.body).getD .skip
theorem nl_isPlain_fn : FnOk PG 90 nl_isPlain_c 10 [.tmp 2] := ⟨⟨Go.Proofs.Tryd.f90, by kernel_rfl, by kernel_rfl, by kernel_rfl, by kernel_rfl, by kernel_rfl⟩⟩
noncomputable def nl_isPlain (a0 : ByteArray) : Option Bool :=
 bnd1 (cnd (sNe a0 (⟨#[]⟩ : ByteArray)) (bnd (strings_ContainsFunc a0 (fun z0 => nl_isPlain_1 z0)) fun r5 =>
 some (!r5)) (some false)) fun v1 =>
 some v1
theorem nl_isPlain_ok (a0 : ByteArray) (r : Bool) (h : nl_isPlain a0 = some r) : Spec PG 90 [sT a0] [] (bA r) [] := by
  unfold nl_isPlain at h
  obtain ⟨v1, h2, h⟩ := bnd1_e h
  let q7_f : Fr := [(0, sA a0)]
  let q7_g : Hp := []
  let q7_f' : Fr := [(2, bA v1)]
  let q7_g' : Hp := []
  have R3 : Runs PG 10 0 (cL (cR nl_isPlain_c)) q7_f q7_g (.nor q7_f' q7_g') := by
    rcases cnd_e h2 with ⟨h4, h2⟩ | ⟨h4, h2⟩
    · obtain ⟨r5, h6, h2⟩ := bnd_e h2
      have h2 := Option.some.inj h2
      subst h2
      exact Runs.path XTok PGmix [.r [.b true, .b true, .val (bA r5), .b true, .b true]] [] (an h4 (an h4 (an (strings_ContainsFunc_ok a0 137 [] (fun z0 => nl_isPlain_1 z0) (fun z0 r h => nl_isPlain_1_ok z0 r h) r5 h6) (an h4 h4)))) (by kernel_rfl)
    · have h2 := Option.some.inj h2
      subst h2
      exact Runs.path XTok PGmix [.r [.b false, .b false, .b false, .b false]] [] (an h4 (an h4 (an h4 h4))) (by kernel_rfl)
  have h := Option.some.inj h
  subst h
  exact Spec.path XTok PGmix nl_isPlain_fn 0 [.r [], .s q7_f q7_g [] (.nor q7_f' q7_g')] R3 (by kernel_rfl)

noncomputable def nl_readLine_c : Code := (Go.Proofs.Tryd.f66.body).getD .skip
theorem nl_readLine_fn : FnOk PG 66 nl_readLine_c 120 [.tmp 4] := ⟨⟨Go.Proofs.Tryd.f66, by kernel_rfl, by kernel_rfl, by kernel_rfl, by kernel_rfl, by kernel_rfl⟩⟩
noncomputable def nl_readLine_c0 : Code := cL (cL (cR (cL (cR (cL (cR (cR (cR (cL (cL (cR (cR nl_readLine_c))))))))))))
noncomputable def nl_readLine_R (r : Bool × Netlist) : Oc := .ret [(4, bA r.1)] [(0, .cells 26 [.rt 3, .rt 4]), (3, .row 73 2 (List.map e_Part r.2.Parts)), (4, .row 64 3 (List.map e_Net r.2.Nets))]
noncomputable def nl_readLine_F0 (a0 : Netlist) (r1 : List ByteArray) (x38 : ByteArray) (i41 : Nat) (y42 : List Pin) : Fr := [(0, .t (.v (.ptr 0 0))), (5, lA 1 (List.map e_str r1)), (6, .t (.v (.ptr 5 0))), (73, lA 1 (List.map e_str (r1.drop (Int.toNat 2)))), (74, iA ((r1.drop (Int.toNat 2)).length : Int)), (75, iA (i41 : Int))]
noncomputable def nl_readLine_H0 (a0 : Netlist) (r1 : List ByteArray) (x38 : ByteArray) (i41 : Nat) (y42 : List Pin) : Hp := [(0, .cells 26 [.rt 3, .rt 4]), (3, .row 73 2 (List.map e_Part a0.Parts)), (4, .row 64 3 (List.map e_Net a0.Nets)), (5, .cells 64 [.c (sC x38), .rt 6, .c (.nil)]), (6, .row 28 2 (List.map e_Pin y42))]
noncomputable def nl_readLine_B0 (a0 : Netlist) (r1 : List ByteArray) (x38 : ByteArray) (s : List Pin) : Oc := .ex 1 [(0, .t (.v (.ptr 0 0))), (5, lA 1 (List.map e_str r1)), (6, .t (.v (.ptr 5 0)))] [(0, .cells 26 [.rt 3, .rt 4]), (3, .row 73 2 (List.map e_Part a0.Parts)), (4, .row 64 3 (List.map e_Net a0.Nets)), (5, .cells 64 [.c (sC x38), .rt 6, .c (.nil)]), (6, .row 28 2 (List.map e_Pin s))]
noncomputable def nl_readLine_b0 (a0 : Netlist) (r1 : List ByteArray) (x38 : ByteArray) (i41 : Nat) (y42 : List Pin) : Option (Stp (List Pin) (Bool × Netlist)) :=
 bnd (atI (r1.drop (Int.toNat 2)) (i41 : Int)) fun x43 =>
 bnd (strings_Cut x43 (⟨#[46]⟩ : ByteArray)) fun r45 =>
 bnd1 (cnd (!r45.2.2) (some true) (bnd (nl_isPlain r45.1) fun r51 =>
 cnd (!r51) (some true) (bnd (nl_isPlain r45.2.1) fun r54 =>
 some (!r54)))) fun v47 =>
 cnd v47 (some (.ret (false, a0))) (grd (y42.length + [(⟨r45.1, r45.2.1⟩ : Pin)].length ≤ lim) <|
 some (.go (y42 ++ [(⟨r45.1, r45.2.1⟩ : Pin)])))
theorem nl_readLine_b0_r (a0 : Netlist) (r1 : List ByteArray) (x38 : ByteArray) (i41 : Nat) (y42 : List Pin) (o : Stp (List Pin) (Bool × Netlist)) (hi : i41 < (r1.drop (Int.toNat 2)).length) (h : nl_readLine_b0 a0 r1 x38 i41 y42 = some o) :
    Runs PG 120 3 nl_readLine_c0 (nl_readLine_F0 a0 r1 x38 i41 y42) (nl_readLine_H0 a0 r1 x38 i41 y42) (stpOc (fun s' => .nor (nl_readLine_F0 a0 r1 x38 (i41 + 1) s') (nl_readLine_H0 a0 r1 x38 (i41 + 1) s')) (nl_readLine_B0 a0 r1 x38) nl_readLine_R o) := by
  unfold nl_readLine_b0 at h
  refine Runs.len (s := 73) (sz := 1) (xs := List.map e_str (r1.drop (Int.toNat 2))) (by kernel_rfl) fun hl => ?_
  have hM : (r1.drop (Int.toNat 2)).length ≤ lim := len_of hl
  obtain ⟨x43, h44, h⟩ := bnd_e h
  obtain ⟨r45, h46, h⟩ := bnd_e h
  obtain ⟨v47, h48, h⟩ := bnd1_e h
  let q56_f : Fr := [(0, .t (.v (.ptr 0 0))), (5, lA 1 (List.map e_str r1)), (6, .t (.v (.ptr 5 0))), (9, sA r45.1), (10, sA r45.2.1), (11, bA r45.2.2), (73, lA 1 (List.map e_str (r1.drop (Int.toNat 2)))), (74, iA ((r1.drop (Int.toNat 2)).length : Int)), (75, iA (i41 : Int))]
  let q56_g : Hp := [(0, .cells 26 [.rt 3, .rt 4]), (3, .row 73 2 (List.map e_Part a0.Parts)), (4, .row 64 3 (List.map e_Net a0.Nets)), (5, .cells 64 [.c (sC x38), .rt 6, .c (.nil)]), (6, .row 28 2 (List.map e_Pin y42))]
  let q56_f' : Fr := [(0, .t (.v (.ptr 0 0))), (5, lA 1 (List.map e_str r1)), (6, .t (.v (.ptr 5 0))), (9, sA r45.1), (10, sA r45.2.1), (73, lA 1 (List.map e_str (r1.drop (Int.toNat 2)))), (74, iA ((r1.drop (Int.toNat 2)).length : Int)), (75, iA (i41 : Int)), (96, bA v47)]
  let q56_g' : Hp := [(0, .cells 26 [.rt 3, .rt 4]), (3, .row 73 2 (List.map e_Part a0.Parts)), (4, .row 64 3 (List.map e_Net a0.Nets)), (5, .cells 64 [.c (sC x38), .rt 6, .c (.nil)]), (6, .row 28 2 (List.map e_Pin y42))]
  have R49 : Runs PG 120 3 (cL (cL (cR (cR (cL (cL (cR (cR nl_readLine_c0)))))))) q56_f q56_g (.nor q56_f' q56_g') := by
    rcases cnd_e h48 with ⟨h50, h48⟩ | ⟨h50, h48⟩
    · have h48 := Option.some.inj h48
      subst h48
      exact Runs.path XTok PGmix [.r [.b true, .b true, .b true, .b true, .b true, .b true, .b true, .b true]] [] (an h50 (an h50 (an h50 (an h50 (an (Eq.refl true) (an (Eq.refl true) (an (Eq.refl true) (Eq.refl true)))))))) (by kernel_rfl)
    · obtain ⟨r51, h52, h48⟩ := bnd_e h48
      rcases cnd_e h48 with ⟨h53, h48⟩ | ⟨h53, h48⟩
      · have h48 := Option.some.inj h48
        subst h48
        exact Runs.path XTok PGmix [.r [.b false, .b false, .val (bA r51), .b false, .b false, .b true, .b true, .b true, .b true]] [] (an h50 (an h50 (an (nl_isPlain_ok r45.1 r51 h52) (an h50 (an h50 (an h53 (an h53 (an h53 h53)))))))) (by kernel_rfl)
      · obtain ⟨r54, h55, h48⟩ := bnd_e h48
        have h48 := Option.some.inj h48
        subst h48
        exact Runs.path XTok PGmix [.r [.b false, .b false, .val (bA r51), .b false, .b false, .b false, .b false, .val (bA r54), .b false, .b false]] [] (an h50 (an h50 (an (nl_isPlain_ok r45.1 r51 h52) (an h50 (an h50 (an h53 (an h53 (an (nl_isPlain_ok r45.2.1 r54 h55) (an h53 h53))))))))) (by kernel_rfl)
  rcases cnd_e h with ⟨h57, h⟩ | ⟨h57, h⟩
  · have h := Option.some.inj h
    subst h
    exact Runs.path XTok PGmix [.r [], .b true, .r [.el [sC x43]], .r [.val (.tup [sT r45.1, sT r45.2.1, bT r45.2.2])], .s q56_f q56_g [] (.nor q56_f' q56_g'), .b true, .r []] [] (an (lt_true hi) (an (idx_ok e_str h44) (an (strings_Cut_ok x43 (⟨#[46]⟩ : ByteArray) r45 h46) (an R49 h57)))) (by kernel_rfl)
  · obtain ⟨h58, h⟩ := grd_e h
    have h := Option.some.inj h
    subst h
    exact Runs.path XTok PGmix [.r [], .b true, .r [.el [sC x43]], .r [.val (.tup [sT r45.1, sT r45.2.1, bT r45.2.2])], .s q56_f q56_g [] (.nor q56_f' q56_g'), .b false, .r [.id 7, .row (List.map e_Pin [(⟨r45.1, r45.2.1⟩ : Pin)]), .id 8, .row (List.map e_Pin (y42 ++ [(⟨r45.1, r45.2.1⟩ : Pin)]))], .r [.eq 105 (iA ((i41 + 1 : Nat) : Int))]] [(6, 8)] (an (lt_true hi) (an (idx_ok e_str h44) (an (strings_Cut_ok x43 (⟨#[46]⟩ : ByteArray) r45 h46) (an R49 (an h57 (an (Eq.refl (List.flatten (List.map e_Pin [(⟨r45.1, r45.2.1⟩ : Pin)]))) (an (app_ok e_Pin h58) (wrap_eq hi hM)))))))) (by kernel_rfl)
theorem nl_readLine_b0_e (a0 : Netlist) (r1 : List ByteArray) (x38 : ByteArray) (y42 : List Pin) : Runs PG 120 3 nl_readLine_c0 (nl_readLine_F0 a0 r1 x38 ((r1.drop (Int.toNat 2)).length) y42) (nl_readLine_H0 a0 r1 x38 ((r1.drop (Int.toNat 2)).length) y42) (nl_readLine_B0 a0 r1 x38 y42) := by
  exact Runs.path XTok PGmix [.r [], .b false] [] (lt_false ((r1.drop (Int.toNat 2)).length)) (by kernel_rfl)
theorem nl_readLine_l0 (a0 : Netlist) (r1 : List ByteArray) (x38 : ByteArray) (y42 : List Pin) (r : Fin' (List Pin) (Bool × Netlist)) (h : forN (fun i41 s => nl_readLine_b0 a0 r1 x38 i41 s) ((r1.drop (Int.toNat 2)).length) 0 y42 = some r) : Runs PG 120 3 (cL (cR (cL (cR (cL (cR (cR (cR (cL (cL (cR (cR nl_readLine_c)))))))))))) (nl_readLine_F0 a0 r1 x38 0 y42) (nl_readLine_H0 a0 r1 x38 0 y42) (finOc (nl_readLine_B0 a0 r1 x38) nl_readLine_R r) :=
  Runs.loop' (by kernel_rfl) (forN_rounds (σ := (List Pin)) (ρ := (Bool × Netlist)) (body := fun i41 s => nl_readLine_b0 a0 r1 x38 i41 s) (F := fun i41 s => nl_readLine_F0 a0 r1 x38 i41 s) (H := fun i41 s => nl_readLine_H0 a0 r1 x38 i41 s) (B := nl_readLine_B0 a0 r1 x38) (R := nl_readLine_R) (M := (r1.drop (Int.toNat 2)).length) (fun _ => rfl) (fun _ => rfl) (fun s => nl_readLine_b0_e a0 r1 x38 s) (fun i s o hi h => nl_readLine_b0_r a0 r1 x38 i s o hi h) _ 0 _ r (Nat.zero_add _) h)
noncomputable def nl_readLine (a0 : Netlist) (a1 : ByteArray) : Option (Bool × Netlist) :=
 bnd (strings_Split a1 (⟨#[32]⟩ : ByteArray)) fun r1 =>
 bnd1 (bnd (atI r1 0) fun x6 =>
 cnd (sEq x6 (⟨#[112, 97, 114, 116]⟩ : ByteArray)) (cnd ((r1.length : Int) == 3) (some ((a0.Nets.length : Int) == 0)) (some false)) (some false)) fun v3 =>
 cnd v3 (bnd (atI r1 1) fun x12 =>
 bnd (atI r1 2) fun x14 =>
 grd (a0.Parts.length + [(⟨x12, x14⟩ : Part)].length ≤ lim) <|
 bnd1 (bnd (atI r1 1) fun x20 =>
 bnd (nl_isPlain x20) fun r22 =>
 cnd r22 (bnd (atI r1 2) fun x25 =>
 bnd (nl_isPlain x25) fun r27 =>
 some r27) (some false)) fun v17 =>
 some (v17, (⟨a0.Parts ++ [(⟨x12, x14⟩ : Part)], a0.Nets⟩ : Netlist))) (bnd1 (bnd (atI r1 0) fun x33 =>
 cnd (sEq x33 (⟨#[110, 101, 116]⟩ : ByteArray)) (some (decide ((r1.length : Int) ≥ 2))) (some false)) fun v30 =>
 cnd v30 (bnd (atI r1 1) fun x38 =>
 grd ((0 : Int) ≤ 2 ∧ 2 ≤ (r1.length : Int)) <|
 aft1 (forN (fun i41 s => nl_readLine_b0 a0 r1 x38 i41 s) ((r1.drop (Int.toNat 2)).length) 0 []) (fun u59 =>
 grd (a0.Nets.length + ([(⟨x38, u59, []⟩ : Net)]).length ≤ lim) <|
 bnd (atI r1 1) fun x63 =>
 bnd (nl_isPlain x63) fun r65 =>
 some (r65, (⟨a0.Parts, a0.Nets ++ ([(⟨x38, u59, []⟩ : Net)])⟩ : Netlist)))
 (fun r61 =>
 some r61)) (some (false, a0)))
theorem nl_readLine_ok (a0 : Netlist) (a1 : ByteArray) (r : Bool × Netlist) (h : nl_readLine a0 a1 = some r) : Spec PG 66 [.v (.ptr 0 0), sT a1] [(0, .cells 26 [.rt 1, .rt 2]), (1, .row 73 2 (List.map e_Part a0.Parts)), (2, .row 64 3 (List.map e_Net a0.Nets))] (bA r.1) [(0, .cells 26 [.rt 3, .rt 4]), (3, .row 73 2 (List.map e_Part r.2.Parts)), (4, .row 64 3 (List.map e_Net r.2.Nets))] := by
  unfold nl_readLine at h
  obtain ⟨r1, h2, h⟩ := bnd_e h
  obtain ⟨v3, h4, h⟩ := bnd1_e h
  let q10_f : Fr := [(0, .t (.v (.ptr 0 0))), (5, lA 1 (List.map e_str r1))]
  let q10_g : Hp := [(0, .cells 26 [.rt 3, .rt 4]), (3, .row 73 2 (List.map e_Part a0.Parts)), (4, .row 64 3 (List.map e_Net a0.Nets))]
  let q10_f' : Fr := [(0, .t (.v (.ptr 0 0))), (5, lA 1 (List.map e_str r1)), (14, bA v3)]
  let q10_g' : Hp := [(0, .cells 26 [.rt 3, .rt 4]), (3, .row 73 2 (List.map e_Part a0.Parts)), (4, .row 64 3 (List.map e_Net a0.Nets))]
  have R5 : Runs PG 120 3 (cL (cL (cL (cR (cR nl_readLine_c))))) q10_f q10_g (.nor q10_f' q10_g') := by
    obtain ⟨x6, h7, h4⟩ := bnd_e h4
    rcases cnd_e h4 with ⟨h8, h4⟩ | ⟨h8, h4⟩
    · rcases cnd_e h4 with ⟨h9, h4⟩ | ⟨h9, h4⟩
      · have h4 := Option.some.inj h4
        subst h4
        exact Runs.path XTok PGmix [.r [.el [sC x6], .b true, .b true, .eq 21 (iA (r1.length : Int)), .b true, .b true, .b true, .b true, .b true, .b true, .b true, .eq 29 (iA (a0.Nets.length : Int)), .b true, .b true]] [] (an (idx_ok e_str h7) (an h8 (an h8 (an (leni_eq e_str r1) (an h8 (an h8 (an h9 (an h9 (an h9 (an h9 (an h9 (an (leni_eq e_Net a0.Nets) (an h9 h9))))))))))))) (by kernel_rfl)
      · have h4 := Option.some.inj h4
        subst h4
        exact Runs.path XTok PGmix [.r [.el [sC x6], .b true, .b true, .eq 21 (iA (r1.length : Int)), .b true, .b true, .b false, .b false, .b false, .b false, .b false, .b false, .b false]] [] (an (idx_ok e_str h7) (an h8 (an h8 (an (leni_eq e_str r1) (an h8 (an h8 (an h9 (an h9 (an h9 (an h9 (an h9 (an h9 h9)))))))))))) (by kernel_rfl)
    · have h4 := Option.some.inj h4
      subst h4
      exact Runs.path XTok PGmix [.r [.el [sC x6], .b false, .b false, .b false, .b false, .b false, .b false, .b false, .b false, .b false, .b false, .b false]] [] (an (idx_ok e_str h7) (an h8 (an h8 (an h8 (an h8 (an (Eq.refl false) (an (Eq.refl false) (an (Eq.refl false) (an (Eq.refl false) (an (Eq.refl false) (an (Eq.refl false) (Eq.refl false)))))))))))) (by kernel_rfl)
  rcases cnd_e h with ⟨h11, h⟩ | ⟨h11, h⟩
  · obtain ⟨x12, h13, h⟩ := bnd_e h
    obtain ⟨x14, h15, h⟩ := bnd_e h
    obtain ⟨h16, h⟩ := grd_e h
    obtain ⟨v17, h18, h⟩ := bnd1_e h
    let q29_f : Fr := [(5, lA 1 (List.map e_str r1))]
    let q29_g : Hp := [(0, .cells 26 [.rt 6, .rt 4]), (4, .row 64 3 (List.map e_Net a0.Nets)), (6, .row 73 2 (List.map e_Part (a0.Parts ++ [(⟨x12, x14⟩ : Part)])))]
    let q29_f' : Fr := [(4, bA v17)]
    let q29_g' : Hp := [(0, .cells 26 [.rt 6, .rt 4]), (4, .row 64 3 (List.map e_Net a0.Nets)), (6, .row 73 2 (List.map e_Part (a0.Parts ++ [(⟨x12, x14⟩ : Part)])))]
    have R19 : Runs PG 120 3 (cL (cR (cL (cR (cL (cL (cR (cR nl_readLine_c)))))))) q29_f q29_g (.nor q29_f' q29_g') := by
      obtain ⟨x20, h21, h18⟩ := bnd_e h18
      obtain ⟨r22, h23, h18⟩ := bnd_e h18
      rcases cnd_e h18 with ⟨h24, h18⟩ | ⟨h24, h18⟩
      · obtain ⟨x25, h26, h18⟩ := bnd_e h18
        obtain ⟨r27, h28, h18⟩ := bnd_e h18
        have h18 := Option.some.inj h18
        subst h18
        exact Runs.path XTok PGmix [.r [.el [sC x20], .val (bA r22), .b true, .b true, .el [sC x25], .b true, .b true, .val (bA r27), .b true]] [] (an (idx_ok e_str h21) (an (nl_isPlain_ok x20 r22 h23) (an h24 (an h24 (an (idx_ok e_str h26) (an h24 (an h24 (an (nl_isPlain_ok x25 r27 h28) h24)))))))) (by kernel_rfl)
      · have h18 := Option.some.inj h18
        subst h18
        exact Runs.path XTok PGmix [.r [.el [sC x20], .val (bA r22), .b false, .b false, .b false, .b false, .b false]] [] (an (idx_ok e_str h21) (an (nl_isPlain_ok x20 r22 h23) (an h24 (an h24 (an h24 (an h24 h24)))))) (by kernel_rfl)
    have h := Option.some.inj h
    subst h
    exact Spec.path XTok PGmix nl_readLine_fn 3 [.w [(0, .t (.v (.ptr 0 0))), (1, sA a1)] [(0, .cells 26 [.rt 3, .rt 4]), (3, .row 73 2 (List.map e_Part a0.Parts)), (4, .row 64 3 (List.map e_Net a0.Nets))] [(3, 1), (4, 2)], .r [], .r [.val (lA 1 (List.map e_str r1))], .s q10_f q10_g [] (.nor q10_f' q10_g'), .b true, .d [([], []), ([], []), ([], []), ([], []), ([0], []), ([], []), ([], [.el [sC x12]]), ([], []), ([], []), ([], [.el [sC x14]]), ([], []), ([], []), ([], [.id 5, .row (List.map e_Part [(⟨x12, x14⟩ : Part)])]), ([3, 5], [.id 6, .row (List.map e_Part (a0.Parts ++ [(⟨x12, x14⟩ : Part)]))]), ([], []), ([], []), ([0], [])], .s q29_f q29_g [] (.nor q29_f' q29_g'), .w [(4, bA v17)] [(3, .row 73 2 (List.map e_Part (a0.Parts ++ [(⟨x12, x14⟩ : Part)]))), (4, .row 64 3 (List.map e_Net a0.Nets)), (0, .cells 26 [.rt 3, .rt 4])] [(3, 6)]] (an (strings_Split_ok a1 (⟨#[32]⟩ : ByteArray) r1 h2) (an R5 (an h11 (an (idx_ok e_str h13) (an (idx_ok e_str h15) (an (Eq.refl (List.flatten (List.map e_Part [(⟨x12, x14⟩ : Part)]))) (an (app_ok e_Part h16) R19))))))) (by kernel_rfl)
  · obtain ⟨v30, h31, h⟩ := bnd1_e h
    let q36_f : Fr := [(0, .t (.v (.ptr 0 0))), (5, lA 1 (List.map e_str r1))]
    let q36_g : Hp := [(0, .cells 26 [.rt 3, .rt 4]), (3, .row 73 2 (List.map e_Part a0.Parts)), (4, .row 64 3 (List.map e_Net a0.Nets))]
    let q36_f' : Fr := [(0, .t (.v (.ptr 0 0))), (5, lA 1 (List.map e_str r1)), (58, bA v30)]
    let q36_g' : Hp := [(0, .cells 26 [.rt 3, .rt 4]), (3, .row 73 2 (List.map e_Part a0.Parts)), (4, .row 64 3 (List.map e_Net a0.Nets))]
    have R32 : Runs PG 120 3 (cL (cR (cR (cL (cL (cR (cR nl_readLine_c))))))) q36_f q36_g (.nor q36_f' q36_g') := by
      obtain ⟨x33, h34, h31⟩ := bnd_e h31
      rcases cnd_e h31 with ⟨h35, h31⟩ | ⟨h35, h31⟩
      · have h31 := Option.some.inj h31
        subst h31
        exact Runs.path XTok PGmix [.r [.el [sC x33], .b true, .b true, .eq 65 (iA (r1.length : Int)), .b true, .b true]] [] (an (idx_ok e_str h34) (an h35 (an h35 (an (leni_eq e_str r1) (an h35 h35))))) (by kernel_rfl)
      · have h31 := Option.some.inj h31
        subst h31
        exact Runs.path XTok PGmix [.r [.el [sC x33], .b false, .b false, .b false, .b false]] [] (an (idx_ok e_str h34) (an h35 (an h35 (an h35 h35)))) (by kernel_rfl)
    rcases cnd_e h with ⟨h37, h⟩ | ⟨h37, h⟩
    · obtain ⟨x38, h39, h⟩ := bnd_e h
      obtain ⟨h40, h⟩ := grd_e h
      rcases aft1_e h with ⟨u59, h60, h⟩ | ⟨r61, h60, h⟩
      · obtain ⟨h62, h⟩ := grd_e h
        obtain ⟨x63, h64, h⟩ := bnd_e h
        obtain ⟨r65, h66, h⟩ := bnd_e h
        have h := Option.some.inj h
        subst h
        exact Spec.path XTok PGmix nl_readLine_fn 3 [.w [(0, .t (.v (.ptr 0 0))), (1, sA a1)] [(0, .cells 26 [.rt 3, .rt 4]), (3, .row 73 2 (List.map e_Part a0.Parts)), (4, .row 64 3 (List.map e_Net a0.Nets))] [(3, 1), (4, 2)], .r [], .r [.val (lA 1 (List.map e_str r1))], .s q10_f q10_g [] (.nor q10_f' q10_g'), .b false, .s q36_f q36_g [] (.nor q36_f' q36_g'), .b true, .r [.el [sC x38], .id 5], .r [.eq 73 (lA 1 (List.map e_str (r1.drop (Int.toNat 2)))), .eq 74 (iA ((r1.drop (Int.toNat 2)).length : Int))], .o 5 1 6 28 2, .s (nl_readLine_F0 a0 r1 x38 0 []) (nl_readLine_H0 a0 r1 x38 0 []) [] (nl_readLine_B0 a0 r1 x38 u59), .f 6, .d [([], []), ([], []), ([], []), ([], []), ([0], []), ([5], []), ([], [.id 6, .row (List.map e_Net [(⟨x38, u59, []⟩ : Net)])]), ([4, 6], [.id 7, .row (List.map e_Net (a0.Nets ++ ([(⟨x38, u59, []⟩ : Net)])))]), ([], []), ([], []), ([0], [])], .r [.el [sC x63], .val (bA r65)], .w [(4, bA r65)] [(3, .row 73 2 (List.map e_Part a0.Parts)), (4, .row 64 3 (List.map e_Net (a0.Nets ++ ([(⟨x38, u59, []⟩ : Net)])))), (0, .cells 26 [.rt 3, .rt 4])] [(4, 7)]] (an (strings_Split_ok a1 (⟨#[32]⟩ : ByteArray) r1 h2) (an R5 (an h11 (an R32 (an h37 (an (idx_ok e_str h39) (an (cut_l e_str h40) (an (drop_eq 1 e_str r1 (Int.toNat 2)) (an (leni_eq e_str (r1.drop (Int.toNat 2))) (an (nl_readLine_l0 a0 r1 x38 [] (.fin u59) h60) (an (Eq.refl (List.flatten (List.map e_Net [(⟨x38, u59, []⟩ : Net)]))) (an (app_ok e_Net h62) (an (idx_ok e_str h64) (nl_isPlain_ok x63 r65 h66)))))))))))))) (by kernel_rfl)
      · have h := Option.some.inj h
        subst h
        exact Spec.path XTok PGmix nl_readLine_fn 3 [.w [(0, .t (.v (.ptr 0 0))), (1, sA a1)] [(0, .cells 26 [.rt 3, .rt 4]), (3, .row 73 2 (List.map e_Part a0.Parts)), (4, .row 64 3 (List.map e_Net a0.Nets))] [(3, 1), (4, 2)], .r [], .r [.val (lA 1 (List.map e_str r1))], .s q10_f q10_g [] (.nor q10_f' q10_g'), .b false, .s q36_f q36_g [] (.nor q36_f' q36_g'), .b true, .r [.el [sC x38], .id 5], .r [.eq 73 (lA 1 (List.map e_str (r1.drop (Int.toNat 2)))), .eq 74 (iA ((r1.drop (Int.toNat 2)).length : Int))], .o 5 1 6 28 2, .s (nl_readLine_F0 a0 r1 x38 0 []) (nl_readLine_H0 a0 r1 x38 0 []) [] (nl_readLine_R r61)] (an (strings_Split_ok a1 (⟨#[32]⟩ : ByteArray) r1 h2) (an R5 (an h11 (an R32 (an h37 (an (idx_ok e_str h39) (an (cut_l e_str h40) (an (drop_eq 1 e_str r1 (Int.toNat 2)) (an (leni_eq e_str (r1.drop (Int.toNat 2))) (nl_readLine_l0 a0 r1 x38 [] (.ret r61) h60)))))))))) (by kernel_rfl)
    · have h := Option.some.inj h
      subst h
      exact Spec.path XTok PGmix nl_readLine_fn 3 [.w [(0, .t (.v (.ptr 0 0))), (1, sA a1)] [(0, .cells 26 [.rt 3, .rt 4]), (3, .row 73 2 (List.map e_Part a0.Parts)), (4, .row 64 3 (List.map e_Net a0.Nets))] [(3, 1), (4, 2)], .r [], .r [.val (lA 1 (List.map e_str r1))], .s q10_f q10_g [] (.nor q10_f' q10_g'), .b false, .s q36_f q36_g [] (.nor q36_f' q36_g'), .b false, .r []] (an (strings_Split_ok a1 (⟨#[32]⟩ : ByteArray) r1 h2) (an R5 (an h11 (an R32 h37)))) (by kernel_rfl)

noncomputable def nl_Read_c : Code := (Go.Proofs.Tryd.f24.body).getD .skip
theorem nl_Read_fn : FnOk PG 24 nl_Read_c 35 [.cell 2 26, .tmp 3, .tmp 4] := ⟨⟨Go.Proofs.Tryd.f24, by kernel_rfl, by kernel_rfl, by kernel_rfl, by kernel_rfl, by kernel_rfl⟩⟩
noncomputable def nl_Read_c0 : Code := cL (cL (cR (cL (cR (cR (cR nl_Read_c))))))
noncomputable def nl_Read_R (r : Netlist × Int × Int) : Oc := .ret [(2, .t (.v (.ptr 0 0))), (3, iA r.2.1), (4, iA r.2.2)] [(0, .cells 26 [.c (.sl 2 (List.map e_Part r.1.Parts)), .c (.sl 3 (List.map e_Net r.1.Nets))])]
noncomputable def nl_Read_F0 (y2 : ByteArray) (y3 : Int) (y4 : List Part) (y5 : List Net) : Fr := [(0, sA y2), (2, .t (.v (.ptr 0 0))), (5, .t (.v (.ptr 1 0))), (6, iA y3)]
noncomputable def nl_Read_H0 (y2 : ByteArray) (y3 : Int) (y4 : List Part) (y5 : List Net) : Hp := [(0, .cells 26 [.c (.nil), .c (.nil)]), (1, .cells 26 [.rt 2, .rt 3]), (2, .row 73 2 (List.map e_Part y4)), (3, .row 64 3 (List.map e_Net y5))]
noncomputable def nl_Read_B0 (s : ByteArray × Int × List Part × List Net) : Oc := .ex 0 [(2, .t (.v (.ptr 0 0))), (5, .t (.v (.ptr 1 0)))] [(0, .cells 26 [.c (.nil), .c (.nil)]), (1, .cells 26 [.rt 2, .rt 3]), (2, .row 73 2 (List.map e_Part s.2.2.1)), (3, .row 64 3 (List.map e_Net s.2.2.2))]
noncomputable def nl_Read_b0 (y2 : ByteArray) (y3 : Int) (y4 : List Part) (y5 : List Net) : Option (Stp (ByteArray × Int × List Part × List Net) (Netlist × Int × Int)) :=
 cnd (sNe y2 (⟨#[]⟩ : ByteArray)) (bnd (strings_Cut y2 (⟨#[10]⟩ : ByteArray)) fun r7 =>
 bnd3 (cnd (!r7.2.2) (some (true, y4, y5)) (bnd (nl_readLine (⟨y4, y5⟩ : Netlist) r7.1) fun r19 =>
 some (!r19.1, r19.2.Parts, r19.2.Nets))) fun v9 v10 v11 =>
 cnd v9 (some (.ret ((⟨[], []⟩ : Netlist), y3, 10))) (some (.go (r7.2.1, w64 (y3 + 1), v10, v11)))) (some (.brk (y2, y3, y4, y5)))
theorem nl_Read_b0_r (y2 : ByteArray) (y3 : Int) (y4 : List Part) (y5 : List Net) (o : Stp (ByteArray × Int × List Part × List Net) (Netlist × Int × Int)) (h : nl_Read_b0 y2 y3 y4 y5 = some o) :
    Runs PG 35 0 nl_Read_c0 (nl_Read_F0 y2 y3 y4 y5) (nl_Read_H0 y2 y3 y4 y5) (stpOc (fun s' => .nor (nl_Read_F0 s'.1 s'.2.1 s'.2.2.1 s'.2.2.2) (nl_Read_H0 s'.1 s'.2.1 s'.2.2.1 s'.2.2.2)) (nl_Read_B0 ) nl_Read_R o) := by
  unfold nl_Read_b0 at h
  rcases cnd_e h with ⟨h6, h⟩ | ⟨h6, h⟩
  · obtain ⟨r7, h8, h⟩ := bnd_e h
    obtain ⟨v9, v10, v11, h12, h⟩ := bnd3_e h
    let q25_f : Fr := [(2, .t (.v (.ptr 0 0))), (5, .t (.v (.ptr 1 0))), (6, iA y3), (7, sA r7.1), (8, sA r7.2.1), (9, bA r7.2.2)]
    let q25_g : Hp := [(0, .cells 26 [.c (.nil), .c (.nil)]), (1, .cells 26 [.rt 2, .rt 3]), (2, .row 73 2 (List.map e_Part y4)), (3, .row 64 3 (List.map e_Net y5))]
    let q25_f' : Fr := [(2, .t (.v (.ptr 0 0))), (5, .t (.v (.ptr 1 0))), (6, iA y3), (8, sA r7.2.1), (30, bA v9)]
    let q25_g' : Hp := [(0, .cells 26 [.c (.nil), .c (.nil)]), (1, .cells 26 [.rt 2, .rt 3]), (2, .row 73 2 (List.map e_Part v10)), (3, .row 64 3 (List.map e_Net v11))]
    have R13 : Runs PG 35 0 (cL (cL (cR (cL (cL (cR nl_Read_c0)))))) q25_f q25_g (.nor q25_f' q25_g') := by
      rcases cnd_e h12 with ⟨h14, h12⟩ | ⟨h14, h12⟩
      · have h12 := Option.some.inj h12
        have q15 := (Prod.mk.inj h12).1
        have q16 := (Prod.mk.inj h12).2
        subst q15
        have q17 := (Prod.mk.inj q16).1
        have q18 := (Prod.mk.inj q16).2
        subst q17
        subst q18
        exact Runs.path XTok PGmix [.r [.b true, .b true, .b true, .b true]] [] (an h14 (an h14 (an h14 h14))) (by kernel_rfl)
      · obtain ⟨r19, h20, h12⟩ := bnd_e h12
        have h12 := Option.some.inj h12
        have q21 := (Prod.mk.inj h12).1
        have q22 := (Prod.mk.inj h12).2
        subst q21
        have q23 := (Prod.mk.inj q22).1
        have q24 := (Prod.mk.inj q22).2
        subst q23
        subst q24
        exact Runs.path XTok PGmix [.r [.b false, .b false, .call [(0, 1), (1, 2), (2, 3), (3, 4), (4, 5)] [.v (.ptr 0 0), sT r7.1] [(0, .cells 26 [.rt 1, .rt 2]), (1, .row 73 2 (List.map e_Part y4)), (2, .row 64 3 (List.map e_Net y5))] (bA r19.1) [(0, .cells 26 [.rt 3, .rt 4]), (3, .row 73 2 (List.map e_Part r19.2.Parts)), (4, .row 64 3 (List.map e_Net r19.2.Nets))], .b false, .b false]] [(2, 4), (3, 5)] (an h14 (an h14 (an (an (nl_readLine_ok (⟨y4, y5⟩ : Netlist) r7.1 r19 h20) (an (Eq.refl ([.v (.ptr 1 0), sT r7.1] : List TV)) (Eq.refl (renH (asg [(0, 1), (1, 2), (2, 3), (3, 4), (4, 5)]) [(0, .cells 26 [.rt 1, .rt 2]), (1, .row 73 2 (List.map e_Part y4)), (2, .row 64 3 (List.map e_Net y5))])))) (an h14 h14)))) (by kernel_rfl)
    rcases cnd_e h with ⟨h26, h⟩ | ⟨h26, h⟩
    · have h := Option.some.inj h
      subst h
      exact Runs.path XTok PGmix [.r [], .b true, .r [.val (.tup [sT r7.1, sT r7.2.1, bT r7.2.2])], .s q25_f q25_g [] (.nor q25_f' q25_g'), .b true, .r [], .m 0 0 2, .m 0 1 3] [] (an h6 (an (strings_Cut_ok y2 (⟨#[10]⟩ : ByteArray) r7 h8) (an R13 h26))) (by kernel_rfl)
    · have h := Option.some.inj h
      subst h
      exact Runs.path XTok PGmix [.r [], .b true, .r [.val (.tup [sT r7.1, sT r7.2.1, bT r7.2.2])], .s q25_f q25_g [] (.nor q25_f' q25_g'), .b false, .r [], .r []] [] (an h6 (an (strings_Cut_ok y2 (⟨#[10]⟩ : ByteArray) r7 h8) (an R13 h26))) (by kernel_rfl)
  · have h := Option.some.inj h
    subst h
    exact Runs.path XTok PGmix [.r [], .b false] [] h6 (by kernel_rfl)
theorem nl_Read_l0 (y2 : ByteArray) (y3 : Int) (y4 : List Part) (y5 : List Net) (r : Fin' (ByteArray × Int × List Part × List Net) (Netlist × Int × Int)) (h : loop (fun s => nl_Read_b0 s.1 s.2.1 s.2.2.1 s.2.2.2) (y2, y3, y4, y5) = some r) : Runs PG 35 0 (cL (cR (cL (cR (cR (cR nl_Read_c)))))) (nl_Read_F0 y2 y3 y4 y5) (nl_Read_H0 y2 y3 y4 y5) (finOc (nl_Read_B0 ) nl_Read_R r) :=
  Runs.loop' (by kernel_rfl) (loop_rounds (σ := (ByteArray × Int × List Part × List Net)) (ρ := (Netlist × Int × Int)) (body := fun s => nl_Read_b0 s.1 s.2.1 s.2.2.1 s.2.2.2) (F := fun s => nl_Read_F0 s.1 s.2.1 s.2.2.1 s.2.2.2) (H := fun s => nl_Read_H0 s.1 s.2.1 s.2.2.1 s.2.2.2) (B := nl_Read_B0 ) (R := nl_Read_R) (fun _ => rfl) (fun _ => rfl) (fun s o h => nl_Read_b0_r s.1 s.2.1 s.2.2.1 s.2.2.2 o h) h)
noncomputable def nl_Read (a0 : ByteArray) : Option (Netlist × Int × Int) :=
 cnd (decide ((a0.size : Int) > 2000000)) (some ((⟨[], []⟩ : Netlist), 0, 2)) (aft4 (loop (fun s => nl_Read_b0 s.1 s.2.1 s.2.2.1 s.2.2.2) (a0, 1, [], [])) (fun u27 u28 u29 u30 =>
 some ((⟨u29, u30⟩ : Netlist), 0, 0))
 (fun r32 =>
 some r32))
theorem nl_Read_ok (a0 : ByteArray) (r : Netlist × Int × Int) (h : nl_Read a0 = some r) : Spec PG 24 [sT a0] [] (.tup [gT (e_Netlist r.1), iT r.2.1, iT r.2.2]) [] := by
  unfold nl_Read at h
  rcases cnd_e h with ⟨h1, h⟩ | ⟨h1, h⟩
  · have h := Option.some.inj h
    subst h
    exact Spec.path XTok PGmix nl_Read_fn 0 [.r [.id 0], .r [], .b true, .r [], .m 0 0 2, .m 0 1 3] h1 (by kernel_rfl)
  · rcases aft4_e h with ⟨u27, u28, u29, u30, h31, h⟩ | ⟨r32, h31, h⟩
    · have h := Option.some.inj h
      subst h
      exact Spec.path XTok PGmix nl_Read_fn 0 [.r [.id 0], .r [], .b false, .r [.id 1], .r [], .o 1 0 2 73 2, .o 1 1 3 64 3, .s (nl_Read_F0 a0 1 [] []) (nl_Read_H0 a0 1 [] []) [] (nl_Read_B0 (u27, u28, u29, u30)), .r [], .f 2, .f 3] (an h1 (nl_Read_l0 a0 1 [] [] (.fin (u27, u28, u29, u30)) h31)) (by kernel_rfl)
    · have h := Option.some.inj h
      subst h
      exact Spec.path XTok PGmix nl_Read_fn 0 [.r [.id 0], .r [], .b false, .r [.id 1], .r [], .o 1 0 2 73 2, .o 1 1 3 64 3, .s (nl_Read_F0 a0 1 [] []) (nl_Read_H0 a0 1 [] []) [] (nl_Read_R r32)] (an h1 (nl_Read_l0 a0 1 [] [] (.ret r32) h31)) (by kernel_rfl)

noncomputable def slices_Equal_api_Pin_api_Pin_c : Code := (Go.Proofs.Tryd.f19.body).getD .skip
theorem slices_Equal_api_Pin_api_Pin_fn : FnOk PG 19 slices_Equal_api_Pin_api_Pin_c 26 [.tmp 4] := ⟨⟨Go.Proofs.Tryd.f19, by kernel_rfl, by kernel_rfl, by kernel_rfl, by kernel_rfl, by kernel_rfl⟩⟩
noncomputable def slices_Equal_api_Pin_api_Pin_c0 : Code := cL (cL (cR (cL (cR (cR slices_Equal_api_Pin_api_Pin_c)))))
noncomputable def slices_Equal_api_Pin_api_Pin_R (r : Bool) : Oc := .ret [(4, bA r)] []
noncomputable def slices_Equal_api_Pin_api_Pin_F0 (a0 : List Pin) (a1 : List Pin) (i2 : Nat) : Fr := [(0, lA 2 (List.map e_Pin a0)), (1, lA 2 (List.map e_Pin a1)), (11, lA 2 (List.map e_Pin a0)), (12, iA (a0.length : Int)), (13, iA (i2 : Int))]
noncomputable def slices_Equal_api_Pin_api_Pin_H0 (a0 : List Pin) (a1 : List Pin) (i2 : Nat) : Hp := []
noncomputable def slices_Equal_api_Pin_api_Pin_B0 (a0 : List Pin) (a1 : List Pin) (s : Unit) : Oc := .ex 0 [] []
noncomputable def slices_Equal_api_Pin_api_Pin_b0 (a0 : List Pin) (a1 : List Pin) (i2 : Nat) : Option (Stp Unit Bool) :=
 bnd (atI a0 (i2 : Int)) fun x3 =>
 bnd (atI a1 (i2 : Int)) fun x5 =>
 cnd (!(sEq x3.Part x5.Part && (sEq x3.Pin x5.Pin && true))) (some (.ret false)) (some (.go ()))
theorem slices_Equal_api_Pin_api_Pin_b0_r (a0 : List Pin) (a1 : List Pin) (i2 : Nat) (o : Stp Unit Bool) (hi : i2 < a0.length) (h : slices_Equal_api_Pin_api_Pin_b0 a0 a1 i2 = some o) :
    Runs PG 26 0 slices_Equal_api_Pin_api_Pin_c0 (slices_Equal_api_Pin_api_Pin_F0 a0 a1 i2 ) (slices_Equal_api_Pin_api_Pin_H0 a0 a1 i2 ) (stpOc (fun s' => .nor (slices_Equal_api_Pin_api_Pin_F0 a0 a1 (i2 + 1) ) (slices_Equal_api_Pin_api_Pin_H0 a0 a1 (i2 + 1) )) (slices_Equal_api_Pin_api_Pin_B0 a0 a1) slices_Equal_api_Pin_api_Pin_R o) := by
  unfold slices_Equal_api_Pin_api_Pin_b0 at h
  refine Runs.len (s := 11) (sz := 2) (xs := List.map e_Pin a0) (by kernel_rfl) fun hl => ?_
  have hM : a0.length ≤ lim := len_of hl
  obtain ⟨x3, h4, h⟩ := bnd_e h
  obtain ⟨x5, h6, h⟩ := bnd_e h
  rcases cnd_e h with ⟨h7, h⟩ | ⟨h7, h⟩
  · have h := Option.some.inj h
    subst h
    exact Runs.path XTok PGmix [.r [], .b true, .r [], .d [([], []), ([], []), ([], [.el (e_Pin x3)]), ([], []), ([], []), ([], []), ([], [.el (e_Pin x5)]), ([], []), ([], [])], .b true, .r []] [] (an (lt_true hi) (an (idx_ok e_Pin h4) (an (idx_ok e_Pin h6) h7))) (by kernel_rfl)
  · have h := Option.some.inj h
    subst h
    exact Runs.path XTok PGmix [.r [], .b true, .r [], .d [([], []), ([], []), ([], [.el (e_Pin x3)]), ([], []), ([], []), ([], []), ([], [.el (e_Pin x5)]), ([], []), ([], [])], .b false, .r [.eq 25 (iA ((i2 + 1 : Nat) : Int))]] [] (an (lt_true hi) (an (idx_ok e_Pin h4) (an (idx_ok e_Pin h6) (an h7 (wrap_eq hi hM))))) (by kernel_rfl)
theorem slices_Equal_api_Pin_api_Pin_b0_e (a0 : List Pin) (a1 : List Pin) : Runs PG 26 0 slices_Equal_api_Pin_api_Pin_c0 (slices_Equal_api_Pin_api_Pin_F0 a0 a1 (a0.length) ) (slices_Equal_api_Pin_api_Pin_H0 a0 a1 (a0.length) ) (slices_Equal_api_Pin_api_Pin_B0 a0 a1 ()) := by
  exact Runs.path XTok PGmix [.r [], .b false] [] (lt_false (a0.length)) (by kernel_rfl)
theorem slices_Equal_api_Pin_api_Pin_l0 (a0 : List Pin) (a1 : List Pin) (r : Fin' Unit Bool) (h : forN (fun i2 s => slices_Equal_api_Pin_api_Pin_b0 a0 a1 i2 ) (a0.length) 0 () = some r) : Runs PG 26 0 (cL (cR (cL (cR (cR slices_Equal_api_Pin_api_Pin_c))))) (slices_Equal_api_Pin_api_Pin_F0 a0 a1 0 ) (slices_Equal_api_Pin_api_Pin_H0 a0 a1 0 ) (finOc (slices_Equal_api_Pin_api_Pin_B0 a0 a1) slices_Equal_api_Pin_api_Pin_R r) :=
  Runs.loop' (by kernel_rfl) (forN_rounds (σ := Unit) (ρ := Bool) (body := fun i2 s => slices_Equal_api_Pin_api_Pin_b0 a0 a1 i2 ) (F := fun i2 s => slices_Equal_api_Pin_api_Pin_F0 a0 a1 i2 ) (H := fun i2 s => slices_Equal_api_Pin_api_Pin_H0 a0 a1 i2 ) (B := slices_Equal_api_Pin_api_Pin_B0 a0 a1) (R := slices_Equal_api_Pin_api_Pin_R) (M := a0.length) (fun _ => rfl) (fun _ => rfl) (fun s => slices_Equal_api_Pin_api_Pin_b0_e a0 a1 ) (fun i s o hi h => slices_Equal_api_Pin_api_Pin_b0_r a0 a1 i o hi h) _ 0 _ r (Nat.zero_add _) h)
noncomputable def slices_Equal_api_Pin_api_Pin (a0 : List Pin) (a1 : List Pin) : Option Bool :=
 cnd ((a0.length : Int) != (a1.length : Int)) (some false) (aft0 (forN (fun i2 s => slices_Equal_api_Pin_api_Pin_b0 a0 a1 i2 ) (a0.length) 0 ()) (
 some true)
 (fun r9 =>
 some r9))
theorem slices_Equal_api_Pin_api_Pin_ok (a0 : List Pin) (a1 : List Pin) (r : Bool) (h : slices_Equal_api_Pin_api_Pin a0 a1 = some r) : Spec PG 19 [lT 2 (List.map e_Pin a0), lT 2 (List.map e_Pin a1)] [] (bA r) [] := by
  unfold slices_Equal_api_Pin_api_Pin at h
  rcases cnd_e h with ⟨h1, h⟩ | ⟨h1, h⟩
  · have h := Option.some.inj h
    subst h
    exact Spec.path XTok PGmix slices_Equal_api_Pin_api_Pin_fn 0 [.r [], .r [.eq 7 (iA (a0.length : Int)), .eq 9 (iA (a1.length : Int))], .b true, .r []] (an (leni_eq e_Pin a0) (an (leni_eq e_Pin a1) h1)) (by kernel_rfl)
  · rcases aft0_e h with ⟨h8, h⟩ | ⟨r9, h8, h⟩
    · have h := Option.some.inj h
      subst h
      exact Spec.path XTok PGmix slices_Equal_api_Pin_api_Pin_fn 0 [.r [], .r [.eq 7 (iA (a0.length : Int)), .eq 9 (iA (a1.length : Int))], .b false, .r [.eq 12 (iA (a0.length : Int))], .s (slices_Equal_api_Pin_api_Pin_F0 a0 a1 0 ) (slices_Equal_api_Pin_api_Pin_H0 a0 a1 0 ) [] (slices_Equal_api_Pin_api_Pin_B0 a0 a1 ()), .r []] (an (leni_eq e_Pin a0) (an (leni_eq e_Pin a1) (an h1 (an (leni_eq e_Pin a0) (slices_Equal_api_Pin_api_Pin_l0 a0 a1 (.fin ()) h8))))) (by kernel_rfl)
    · have h := Option.some.inj h
      subst h
      exact Spec.path XTok PGmix slices_Equal_api_Pin_api_Pin_fn 0 [.r [], .r [.eq 7 (iA (a0.length : Int)), .eq 9 (iA (a1.length : Int))], .b false, .r [.eq 12 (iA (a0.length : Int))], .s (slices_Equal_api_Pin_api_Pin_F0 a0 a1 0 ) (slices_Equal_api_Pin_api_Pin_H0 a0 a1 0 ) [] (slices_Equal_api_Pin_api_Pin_R r9)] (an (leni_eq e_Pin a0) (an (leni_eq e_Pin a1) (an h1 (an (leni_eq e_Pin a0) (slices_Equal_api_Pin_api_Pin_l0 a0 a1 (.ret r9) h8))))) (by kernel_rfl)

noncomputable def slices_Equal_api_Part_api_Part_c : Code := (Go.Proofs.Tryd.f70.body).getD .skip
theorem slices_Equal_api_Part_api_Part_fn : FnOk PG 70 slices_Equal_api_Part_api_Part_c 26 [.tmp 4] := ⟨⟨Go.Proofs.Tryd.f70, by kernel_rfl, by kernel_rfl, by kernel_rfl, by kernel_rfl, by kernel_rfl⟩⟩
noncomputable def slices_Equal_api_Part_api_Part_c0 : Code := cL (cL (cR (cL (cR (cR slices_Equal_api_Part_api_Part_c)))))
noncomputable def slices_Equal_api_Part_api_Part_R (r : Bool) : Oc := .ret [(4, bA r)] []
noncomputable def slices_Equal_api_Part_api_Part_F0 (a0 : List Part) (a1 : List Part) (i2 : Nat) : Fr := [(0, lA 2 (List.map e_Part a0)), (1, lA 2 (List.map e_Part a1)), (11, lA 2 (List.map e_Part a0)), (12, iA (a0.length : Int)), (13, iA (i2 : Int))]
noncomputable def slices_Equal_api_Part_api_Part_H0 (a0 : List Part) (a1 : List Part) (i2 : Nat) : Hp := []
noncomputable def slices_Equal_api_Part_api_Part_B0 (a0 : List Part) (a1 : List Part) (s : Unit) : Oc := .ex 0 [] []
noncomputable def slices_Equal_api_Part_api_Part_b0 (a0 : List Part) (a1 : List Part) (i2 : Nat) : Option (Stp Unit Bool) :=
 bnd (atI a0 (i2 : Int)) fun x3 =>
 bnd (atI a1 (i2 : Int)) fun x5 =>
 cnd (!(sEq x3.Name x5.Name && (sEq x3.Type_ x5.Type_ && true))) (some (.ret false)) (some (.go ()))
theorem slices_Equal_api_Part_api_Part_b0_r (a0 : List Part) (a1 : List Part) (i2 : Nat) (o : Stp Unit Bool) (hi : i2 < a0.length) (h : slices_Equal_api_Part_api_Part_b0 a0 a1 i2 = some o) :
    Runs PG 26 0 slices_Equal_api_Part_api_Part_c0 (slices_Equal_api_Part_api_Part_F0 a0 a1 i2 ) (slices_Equal_api_Part_api_Part_H0 a0 a1 i2 ) (stpOc (fun s' => .nor (slices_Equal_api_Part_api_Part_F0 a0 a1 (i2 + 1) ) (slices_Equal_api_Part_api_Part_H0 a0 a1 (i2 + 1) )) (slices_Equal_api_Part_api_Part_B0 a0 a1) slices_Equal_api_Part_api_Part_R o) := by
  unfold slices_Equal_api_Part_api_Part_b0 at h
  refine Runs.len (s := 11) (sz := 2) (xs := List.map e_Part a0) (by kernel_rfl) fun hl => ?_
  have hM : a0.length ≤ lim := len_of hl
  obtain ⟨x3, h4, h⟩ := bnd_e h
  obtain ⟨x5, h6, h⟩ := bnd_e h
  rcases cnd_e h with ⟨h7, h⟩ | ⟨h7, h⟩
  · have h := Option.some.inj h
    subst h
    exact Runs.path XTok PGmix [.r [], .b true, .r [], .d [([], []), ([], []), ([], [.el (e_Part x3)]), ([], []), ([], []), ([], []), ([], [.el (e_Part x5)]), ([], []), ([], [])], .b true, .r []] [] (an (lt_true hi) (an (idx_ok e_Part h4) (an (idx_ok e_Part h6) h7))) (by kernel_rfl)
  · have h := Option.some.inj h
    subst h
    exact Runs.path XTok PGmix [.r [], .b true, .r [], .d [([], []), ([], []), ([], [.el (e_Part x3)]), ([], []), ([], []), ([], []), ([], [.el (e_Part x5)]), ([], []), ([], [])], .b false, .r [.eq 25 (iA ((i2 + 1 : Nat) : Int))]] [] (an (lt_true hi) (an (idx_ok e_Part h4) (an (idx_ok e_Part h6) (an h7 (wrap_eq hi hM))))) (by kernel_rfl)
theorem slices_Equal_api_Part_api_Part_b0_e (a0 : List Part) (a1 : List Part) : Runs PG 26 0 slices_Equal_api_Part_api_Part_c0 (slices_Equal_api_Part_api_Part_F0 a0 a1 (a0.length) ) (slices_Equal_api_Part_api_Part_H0 a0 a1 (a0.length) ) (slices_Equal_api_Part_api_Part_B0 a0 a1 ()) := by
  exact Runs.path XTok PGmix [.r [], .b false] [] (lt_false (a0.length)) (by kernel_rfl)
theorem slices_Equal_api_Part_api_Part_l0 (a0 : List Part) (a1 : List Part) (r : Fin' Unit Bool) (h : forN (fun i2 s => slices_Equal_api_Part_api_Part_b0 a0 a1 i2 ) (a0.length) 0 () = some r) : Runs PG 26 0 (cL (cR (cL (cR (cR slices_Equal_api_Part_api_Part_c))))) (slices_Equal_api_Part_api_Part_F0 a0 a1 0 ) (slices_Equal_api_Part_api_Part_H0 a0 a1 0 ) (finOc (slices_Equal_api_Part_api_Part_B0 a0 a1) slices_Equal_api_Part_api_Part_R r) :=
  Runs.loop' (by kernel_rfl) (forN_rounds (σ := Unit) (ρ := Bool) (body := fun i2 s => slices_Equal_api_Part_api_Part_b0 a0 a1 i2 ) (F := fun i2 s => slices_Equal_api_Part_api_Part_F0 a0 a1 i2 ) (H := fun i2 s => slices_Equal_api_Part_api_Part_H0 a0 a1 i2 ) (B := slices_Equal_api_Part_api_Part_B0 a0 a1) (R := slices_Equal_api_Part_api_Part_R) (M := a0.length) (fun _ => rfl) (fun _ => rfl) (fun s => slices_Equal_api_Part_api_Part_b0_e a0 a1 ) (fun i s o hi h => slices_Equal_api_Part_api_Part_b0_r a0 a1 i o hi h) _ 0 _ r (Nat.zero_add _) h)
noncomputable def slices_Equal_api_Part_api_Part (a0 : List Part) (a1 : List Part) : Option Bool :=
 cnd ((a0.length : Int) != (a1.length : Int)) (some false) (aft0 (forN (fun i2 s => slices_Equal_api_Part_api_Part_b0 a0 a1 i2 ) (a0.length) 0 ()) (
 some true)
 (fun r9 =>
 some r9))
theorem slices_Equal_api_Part_api_Part_ok (a0 : List Part) (a1 : List Part) (r : Bool) (h : slices_Equal_api_Part_api_Part a0 a1 = some r) : Spec PG 70 [lT 2 (List.map e_Part a0), lT 2 (List.map e_Part a1)] [] (bA r) [] := by
  unfold slices_Equal_api_Part_api_Part at h
  rcases cnd_e h with ⟨h1, h⟩ | ⟨h1, h⟩
  · have h := Option.some.inj h
    subst h
    exact Spec.path XTok PGmix slices_Equal_api_Part_api_Part_fn 0 [.r [], .r [.eq 7 (iA (a0.length : Int)), .eq 9 (iA (a1.length : Int))], .b true, .r []] (an (leni_eq e_Part a0) (an (leni_eq e_Part a1) h1)) (by kernel_rfl)
  · rcases aft0_e h with ⟨h8, h⟩ | ⟨r9, h8, h⟩
    · have h := Option.some.inj h
      subst h
      exact Spec.path XTok PGmix slices_Equal_api_Part_api_Part_fn 0 [.r [], .r [.eq 7 (iA (a0.length : Int)), .eq 9 (iA (a1.length : Int))], .b false, .r [.eq 12 (iA (a0.length : Int))], .s (slices_Equal_api_Part_api_Part_F0 a0 a1 0 ) (slices_Equal_api_Part_api_Part_H0 a0 a1 0 ) [] (slices_Equal_api_Part_api_Part_B0 a0 a1 ()), .r []] (an (leni_eq e_Part a0) (an (leni_eq e_Part a1) (an h1 (an (leni_eq e_Part a0) (slices_Equal_api_Part_api_Part_l0 a0 a1 (.fin ()) h8))))) (by kernel_rfl)
    · have h := Option.some.inj h
      subst h
      exact Spec.path XTok PGmix slices_Equal_api_Part_api_Part_fn 0 [.r [], .r [.eq 7 (iA (a0.length : Int)), .eq 9 (iA (a1.length : Int))], .b false, .r [.eq 12 (iA (a0.length : Int))], .s (slices_Equal_api_Part_api_Part_F0 a0 a1 0 ) (slices_Equal_api_Part_api_Part_H0 a0 a1 0 ) [] (slices_Equal_api_Part_api_Part_R r9)] (an (leni_eq e_Part a0) (an (leni_eq e_Part a1) (an h1 (an (leni_eq e_Part a0) (slices_Equal_api_Part_api_Part_l0 a0 a1 (.ret r9) h8))))) (by kernel_rfl)

noncomputable def slices_Equal_string_string_c : Code := (Go.Proofs.Tryd.f71.body).getD .skip
theorem slices_Equal_string_string_fn : FnOk PG 71 slices_Equal_string_string_c 26 [.tmp 4] := ⟨⟨Go.Proofs.Tryd.f71, by kernel_rfl, by kernel_rfl, by kernel_rfl, by kernel_rfl, by kernel_rfl⟩⟩
noncomputable def slices_Equal_string_string_c0 : Code := cL (cL (cR (cL (cR (cR slices_Equal_string_string_c)))))
noncomputable def slices_Equal_string_string_R (r : Bool) : Oc := .ret [(4, bA r)] []
noncomputable def slices_Equal_string_string_F0 (a0 : List ByteArray) (a1 : List ByteArray) (i2 : Nat) : Fr := [(0, lA 1 (List.map e_str a0)), (1, lA 1 (List.map e_str a1)), (11, lA 1 (List.map e_str a0)), (12, iA (a0.length : Int)), (13, iA (i2 : Int))]
noncomputable def slices_Equal_string_string_H0 (a0 : List ByteArray) (a1 : List ByteArray) (i2 : Nat) : Hp := []
noncomputable def slices_Equal_string_string_B0 (a0 : List ByteArray) (a1 : List ByteArray) (s : Unit) : Oc := .ex 0 [] []
noncomputable def slices_Equal_string_string_b0 (a0 : List ByteArray) (a1 : List ByteArray) (i2 : Nat) : Option (Stp Unit Bool) :=
 bnd (atI a0 (i2 : Int)) fun x3 =>
 bnd (atI a1 (i2 : Int)) fun x5 =>
 cnd (sNe x3 x5) (some (.ret false)) (some (.go ()))
theorem slices_Equal_string_string_b0_r (a0 : List ByteArray) (a1 : List ByteArray) (i2 : Nat) (o : Stp Unit Bool) (hi : i2 < a0.length) (h : slices_Equal_string_string_b0 a0 a1 i2 = some o) :
    Runs PG 26 0 slices_Equal_string_string_c0 (slices_Equal_string_string_F0 a0 a1 i2 ) (slices_Equal_string_string_H0 a0 a1 i2 ) (stpOc (fun s' => .nor (slices_Equal_string_string_F0 a0 a1 (i2 + 1) ) (slices_Equal_string_string_H0 a0 a1 (i2 + 1) )) (slices_Equal_string_string_B0 a0 a1) slices_Equal_string_string_R o) := by
  unfold slices_Equal_string_string_b0 at h
  refine Runs.len (s := 11) (sz := 1) (xs := List.map e_str a0) (by kernel_rfl) fun hl => ?_
  have hM : a0.length ≤ lim := len_of hl
  obtain ⟨x3, h4, h⟩ := bnd_e h
  obtain ⟨x5, h6, h⟩ := bnd_e h
  rcases cnd_e h with ⟨h7, h⟩ | ⟨h7, h⟩
  · have h := Option.some.inj h
    subst h
    exact Runs.path XTok PGmix [.r [], .b true, .r [], .d [([], []), ([], []), ([], [.el [sC x3]]), ([], []), ([], []), ([], []), ([], [.el [sC x5]]), ([], []), ([], [])], .b true, .r []] [] (an (lt_true hi) (an (idx_ok e_str h4) (an (idx_ok e_str h6) h7))) (by kernel_rfl)
  · have h := Option.some.inj h
    subst h
    exact Runs.path XTok PGmix [.r [], .b true, .r [], .d [([], []), ([], []), ([], [.el [sC x3]]), ([], []), ([], []), ([], []), ([], [.el [sC x5]]), ([], []), ([], [])], .b false, .r [.eq 25 (iA ((i2 + 1 : Nat) : Int))]] [] (an (lt_true hi) (an (idx_ok e_str h4) (an (idx_ok e_str h6) (an h7 (wrap_eq hi hM))))) (by kernel_rfl)
theorem slices_Equal_string_string_b0_e (a0 : List ByteArray) (a1 : List ByteArray) : Runs PG 26 0 slices_Equal_string_string_c0 (slices_Equal_string_string_F0 a0 a1 (a0.length) ) (slices_Equal_string_string_H0 a0 a1 (a0.length) ) (slices_Equal_string_string_B0 a0 a1 ()) := by
  exact Runs.path XTok PGmix [.r [], .b false] [] (lt_false (a0.length)) (by kernel_rfl)
theorem slices_Equal_string_string_l0 (a0 : List ByteArray) (a1 : List ByteArray) (r : Fin' Unit Bool) (h : forN (fun i2 s => slices_Equal_string_string_b0 a0 a1 i2 ) (a0.length) 0 () = some r) : Runs PG 26 0 (cL (cR (cL (cR (cR slices_Equal_string_string_c))))) (slices_Equal_string_string_F0 a0 a1 0 ) (slices_Equal_string_string_H0 a0 a1 0 ) (finOc (slices_Equal_string_string_B0 a0 a1) slices_Equal_string_string_R r) :=
  Runs.loop' (by kernel_rfl) (forN_rounds (σ := Unit) (ρ := Bool) (body := fun i2 s => slices_Equal_string_string_b0 a0 a1 i2 ) (F := fun i2 s => slices_Equal_string_string_F0 a0 a1 i2 ) (H := fun i2 s => slices_Equal_string_string_H0 a0 a1 i2 ) (B := slices_Equal_string_string_B0 a0 a1) (R := slices_Equal_string_string_R) (M := a0.length) (fun _ => rfl) (fun _ => rfl) (fun s => slices_Equal_string_string_b0_e a0 a1 ) (fun i s o hi h => slices_Equal_string_string_b0_r a0 a1 i o hi h) _ 0 _ r (Nat.zero_add _) h)
noncomputable def slices_Equal_string_string (a0 : List ByteArray) (a1 : List ByteArray) : Option Bool :=
 cnd ((a0.length : Int) != (a1.length : Int)) (some false) (aft0 (forN (fun i2 s => slices_Equal_string_string_b0 a0 a1 i2 ) (a0.length) 0 ()) (
 some true)
 (fun r9 =>
 some r9))
theorem slices_Equal_string_string_ok (a0 : List ByteArray) (a1 : List ByteArray) (r : Bool) (h : slices_Equal_string_string a0 a1 = some r) : Spec PG 71 [lT 1 (List.map e_str a0), lT 1 (List.map e_str a1)] [] (bA r) [] := by
  unfold slices_Equal_string_string at h
  rcases cnd_e h with ⟨h1, h⟩ | ⟨h1, h⟩
  · have h := Option.some.inj h
    subst h
    exact Spec.path XTok PGmix slices_Equal_string_string_fn 0 [.r [], .r [.eq 7 (iA (a0.length : Int)), .eq 9 (iA (a1.length : Int))], .b true, .r []] (an (leni_eq e_str a0) (an (leni_eq e_str a1) h1)) (by kernel_rfl)
  · rcases aft0_e h with ⟨h8, h⟩ | ⟨r9, h8, h⟩
    · have h := Option.some.inj h
      subst h
      exact Spec.path XTok PGmix slices_Equal_string_string_fn 0 [.r [], .r [.eq 7 (iA (a0.length : Int)), .eq 9 (iA (a1.length : Int))], .b false, .r [.eq 12 (iA (a0.length : Int))], .s (slices_Equal_string_string_F0 a0 a1 0 ) (slices_Equal_string_string_H0 a0 a1 0 ) [] (slices_Equal_string_string_B0 a0 a1 ()), .r []] (an (leni_eq e_str a0) (an (leni_eq e_str a1) (an h1 (an (leni_eq e_str a0) (slices_Equal_string_string_l0 a0 a1 (.fin ()) h8))))) (by kernel_rfl)
    · have h := Option.some.inj h
      subst h
      exact Spec.path XTok PGmix slices_Equal_string_string_fn 0 [.r [], .r [.eq 7 (iA (a0.length : Int)), .eq 9 (iA (a1.length : Int))], .b false, .r [.eq 12 (iA (a0.length : Int))], .s (slices_Equal_string_string_F0 a0 a1 0 ) (slices_Equal_string_string_H0 a0 a1 0 ) [] (slices_Equal_string_string_R r9)] (an (leni_eq e_str a0) (an (leni_eq e_str a1) (an h1 (an (leni_eq e_str a0) (slices_Equal_string_string_l0 a0 a1 (.ret r9) h8))))) (by kernel_rfl)

noncomputable def ref_Same_c : Code := (Go.Proofs.Tryd.f26.body).getD .skip
theorem ref_Same_fn : FnOk PG 26 ref_Same_c 64 [.tmp 4] := ⟨⟨Go.Proofs.Tryd.f26, by kernel_rfl, by kernel_rfl, by kernel_rfl, by kernel_rfl, by kernel_rfl⟩⟩
noncomputable def ref_Same_c0 : Code := cL (cL (cR (cL (cR (cR ref_Same_c)))))
noncomputable def ref_Same_R (r : Bool) : Oc := .ret [(4, bA r)] []
noncomputable def ref_Same_F0 (a0 : Netlist) (a1 : Netlist) (i9 : Nat) : Fr := [(3, .t (.v (.ptr 1 0))), (23, lA 3 (List.map e_Net a0.Nets)), (24, iA (a0.Nets.length : Int)), (25, iA (i9 : Int))]
noncomputable def ref_Same_H0 (a0 : Netlist) (a1 : Netlist) (i9 : Nat) : Hp := [(1, .cells 26 [.c (.sl 2 (List.map e_Part a1.Parts)), .c (.sl 3 (List.map e_Net a1.Nets))])]
noncomputable def ref_Same_B0 (a0 : Netlist) (a1 : Netlist) (s : Unit) : Oc := .ex 0 [] []
noncomputable def ref_Same_b0 (a0 : Netlist) (a1 : Netlist) (i9 : Nat) : Option (Stp Unit Bool) :=
 bnd (atI a0.Nets (i9 : Int)) fun x10 =>
 bnd1 (bnd (atI a1.Nets (i9 : Int)) fun x15 =>
 cnd (sNe x10.Name x15.Name) (some true) (bnd (atI a1.Nets (i9 : Int)) fun x18 =>
 bnd (slices_Equal_api_Pin_api_Pin x10.Pins x18.Pins) fun r20 =>
 cnd (!r20) (some true) (bnd (atI a1.Nets (i9 : Int)) fun x23 =>
 bnd (slices_Equal_string_string x10.Ports x23.Ports) fun r25 =>
 some (!r25)))) fun v12 =>
 cnd v12 (some (.ret false)) (some (.go ()))
theorem ref_Same_b0_r (a0 : Netlist) (a1 : Netlist) (i9 : Nat) (o : Stp Unit Bool) (hi : i9 < a0.Nets.length) (h : ref_Same_b0 a0 a1 i9 = some o) :
    Runs PG 64 0 ref_Same_c0 (ref_Same_F0 a0 a1 i9 ) (ref_Same_H0 a0 a1 i9 ) (stpOc (fun s' => .nor (ref_Same_F0 a0 a1 (i9 + 1) ) (ref_Same_H0 a0 a1 (i9 + 1) )) (ref_Same_B0 a0 a1) ref_Same_R o) := by
  unfold ref_Same_b0 at h
  refine Runs.len (s := 23) (sz := 3) (xs := List.map e_Net a0.Nets) (by kernel_rfl) fun hl => ?_
  have hM : a0.Nets.length ≤ lim := len_of hl
  obtain ⟨x10, h11, h⟩ := bnd_e h
  obtain ⟨v12, h13, h⟩ := bnd1_e h
  let q27_f : Fr := [(3, .t (.v (.ptr 1 0))), (5, iA (i9 : Int)), (6, .t (.v (.ptr 2 0))), (23, lA 3 (List.map e_Net a0.Nets)), (24, iA (a0.Nets.length : Int)), (25, iA (i9 : Int))]
  let q27_g : Hp := [(1, .cells 26 [.c (.sl 2 (List.map e_Part a1.Parts)), .c (.sl 3 (List.map e_Net a1.Nets))]), (2, .cells 64 [.c (sC x10.Name), .c (.sl 2 (List.map e_Pin x10.Pins)), .c (.sl 1 (List.map e_str x10.Ports))])]
  let q27_f' : Fr := [(3, .t (.v (.ptr 1 0))), (23, lA 3 (List.map e_Net a0.Nets)), (24, iA (a0.Nets.length : Int)), (25, iA (i9 : Int)), (62, bA v12)]
  let q27_g' : Hp := [(1, .cells 26 [.c (.sl 2 (List.map e_Part a1.Parts)), .c (.sl 3 (List.map e_Net a1.Nets))])]
  have R14 : Runs PG 64 0 (cL (cR (cL (cL (cR (cR ref_Same_c0)))))) q27_f q27_g (.nor q27_f' q27_g') := by
    obtain ⟨x15, h16, h13⟩ := bnd_e h13
    rcases cnd_e h13 with ⟨h17, h13⟩ | ⟨h17, h13⟩
    · have h13 := Option.some.inj h13
      subst h13
      exact Runs.path XTok PGmix [.d [([], []), ([2], []), ([], []), ([1], []), ([], []), ([], [.el (e_Net x15)]), ([], []), ([], []), ([], []), ([], []), ([], [.b true]), ([], [.b true]), ([], [.b true]), ([], [.b true]), ([], [.b true]), ([], [.b true]), ([], [.b true]), ([], [.b true]), ([], [.b true]), ([], [.b true]), ([], [.b true]), ([], []), ([], [.b true]), ([], [.b true]), ([], [.b true]), ([], [.b true]), ([], [.b true]), ([], [.b true]), ([], [.b true]), ([], [.b true]), ([], [.b true]), ([], [.b true]), ([], [.b true])]] [] (an (idx_ok e_Net h16) (an h17 (an h17 (an h17 (an h17 (an h17 (an h17 (an h17 (an h17 (an h17 (an h17 (an h17 (an (Eq.refl true) (an (Eq.refl true) (an (Eq.refl true) (an (Eq.refl true) (an (Eq.refl true) (an (Eq.refl true) (an (Eq.refl true) (an (Eq.refl true) (an (Eq.refl true) (an (Eq.refl true) (Eq.refl true))))))))))))))))))))))) (by kernel_rfl)
    · obtain ⟨x18, h19, h13⟩ := bnd_e h13
      obtain ⟨r20, h21, h13⟩ := bnd_e h13
      rcases cnd_e h13 with ⟨h22, h13⟩ | ⟨h22, h13⟩
      · have h13 := Option.some.inj h13
        subst h13
        exact Runs.path XTok PGmix [.d [([], []), ([2], []), ([], []), ([1], []), ([], []), ([], [.el (e_Net x15)]), ([], []), ([], []), ([], []), ([], []), ([], [.b false]), ([2], [.b false]), ([], [.b false]), ([1], [.b false]), ([], [.b false]), ([], [.b false, .el (e_Net x18)]), ([], [.b false]), ([], [.b false]), ([], [.b false, .val (bA r20)]), ([], [.b false]), ([], [.b false]), ([], []), ([], [.b true]), ([], [.b true]), ([], [.b true]), ([], [.b true]), ([], [.b true]), ([], [.b true]), ([], [.b true]), ([], [.b true]), ([], [.b true]), ([], [.b true]), ([], [.b true])]] [] (an (idx_ok e_Net h16) (an h17 (an h17 (an h17 (an h17 (an h17 (an h17 (an (idx_ok e_Net h19) (an h17 (an h17 (an h17 (an (slices_Equal_api_Pin_api_Pin_ok x10.Pins x18.Pins r20 h21) (an h17 (an h17 (an h22 (an h22 (an h22 (an h22 (an h22 (an h22 (an h22 (an h22 (an h22 (an h22 h22)))))))))))))))))))))))) (by kernel_rfl)
      · obtain ⟨x23, h24, h13⟩ := bnd_e h13
        obtain ⟨r25, h26, h13⟩ := bnd_e h13
        have h13 := Option.some.inj h13
        subst h13
        exact Runs.path XTok PGmix [.d [([], []), ([2], []), ([], []), ([1], []), ([], []), ([], [.el (e_Net x15)]), ([], []), ([], []), ([], []), ([], []), ([], [.b false]), ([2], [.b false]), ([], [.b false]), ([1], [.b false]), ([], [.b false]), ([], [.b false, .el (e_Net x18)]), ([], [.b false]), ([], [.b false]), ([], [.b false, .val (bA r20)]), ([], [.b false]), ([], [.b false]), ([], []), ([], [.b false]), ([2], [.b false]), ([], [.b false]), ([1], [.b false]), ([], [.b false]), ([], [.b false, .el (e_Net x23)]), ([], [.b false]), ([], [.b false]), ([], [.b false, .val (bA r25)]), ([], [.b false]), ([], [.b false])]] [] (an (idx_ok e_Net h16) (an h17 (an h17 (an h17 (an h17 (an h17 (an h17 (an (idx_ok e_Net h19) (an h17 (an h17 (an h17 (an (slices_Equal_api_Pin_api_Pin_ok x10.Pins x18.Pins r20 h21) (an h17 (an h17 (an h22 (an h22 (an h22 (an h22 (an h22 (an h22 (an (idx_ok e_Net h24) (an h22 (an h22 (an h22 (an (slices_Equal_string_string_ok x10.Ports x23.Ports r25 h26) (an h22 h22)))))))))))))))))))))))))) (by kernel_rfl)
  rcases cnd_e h with ⟨h28, h⟩ | ⟨h28, h⟩
  · have h := Option.some.inj h
    subst h
    exact Runs.path XTok PGmix [.r [], .b true, .r [.el (e_Net x10), .id 2], .s q27_f q27_g [] (.nor q27_f' q27_g'), .b true, .r []] [] (an (lt_true hi) (an (idx_ok e_Net h11) (an R14 h28))) (by kernel_rfl)
  · have h := Option.some.inj h
    subst h
    exact Runs.path XTok PGmix [.r [], .b true, .r [.el (e_Net x10), .id 2], .s q27_f q27_g [] (.nor q27_f' q27_g'), .b false, .r [.eq 63 (iA ((i9 + 1 : Nat) : Int))]] [] (an (lt_true hi) (an (idx_ok e_Net h11) (an R14 (an h28 (wrap_eq hi hM))))) (by kernel_rfl)
theorem ref_Same_b0_e (a0 : Netlist) (a1 : Netlist) : Runs PG 64 0 ref_Same_c0 (ref_Same_F0 a0 a1 (a0.Nets.length) ) (ref_Same_H0 a0 a1 (a0.Nets.length) ) (ref_Same_B0 a0 a1 ()) := by
  exact Runs.path XTok PGmix [.r [], .b false] [] (lt_false (a0.Nets.length)) (by kernel_rfl)
theorem ref_Same_l0 (a0 : Netlist) (a1 : Netlist) (r : Fin' Unit Bool) (h : forN (fun i9 s => ref_Same_b0 a0 a1 i9 ) (a0.Nets.length) 0 () = some r) : Runs PG 64 0 (cL (cR (cL (cR (cR ref_Same_c))))) (ref_Same_F0 a0 a1 0 ) (ref_Same_H0 a0 a1 0 ) (finOc (ref_Same_B0 a0 a1) ref_Same_R r) :=
  Runs.loop' (by kernel_rfl) (forN_rounds (σ := Unit) (ρ := Bool) (body := fun i9 s => ref_Same_b0 a0 a1 i9 ) (F := fun i9 s => ref_Same_F0 a0 a1 i9 ) (H := fun i9 s => ref_Same_H0 a0 a1 i9 ) (B := ref_Same_B0 a0 a1) (R := ref_Same_R) (M := a0.Nets.length) (fun _ => rfl) (fun _ => rfl) (fun s => ref_Same_b0_e a0 a1 ) (fun i s o hi h => ref_Same_b0_r a0 a1 i o hi h) _ 0 _ r (Nat.zero_add _) h)
noncomputable def ref_Same (a0 : Netlist) (a1 : Netlist) : Option Bool :=
 bnd1 (bnd (slices_Equal_api_Part_api_Part a0.Parts a1.Parts) fun r4 =>
 cnd (!r4) (some true) (some ((a0.Nets.length : Int) != (a1.Nets.length : Int)))) fun v1 =>
 cnd v1 (some false) (aft0 (forN (fun i9 s => ref_Same_b0 a0 a1 i9 ) (a0.Nets.length) 0 ()) (
 some true)
 (fun r30 =>
 some r30))
theorem ref_Same_ok (a0 : Netlist) (a1 : Netlist) (r : Bool) (h : ref_Same a0 a1 = some r) : Spec PG 26 [gT (e_Netlist a0), gT (e_Netlist a1)] [] (bA r) [] := by
  unfold ref_Same at h
  obtain ⟨v1, h2, h⟩ := bnd1_e h
  let q7_f : Fr := [(2, .t (.v (.ptr 0 0))), (3, .t (.v (.ptr 1 0)))]
  let q7_g : Hp := [(0, .cells 26 [.c (.sl 2 (List.map e_Part a0.Parts)), .c (.sl 3 (List.map e_Net a0.Nets))]), (1, .cells 26 [.c (.sl 2 (List.map e_Part a1.Parts)), .c (.sl 3 (List.map e_Net a1.Nets))])]
  let q7_f' : Fr := [(2, .t (.v (.ptr 0 0))), (3, .t (.v (.ptr 1 0))), (21, bA v1)]
  let q7_g' : Hp := [(0, .cells 26 [.c (.sl 2 (List.map e_Part a0.Parts)), .c (.sl 3 (List.map e_Net a0.Nets))]), (1, .cells 26 [.c (.sl 2 (List.map e_Part a1.Parts)), .c (.sl 3 (List.map e_Net a1.Nets))])]
  have R3 : Runs PG 64 0 (cL (cL (cR ref_Same_c))) q7_f q7_g (.nor q7_f' q7_g') := by
    obtain ⟨r4, h5, h2⟩ := bnd_e h2
    rcases cnd_e h2 with ⟨h6, h2⟩ | ⟨h6, h2⟩
    · have h2 := Option.some.inj h2
      subst h2
      exact Runs.path XTok PGmix [.r [.val (bA r4), .b true, .b true, .b true, .b true, .b true, .b true, .b true, .b true]] [] (an (slices_Equal_api_Part_api_Part_ok a0.Parts a1.Parts r4 h5) (an h6 (an h6 (an h6 (an h6 (an h6 (an h6 (an h6 h6)))))))) (by kernel_rfl)
    · have h2 := Option.some.inj h2
      subst h2
      exact Runs.path XTok PGmix [.r [.val (bA r4), .b false, .b false, .b false, .eq 16 (iA (a0.Nets.length : Int)), .b false, .b false, .b false, .eq 19 (iA (a1.Nets.length : Int)), .b false, .b false]] [] (an (slices_Equal_api_Part_api_Part_ok a0.Parts a1.Parts r4 h5) (an h6 (an h6 (an h6 (an (leni_eq e_Net a0.Nets) (an h6 (an h6 (an h6 (an (leni_eq e_Net a1.Nets) (an h6 h6)))))))))) (by kernel_rfl)
  rcases cnd_e h with ⟨h8, h⟩ | ⟨h8, h⟩
  · have h := Option.some.inj h
    subst h
    exact Spec.path XTok PGmix ref_Same_fn 0 [.r [.id 0, .id 1], .s q7_f q7_g [] (.nor q7_f' q7_g'), .b true, .r []] (an R3 h8) (by kernel_rfl)
  · rcases aft0_e h with ⟨h29, h⟩ | ⟨r30, h29, h⟩
    · have h := Option.some.inj h
      subst h
      exact Spec.path XTok PGmix ref_Same_fn 0 [.r [.id 0, .id 1], .s q7_f q7_g [] (.nor q7_f' q7_g'), .b false, .r [.eq 24 (iA (a0.Nets.length : Int))], .s (ref_Same_F0 a0 a1 0 ) (ref_Same_H0 a0 a1 0 ) [] (ref_Same_B0 a0 a1 ()), .r []] (an R3 (an h8 (an (leni_eq e_Net a0.Nets) (ref_Same_l0 a0 a1 (.fin ()) h29)))) (by kernel_rfl)
    · have h := Option.some.inj h
      subst h
      exact Spec.path XTok PGmix ref_Same_fn 0 [.r [.id 0, .id 1], .s q7_f q7_g [] (.nor q7_f' q7_g'), .b false, .r [.eq 24 (iA (a0.Nets.length : Int))], .s (ref_Same_F0 a0 a1 0 ) (ref_Same_H0 a0 a1 0 ) [] (ref_Same_R r30)] (an R3 (an h8 (an (leni_eq e_Net a0.Nets) (ref_Same_l0 a0 a1 (.ret r30) h29)))) (by kernel_rfl)
end Go.Proofs.YtlbndchfmdogeaaDoor.Sym
