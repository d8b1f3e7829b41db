/- Printed by gen2.py: the plain forms of functions, and that calling them gives what these give. Conditions: none. -/
import Derived.Test.YtlbndchfmdogeaaDoorFf1
set_option linter.unusedVariables false
set_option maxHeartbeats 4000000
namespace Go.Proofs.YtlbndchfmdogeaaDoor.Sym
open Go Go.RowKit
noncomputable def nl_CheckList_1_c : Code := (Go.Proofs.Tryd.f51.body).getD .skip
theorem nl_CheckList_1_fn : FnOk PG 51 nl_CheckList_1_c 10 [.tmp 4] := ⟨⟨Go.Proofs.Tryd.f51, by kernel_rfl, by kernel_rfl, by kernel_rfl, by kernel_rfl, by kernel_rfl⟩⟩
noncomputable def nl_CheckList_1 (a0 : Pin) (a1 : List PartType) (a2 : Netlist) : Option Bool :=
 bnd (nl_hasPin a1 a2.Parts a0) fun r1 =>
 some r1
theorem nl_CheckList_1_ok (a0 : Pin) (a1 : List PartType) (a2 : Netlist) (r : Bool) (h : nl_CheckList_1 a0 a1 a2 = some r) : Spec PG 51 [gT (e_Pin a0), .v (.c (.ptr [.sl 2 (List.map e_PartType a1)])), .v (.c (.ptr (e_Netlist a2)))] [] (bA r) [] := by
  unfold nl_CheckList_1 at h
  obtain ⟨r1, h2, h⟩ := bnd_e h
  have h := Option.some.inj h
  subst h
  exact Spec.path XTok PGmix nl_CheckList_1_fn 0 [.r [.id 0], .r [.val (bA r1)]] (nl_hasPin_ok a1 a2.Parts a0 r1 h2) (by kernel_rfl)

noncomputable def nl_CheckList_c : Code := (Go.Proofs.Tryd.f15.body).getD .skip
theorem nl_CheckList_fn : FnOk PG 15 nl_CheckList_c 71 [.tmp 4] := ⟨⟨Go.Proofs.Tryd.f15, by kernel_rfl, by kernel_rfl, by kernel_rfl, by kernel_rfl, by kernel_rfl⟩⟩
noncomputable def nl_CheckList_c0 : Code := cL (cL (cR (cL (cR (cR (cR (cR (cR nl_CheckList_c))))))))
noncomputable def nl_CheckList_R (r : Int) : Oc := .ret [(4, iA r)] []
noncomputable def nl_CheckList_F0 (a0 : List PartType) (a1 : Netlist) (i8 : Nat) (y9 : List (Pin × Bool)) : Fr := [(2, .t (.v (.c (.ptr [.sl 2 (List.map e_PartType a0)])))), (3, .t (.v (.c (.ptr (e_Netlist a1))))), (7, .t (.v (.rt 2))), (29, lA 3 (List.map e_Net a1.Nets)), (30, iA (a1.Nets.length : Int)), (31, iA (i8 : Int))]
noncomputable def nl_CheckList_H0 (a0 : List PartType) (a1 : Netlist) (i8 : Nat) (y9 : List (Pin × Bool)) : Hp := [(2, .map (keys PG 28) (encM kv_Pin dv_bool y9))]
noncomputable def nl_CheckList_B0 (a0 : List PartType) (a1 : Netlist) (s : (List (Pin × Bool))) : Oc := .ex 0 [] []
noncomputable def nl_CheckList_b0 (a0 : List PartType) (a1 : Netlist) (i8 : Nat) (y9 : List (Pin × Bool)) : Option (Stp (List (Pin × Bool)) Int) :=
 bnd (atI a1.Nets (i8 : Int)) fun x10 =>
 bnd (nl_IsPath x10.Name) fun r12 =>
 cnd (!r12) (some (.ret 5)) (cnd ((x10.Pins.length : Int) == 0) (some (.ret 9)) (bnd (nl_checkNetPins x10.Pins (fun z0 => nl_CheckList_1 z0 a0 a1) y9) fun r16 =>
 cnd (r16.1 != 0) (some (.ret r16.1)) (cnd (decide ((x10.Ports.length : Int) > 0)) (some (.ret 3)) (bnd1 (cnd (decide ((i8 : Int) > 0)) (bnd (atI a1.Nets (w64 ((i8 : Int) - 1))) fun x24 =>
 some (sLe x10.Name x24.Name)) (some false)) fun v20 =>
 cnd v20 (some (.ret 8)) (some (.go r16.2))))))
theorem nl_CheckList_b0_r (a0 : List PartType) (a1 : Netlist) (i8 : Nat) (y9 : List (Pin × Bool)) (o : Stp (List (Pin × Bool)) Int) (hi : i8 < a1.Nets.length) (h : nl_CheckList_b0 a0 a1 i8 y9 = some o) :
    Runs PG 71 0 nl_CheckList_c0 (nl_CheckList_F0 a0 a1 i8 y9) (nl_CheckList_H0 a0 a1 i8 y9) (stpOc (fun s' => .nor (nl_CheckList_F0 a0 a1 (i8 + 1) s') (nl_CheckList_H0 a0 a1 (i8 + 1) s')) (nl_CheckList_B0 a0 a1) nl_CheckList_R o) := by
  unfold nl_CheckList_b0 at h
  refine Runs.len (s := 29) (sz := 3) (xs := List.map e_Net a1.Nets) (by kernel_rfl) fun hl => ?_
  have hM : a1.Nets.length ≤ lim := len_of hl
  obtain ⟨x10, h11, h⟩ := bnd_e h
  obtain ⟨r12, h13, h⟩ := bnd_e h
  rcases cnd_e h with ⟨h14, h⟩ | ⟨h14, h⟩
  · have h := Option.some.inj h
    subst h
    exact Runs.path XTok PGmix [.r [], .b true, .r [.el (e_Net x10), .id 3], .r [.val (bA r12)], .b true, .r []] [] (an (lt_true hi) (an (idx_ok e_Net h11) (an (nl_IsPath_ok x10.Name r12 h13) h14))) (by kernel_rfl)
  · rcases cnd_e h with ⟨h15, h⟩ | ⟨h15, h⟩
    · have h := Option.some.inj h
      subst h
      exact Runs.path XTok PGmix [.r [], .b true, .r [.el (e_Net x10), .id 3], .r [.val (bA r12)], .b false, .r [.eq 42 (iA (x10.Pins.length : Int))], .b true, .r []] [] (an (lt_true hi) (an (idx_ok e_Net h11) (an (nl_IsPath_ok x10.Name r12 h13) (an h14 (an (leni_eq e_Pin x10.Pins) h15))))) (by kernel_rfl)
    · obtain ⟨r16, h17, h⟩ := bnd_e h
      rcases cnd_e h with ⟨h18, h⟩ | ⟨h18, h⟩
      · have h := Option.some.inj h
        subst h
        exact Runs.path XTok PGmix [.r [], .b true, .r [.el (e_Net x10), .id 3], .r [.val (bA r12)], .b false, .r [.eq 42 (iA (x10.Pins.length : Int))], .b false, .r [.call [(0, 2)] [lT 2 (List.map e_Pin x10.Pins), .v (.c (.fn 51 [.ptr [.sl 2 (List.map e_PartType a0)], .ptr (e_Netlist a1)])), .v (.rt 0)] [(0, .map (keys PG 28) (encM kv_Pin dv_bool y9))] (iA r16.1) [(0, .map (keys PG 28) (encM kv_Pin dv_bool r16.2))]], .r [], .b true, .r []] [] (an (lt_true hi) (an (idx_ok e_Net h11) (an (nl_IsPath_ok x10.Name r12 h13) (an h14 (an (leni_eq e_Pin x10.Pins) (an h15 (an (an (nl_checkNetPins_ok x10.Pins 51 [.ptr [.sl 2 (List.map e_PartType a0)], .ptr (e_Netlist a1)] (fun z0 => nl_CheckList_1 z0 a0 a1) (fun z0 r h => nl_CheckList_1_ok z0 a0 a1 r h) y9 r16 h17) (an (Eq.refl ([lT 2 (List.map e_Pin x10.Pins), .v (.c (.fn 51 [.ptr [.sl 2 (List.map e_PartType a0)], .ptr (e_Netlist a1)])), .v (.rt 2)] : List TV)) (Eq.refl (renH (asg [(0, 2)]) [(0, .map (keys PG 28) (encM kv_Pin dv_bool y9))])))) h18))))))) (by kernel_rfl)
      · rcases cnd_e h with ⟨h19, h⟩ | ⟨h19, h⟩
        · have h := Option.some.inj h
          subst h
          exact Runs.path XTok PGmix [.r [], .b true, .r [.el (e_Net x10), .id 3], .r [.val (bA r12)], .b false, .r [.eq 42 (iA (x10.Pins.length : Int))], .b false, .r [.call [(0, 2)] [lT 2 (List.map e_Pin x10.Pins), .v (.c (.fn 51 [.ptr [.sl 2 (List.map e_PartType a0)], .ptr (e_Netlist a1)])), .v (.rt 0)] [(0, .map (keys PG 28) (encM kv_Pin dv_bool y9))] (iA r16.1) [(0, .map (keys PG 28) (encM kv_Pin dv_bool r16.2))]], .r [], .b false, .r [.eq 54 (iA (x10.Ports.length : Int))], .b true, .r []] [] (an (lt_true hi) (an (idx_ok e_Net h11) (an (nl_IsPath_ok x10.Name r12 h13) (an h14 (an (leni_eq e_Pin x10.Pins) (an h15 (an (an (nl_checkNetPins_ok x10.Pins 51 [.ptr [.sl 2 (List.map e_PartType a0)], .ptr (e_Netlist a1)] (fun z0 => nl_CheckList_1 z0 a0 a1) (fun z0 r h => nl_CheckList_1_ok z0 a0 a1 r h) y9 r16 h17) (an (Eq.refl ([lT 2 (List.map e_Pin x10.Pins), .v (.c (.fn 51 [.ptr [.sl 2 (List.map e_PartType a0)], .ptr (e_Netlist a1)])), .v (.rt 2)] : List TV)) (Eq.refl (renH (asg [(0, 2)]) [(0, .map (keys PG 28) (encM kv_Pin dv_bool y9))])))) (an h18 (an (leni_eq e_str x10.Ports) h19))))))))) (by kernel_rfl)
        · obtain ⟨v20, h21, h⟩ := bnd1_e h
          let q26_f : Fr := [(2, .t (.v (.c (.ptr [.sl 2 (List.map e_PartType a0)])))), (3, .t (.v (.c (.ptr (e_Netlist a1))))), (7, .t (.v (.rt 2))), (8, iA (i8 : Int)), (9, .t (.v (.ptr 3 0))), (29, lA 3 (List.map e_Net a1.Nets)), (30, iA (a1.Nets.length : Int)), (31, iA (i8 : Int))]
          let q26_g : Hp := [(2, .map (keys PG 28) (encM kv_Pin dv_bool r16.2)), (3, .cells 64 [.c (sC x10.Name), .c (.sl 2 (List.map e_Pin x10.Pins)), .c (.sl 1 (List.map e_str x10.Ports))])]
          let q26_f' : Fr := [(2, .t (.v (.c (.ptr [.sl 2 (List.map e_PartType a0)])))), (3, .t (.v (.c (.ptr (e_Netlist a1))))), (7, .t (.v (.rt 2))), (29, lA 3 (List.map e_Net a1.Nets)), (30, iA (a1.Nets.length : Int)), (31, iA (i8 : Int)), (69, bA v20)]
          let q26_g' : Hp := [(2, .map (keys PG 28) (encM kv_Pin dv_bool r16.2))]
          have R22 : Runs PG 71 0 (cL (cR (cR (cR (cR (cR (cL (cL (cR (cR nl_CheckList_c0)))))))))) q26_f q26_g (.nor q26_f' q26_g') := by
            rcases cnd_e h21 with ⟨h23, h21⟩ | ⟨h23, h21⟩
            · obtain ⟨x24, h25, h21⟩ := bnd_e h21
              have h21 := Option.some.inj h21
              subst h21
              exact Runs.path XTok PGmix [.d [([], []), ([], []), ([], []), ([], [.b true]), ([3], [.b true]), ([], [.b true]), ([], [.b true]), ([], [.b true]), ([], [.b true]), ([], [.b true, .el (e_Net x24)]), ([], [.b true]), ([], [.b true]), ([], [.b true]), ([], [.b true])]] [] (an h23 (an h23 (an h23 (an h23 (an h23 (an h23 (an h23 (an (idx_ok e_Net h25) (an h23 (an h23 (an h23 h23))))))))))) (by kernel_rfl)
            · have h21 := Option.some.inj h21
              subst h21
              exact Runs.path XTok PGmix [.d [([], []), ([], []), ([], []), ([], [.b false]), ([], [.b false]), ([], [.b false]), ([], [.b false]), ([], [.b false]), ([], [.b false]), ([], [.b false]), ([], [.b false]), ([], [.b false]), ([], [.b false]), ([], [.b false])]] [] (an h23 (an h23 (an h23 (an h23 (an h23 (an h23 (an h23 (an h23 (an h23 (an h23 h23)))))))))) (by kernel_rfl)
          rcases cnd_e h with ⟨h27, h⟩ | ⟨h27, h⟩
          · have h := Option.some.inj h
            subst h
            exact Runs.path XTok PGmix [.r [], .b true, .r [.el (e_Net x10), .id 3], .r [.val (bA r12)], .b false, .r [.eq 42 (iA (x10.Pins.length : Int))], .b false, .r [.call [(0, 2)] [lT 2 (List.map e_Pin x10.Pins), .v (.c (.fn 51 [.ptr [.sl 2 (List.map e_PartType a0)], .ptr (e_Netlist a1)])), .v (.rt 0)] [(0, .map (keys PG 28) (encM kv_Pin dv_bool y9))] (iA r16.1) [(0, .map (keys PG 28) (encM kv_Pin dv_bool r16.2))]], .r [], .b false, .r [.eq 54 (iA (x10.Ports.length : Int))], .b false, .s q26_f q26_g [] (.nor q26_f' q26_g'), .b true, .r []] [] (an (lt_true hi) (an (idx_ok e_Net h11) (an (nl_IsPath_ok x10.Name r12 h13) (an h14 (an (leni_eq e_Pin x10.Pins) (an h15 (an (an (nl_checkNetPins_ok x10.Pins 51 [.ptr [.sl 2 (List.map e_PartType a0)], .ptr (e_Netlist a1)] (fun z0 => nl_CheckList_1 z0 a0 a1) (fun z0 r h => nl_CheckList_1_ok z0 a0 a1 r h) y9 r16 h17) (an (Eq.refl ([lT 2 (List.map e_Pin x10.Pins), .v (.c (.fn 51 [.ptr [.sl 2 (List.map e_PartType a0)], .ptr (e_Netlist a1)])), .v (.rt 2)] : List TV)) (Eq.refl (renH (asg [(0, 2)]) [(0, .map (keys PG 28) (encM kv_Pin dv_bool y9))])))) (an h18 (an (leni_eq e_str x10.Ports) (an h19 (an R22 h27))))))))))) (by kernel_rfl)
          · have h := Option.some.inj h
            subst h
            exact Runs.path XTok PGmix [.r [], .b true, .r [.el (e_Net x10), .id 3], .r [.val (bA r12)], .b false, .r [.eq 42 (iA (x10.Pins.length : Int))], .b false, .r [.call [(0, 2)] [lT 2 (List.map e_Pin x10.Pins), .v (.c (.fn 51 [.ptr [.sl 2 (List.map e_PartType a0)], .ptr (e_Netlist a1)])), .v (.rt 0)] [(0, .map (keys PG 28) (encM kv_Pin dv_bool y9))] (iA r16.1) [(0, .map (keys PG 28) (encM kv_Pin dv_bool r16.2))]], .r [], .b false, .r [.eq 54 (iA (x10.Ports.length : Int))], .b false, .s q26_f q26_g [] (.nor q26_f' q26_g'), .b false, .r [.eq 70 (iA ((i8 + 1 : Nat) : Int))]] [] (an (lt_true hi) (an (idx_ok e_Net h11) (an (nl_IsPath_ok x10.Name r12 h13) (an h14 (an (leni_eq e_Pin x10.Pins) (an h15 (an (an (nl_checkNetPins_ok x10.Pins 51 [.ptr [.sl 2 (List.map e_PartType a0)], .ptr (e_Netlist a1)] (fun z0 => nl_CheckList_1 z0 a0 a1) (fun z0 r h => nl_CheckList_1_ok z0 a0 a1 r h) y9 r16 h17) (an (Eq.refl ([lT 2 (List.map e_Pin x10.Pins), .v (.c (.fn 51 [.ptr [.sl 2 (List.map e_PartType a0)], .ptr (e_Netlist a1)])), .v (.rt 2)] : List TV)) (Eq.refl (renH (asg [(0, 2)]) [(0, .map (keys PG 28) (encM kv_Pin dv_bool y9))])))) (an h18 (an (leni_eq e_str x10.Ports) (an h19 (an R22 (an h27 (wrap_eq hi hM))))))))))))) (by kernel_rfl)
theorem nl_CheckList_b0_e (a0 : List PartType) (a1 : Netlist) (y9 : List (Pin × Bool)) : Runs PG 71 0 nl_CheckList_c0 (nl_CheckList_F0 a0 a1 (a1.Nets.length) y9) (nl_CheckList_H0 a0 a1 (a1.Nets.length) y9) (nl_CheckList_B0 a0 a1 y9) := by
  exact Runs.path XTok PGmix [.r [], .b false] [] (lt_false (a1.Nets.length)) (by kernel_rfl)
theorem nl_CheckList_l0 (a0 : List PartType) (a1 : Netlist) (y9 : List (Pin × Bool)) (r : Fin' (List (Pin × Bool)) Int) (h : forN (fun i8 s => nl_CheckList_b0 a0 a1 i8 s) (a1.Nets.length) 0 y9 = some r) : Runs PG 71 0 (cL (cR (cL (cR (cR (cR (cR (cR nl_CheckList_c)))))))) (nl_CheckList_F0 a0 a1 0 y9) (nl_CheckList_H0 a0 a1 0 y9) (finOc (nl_CheckList_B0 a0 a1) nl_CheckList_R r) :=
  Runs.loop' (by kernel_rfl) (forN_rounds (σ := (List (Pin × Bool))) (ρ := Int) (body := fun i8 s => nl_CheckList_b0 a0 a1 i8 s) (F := fun i8 s => nl_CheckList_F0 a0 a1 i8 s) (H := fun i8 s => nl_CheckList_H0 a0 a1 i8 s) (B := nl_CheckList_B0 a0 a1) (R := nl_CheckList_R) (M := a1.Nets.length) (fun _ => rfl) (fun _ => rfl) (fun s => nl_CheckList_b0_e a0 a1 s) (fun i s o hi h => nl_CheckList_b0_r a0 a1 i s o hi h) _ 0 _ r (Nat.zero_add _) h)
noncomputable def nl_CheckList (a0 : List PartType) (a1 : Netlist) : Option Int :=
 bnd (nl_CheckTypes a0) fun r1 =>
 cnd (r1 != 0) (some r1) (bnd (nl_checkParts a0 a1.Parts (fun z0 => nl_IsPath z0)) fun r4 =>
 cnd (r4 != 0) (some r4) (cnd (decide ((a1.Nets.length : Int) > 1000)) (some 2) (aft1 (forN (fun i8 s => nl_CheckList_b0 a0 a1 i8 s) (a1.Nets.length) 0 []) (fun u28 =>
 some 0)
 (fun r30 =>
 some r30))))
theorem nl_CheckList_ok (a0 : List PartType) (a1 : Netlist) (r : Int) (h : nl_CheckList a0 a1 = some r) : Spec PG 15 [lT 2 (List.map e_PartType a0), gT (e_Netlist a1)] [] (iA r) [] := by
  unfold nl_CheckList at h
  obtain ⟨r1, h2, h⟩ := bnd_e h
  rcases cnd_e h with ⟨h3, h⟩ | ⟨h3, h⟩
  · have h := Option.some.inj h
    subst h
    exact Spec.path XTok PGmix nl_CheckList_fn 0 [.r [.id 0, .id 1], .r [.val (iA r1)], .r [], .b true, .r []] (an (nl_CheckTypes_ok a0 r1 h2) h3) (by kernel_rfl)
  · obtain ⟨r4, h5, h⟩ := bnd_e h
    rcases cnd_e h with ⟨h6, h⟩ | ⟨h6, h⟩
    · have h := Option.some.inj h
      subst h
      exact Spec.path XTok PGmix nl_CheckList_fn 0 [.r [.id 0, .id 1], .r [.val (iA r1)], .r [], .b false, .r [.val (iA r4)], .r [], .b true, .r []] (an (nl_CheckTypes_ok a0 r1 h2) (an h3 (an (nl_checkParts_ok a0 a1.Parts 49 [] (fun z0 => nl_IsPath z0) (fun z0 r h => nl_IsPath_ok z0 r h) r4 h5) h6))) (by kernel_rfl)
    · rcases cnd_e h with ⟨h7, h⟩ | ⟨h7, h⟩
      · have h := Option.some.inj h
        subst h
        exact Spec.path XTok PGmix nl_CheckList_fn 0 [.r [.id 0, .id 1], .r [.val (iA r1)], .r [], .b false, .r [.val (iA r4)], .r [], .b false, .r [.eq 25 (iA (a1.Nets.length : Int))], .b true, .r []] (an (nl_CheckTypes_ok a0 r1 h2) (an h3 (an (nl_checkParts_ok a0 a1.Parts 49 [] (fun z0 => nl_IsPath z0) (fun z0 r h => nl_IsPath_ok z0 r h) r4 h5) (an h6 (an (leni_eq e_Net a1.Nets) h7))))) (by kernel_rfl)
      · rcases aft1_e h with ⟨u28, h29, h⟩ | ⟨r30, h29, h⟩
        · have h := Option.some.inj h
          subst h
          exact Spec.path XTok PGmix nl_CheckList_fn 0 [.r [.id 0, .id 1], .r [.val (iA r1)], .r [], .b false, .r [.val (iA r4)], .r [], .b false, .r [.eq 25 (iA (a1.Nets.length : Int))], .b false, .r [.id 2], .r [.eq 30 (iA (a1.Nets.length : Int))], .fb 0, .fb 1, .s (nl_CheckList_F0 a0 a1 0 []) (nl_CheckList_H0 a0 a1 0 []) [] (nl_CheckList_B0 a0 a1 u28), .r []] (an (nl_CheckTypes_ok a0 r1 h2) (an h3 (an (nl_checkParts_ok a0 a1.Parts 49 [] (fun z0 => nl_IsPath z0) (fun z0 r h => nl_IsPath_ok z0 r h) r4 h5) (an h6 (an (leni_eq e_Net a1.Nets) (an h7 (an (leni_eq e_Net a1.Nets) (nl_CheckList_l0 a0 a1 [] (.fin u28) h29)))))))) (by kernel_rfl)
        · have h := Option.some.inj h
          subst h
          exact Spec.path XTok PGmix nl_CheckList_fn 0 [.r [.id 0, .id 1], .r [.val (iA r1)], .r [], .b false, .r [.val (iA r4)], .r [], .b false, .r [.eq 25 (iA (a1.Nets.length : Int))], .b false, .r [.id 2], .r [.eq 30 (iA (a1.Nets.length : Int))], .fb 0, .fb 1, .s (nl_CheckList_F0 a0 a1 0 []) (nl_CheckList_H0 a0 a1 0 []) [] (nl_CheckList_R r30)] (an (nl_CheckTypes_ok a0 r1 h2) (an h3 (an (nl_checkParts_ok a0 a1.Parts 49 [] (fun z0 => nl_IsPath z0) (fun z0 r h => nl_IsPath_ok z0 r h) r4 h5) (an h6 (an (leni_eq e_Net a1.Nets) (an h7 (an (leni_eq e_Net a1.Nets) (nl_CheckList_l0 a0 a1 [] (.ret r30) h29)))))))) (by kernel_rfl)

noncomputable def nl_Nets_c : Code := (Go.Proofs.Tryd.f44.body).getD .skip
theorem nl_Nets_fn : FnOk PG 44 nl_Nets_c 30 [.tmp 2] := ⟨⟨Go.Proofs.Tryd.f44, by kernel_rfl, by kernel_rfl, by kernel_rfl, by kernel_rfl, by kernel_rfl⟩⟩
noncomputable def nl_Nets_c0 : Code := cL (cL (cR (cL (cR (cR nl_Nets_c)))))
noncomputable def nl_Nets_R (r : (List (Pin × Int))) : Oc := .ret [(2, .t (.v (.rt 0)))] [(0, .map (keys PG 28) (encM kv_Pin dv_i64 r))]
noncomputable def nl_Nets_c1 : Code := cL (cL (cR (cR (cL (cL (cR (cR nl_Nets_c0)))))))
noncomputable def nl_Nets_F1 (a0 : Netlist) (i1 : Nat) (x3 : Net) (i5 : Nat) (y6 : List (Pin × Int)) : Fr := [(3, .t (.v (.rt 1))), (4, iA (i1 : Int)), (10, lA 3 (List.map e_Net a0.Nets)), (11, iA (a0.Nets.length : Int)), (12, iA (i1 : Int)), (18, lA 2 (List.map e_Pin x3.Pins)), (19, iA (x3.Pins.length : Int)), (20, iA (i5 : Int))]
noncomputable def nl_Nets_H1 (a0 : Netlist) (i1 : Nat) (x3 : Net) (i5 : Nat) (y6 : List (Pin × Int)) : Hp := [(1, .map (keys PG 28) (encM kv_Pin dv_i64 y6))]
noncomputable def nl_Nets_B1 (a0 : Netlist) (i1 : Nat) (x3 : Net) (s : (List (Pin × Int))) : Oc := .ex 2 [(3, .t (.v (.rt 1))), (10, lA 3 (List.map e_Net a0.Nets)), (11, iA (a0.Nets.length : Int)), (12, iA (i1 : Int))] [(1, .map (keys PG 28) (encM kv_Pin dv_i64 s))]
noncomputable def nl_Nets_b1 (a0 : Netlist) (i1 : Nat) (x3 : Net) (i5 : Nat) (y6 : List (Pin × Int)) : Option (Stp (List (Pin × Int)) (List (Pin × Int))) :=
 bnd (atI x3.Pins (i5 : Int)) fun x7 =>
 some (.go (tput y6 x7 (i1 : Int)))
theorem nl_Nets_b1_r (a0 : Netlist) (i1 : Nat) (x3 : Net) (i5 : Nat) (y6 : List (Pin × Int)) (o : Stp (List (Pin × Int)) (List (Pin × Int))) (hi : i5 < x3.Pins.length) (h : nl_Nets_b1 a0 i1 x3 i5 y6 = some o) :
    Runs PG 30 0 nl_Nets_c1 (nl_Nets_F1 a0 i1 x3 i5 y6) (nl_Nets_H1 a0 i1 x3 i5 y6) (stpOc (fun s' => .nor (nl_Nets_F1 a0 i1 x3 (i5 + 1) s') (nl_Nets_H1 a0 i1 x3 (i5 + 1) s')) (nl_Nets_B1 a0 i1 x3) nl_Nets_R o) := by
  unfold nl_Nets_b1 at h
  refine Runs.len (s := 18) (sz := 2) (xs := List.map e_Pin x3.Pins) (by kernel_rfl) fun hl => ?_
  have hM : x3.Pins.length ≤ lim := len_of hl
  obtain ⟨x7, h8, h⟩ := bnd_e h
  have h := Option.some.inj h
  subst h
  exact Runs.path XTok PGmix [.r [], .b true, .r [.el (e_Pin x7), .id 2], .r [.es (encM kv_Pin dv_i64 (tput y6 x7 (i1 : Int)))], .r [.eq 27 (iA ((i5 + 1 : Nat) : Int))]] [] (an (lt_true hi) (an (idx_ok e_Pin h8) (an (an kd_Pin (an (Eq.refl (keys PG 28)) (an (kf_Pin x7) (put_ok dv_i64 ki_Pin y6 x7 (i1 : Int))))) (wrap_eq hi hM)))) (by kernel_rfl)
theorem nl_Nets_b1_e (a0 : Netlist) (i1 : Nat) (x3 : Net) (y6 : List (Pin × Int)) : Runs PG 30 0 nl_Nets_c1 (nl_Nets_F1 a0 i1 x3 (x3.Pins.length) y6) (nl_Nets_H1 a0 i1 x3 (x3.Pins.length) y6) (nl_Nets_B1 a0 i1 x3 y6) := by
  exact Runs.path XTok PGmix [.r [], .b false] [] (lt_false (x3.Pins.length)) (by kernel_rfl)
theorem nl_Nets_l1 (a0 : Netlist) (i1 : Nat) (x3 : Net) (y6 : List (Pin × Int)) (r : Fin' (List (Pin × Int)) (List (Pin × Int))) (h : forN (fun i5 s => nl_Nets_b1 a0 i1 x3 i5 s) (x3.Pins.length) 0 y6 = some r) : Runs PG 30 0 (cL (cR (cR (cL (cL (cR (cR nl_Nets_c0))))))) (nl_Nets_F1 a0 i1 x3 0 y6) (nl_Nets_H1 a0 i1 x3 0 y6) (finOc (nl_Nets_B1 a0 i1 x3) nl_Nets_R r) :=
  Runs.loop' (by kernel_rfl) (forN_rounds (σ := (List (Pin × Int))) (ρ := (List (Pin × Int))) (body := fun i5 s => nl_Nets_b1 a0 i1 x3 i5 s) (F := fun i5 s => nl_Nets_F1 a0 i1 x3 i5 s) (H := fun i5 s => nl_Nets_H1 a0 i1 x3 i5 s) (B := nl_Nets_B1 a0 i1 x3) (R := nl_Nets_R) (M := x3.Pins.length) (fun _ => rfl) (fun _ => rfl) (fun s => nl_Nets_b1_e a0 i1 x3 s) (fun i s o hi h => nl_Nets_b1_r a0 i1 x3 i s o hi h) _ 0 _ r (Nat.zero_add _) h)
noncomputable def nl_Nets_F0 (a0 : Netlist) (i1 : Nat) (y2 : List (Pin × Int)) : Fr := [(3, .t (.v (.rt 1))), (10, lA 3 (List.map e_Net a0.Nets)), (11, iA (a0.Nets.length : Int)), (12, iA (i1 : Int))]
noncomputable def nl_Nets_H0 (a0 : Netlist) (i1 : Nat) (y2 : List (Pin × Int)) : Hp := [(1, .map (keys PG 28) (encM kv_Pin dv_i64 y2))]
noncomputable def nl_Nets_B0 (a0 : Netlist) (s : (List (Pin × Int))) : Oc := .ex 0 [(3, .t (.v (.rt 1)))] [(1, .map (keys PG 28) (encM kv_Pin dv_i64 s))]
noncomputable def nl_Nets_b0 (a0 : Netlist) (i1 : Nat) (y2 : List (Pin × Int)) : Option (Stp (List (Pin × Int)) (List (Pin × Int))) :=
 bnd (atI a0.Nets (i1 : Int)) fun x3 =>
 aft1 (forN (fun i5 s => nl_Nets_b1 a0 i1 x3 i5 s) (x3.Pins.length) 0 y2) (fun u9 =>
 some (.go u9))
 (fun r11 =>
 some (.ret r11))
theorem nl_Nets_b0_r (a0 : Netlist) (i1 : Nat) (y2 : List (Pin × Int)) (o : Stp (List (Pin × Int)) (List (Pin × Int))) (hi : i1 < a0.Nets.length) (h : nl_Nets_b0 a0 i1 y2 = some o) :
    Runs PG 30 0 nl_Nets_c0 (nl_Nets_F0 a0 i1 y2) (nl_Nets_H0 a0 i1 y2) (stpOc (fun s' => .nor (nl_Nets_F0 a0 (i1 + 1) s') (nl_Nets_H0 a0 (i1 + 1) s')) (nl_Nets_B0 a0) nl_Nets_R o) := by
  unfold nl_Nets_b0 at h
  refine Runs.len (s := 10) (sz := 3) (xs := List.map e_Net a0.Nets) (by kernel_rfl) fun hl => ?_
  have hM : a0.Nets.length ≤ lim := len_of hl
  obtain ⟨x3, h4, h⟩ := bnd_e h
  rcases aft1_e h with ⟨u9, h10, h⟩ | ⟨r11, h10, h⟩
  · have h := Option.some.inj h
    subst h
    exact Runs.path XTok PGmix [.r [], .b true, .r [.el (e_Net x3), .id 2], .r [.eq 19 (iA (x3.Pins.length : Int))], .s (nl_Nets_F1 a0 i1 x3 0 y2) (nl_Nets_H1 a0 i1 x3 0 y2) [] (nl_Nets_B1 a0 i1 x3 u9), .r [.eq 28 (iA ((i1 + 1 : Nat) : Int))]] [] (an (lt_true hi) (an (idx_ok e_Net h4) (an (leni_eq e_Pin x3.Pins) (an (nl_Nets_l1 a0 i1 x3 y2 (.fin u9) h10) (wrap_eq hi hM))))) (by kernel_rfl)
  · have h := Option.some.inj h
    subst h
    exact Runs.path XTok PGmix [.r [], .b true, .r [.el (e_Net x3), .id 2], .r [.eq 19 (iA (x3.Pins.length : Int))], .s (nl_Nets_F1 a0 i1 x3 0 y2) (nl_Nets_H1 a0 i1 x3 0 y2) [] (nl_Nets_R r11)] [] (an (lt_true hi) (an (idx_ok e_Net h4) (an (leni_eq e_Pin x3.Pins) (nl_Nets_l1 a0 i1 x3 y2 (.ret r11) h10)))) (by kernel_rfl)
theorem nl_Nets_b0_e (a0 : Netlist) (y2 : List (Pin × Int)) : Runs PG 30 0 nl_Nets_c0 (nl_Nets_F0 a0 (a0.Nets.length) y2) (nl_Nets_H0 a0 (a0.Nets.length) y2) (nl_Nets_B0 a0 y2) := by
  exact Runs.path XTok PGmix [.r [], .b false] [] (lt_false (a0.Nets.length)) (by kernel_rfl)
theorem nl_Nets_l0 (a0 : Netlist) (y2 : List (Pin × Int)) (r : Fin' (List (Pin × Int)) (List (Pin × Int))) (h : forN (fun i1 s => nl_Nets_b0 a0 i1 s) (a0.Nets.length) 0 y2 = some r) : Runs PG 30 0 (cL (cR (cL (cR (cR nl_Nets_c))))) (nl_Nets_F0 a0 0 y2) (nl_Nets_H0 a0 0 y2) (finOc (nl_Nets_B0 a0) nl_Nets_R r) :=
  Runs.loop' (by kernel_rfl) (forN_rounds (σ := (List (Pin × Int))) (ρ := (List (Pin × Int))) (body := fun i1 s => nl_Nets_b0 a0 i1 s) (F := fun i1 s => nl_Nets_F0 a0 i1 s) (H := fun i1 s => nl_Nets_H0 a0 i1 s) (B := nl_Nets_B0 a0) (R := nl_Nets_R) (M := a0.Nets.length) (fun _ => rfl) (fun _ => rfl) (fun s => nl_Nets_b0_e a0 s) (fun i s o hi h => nl_Nets_b0_r a0 i s o hi h) _ 0 _ r (Nat.zero_add _) h)
noncomputable def nl_Nets (a0 : Netlist) : Option ((List (Pin × Int))) :=
 aft1 (forN (fun i1 s => nl_Nets_b0 a0 i1 s) (a0.Nets.length) 0 []) (fun u12 =>
 some u12)
 (fun r14 =>
 some r14)
theorem nl_Nets_ok (a0 : Netlist) (r : (List (Pin × Int))) (h : nl_Nets a0 = some r) : Spec PG 44 [gT (e_Netlist a0)] [] (.t (.v (.rt 0))) [(0, .map (keys PG 28) (encM kv_Pin dv_i64 r))] := by
  unfold nl_Nets at h
  rcases aft1_e h with ⟨u12, h13, h⟩ | ⟨r14, h13, h⟩
  · have h := Option.some.inj h
    subst h
    exact Spec.path XTok PGmix nl_Nets_fn 0 [.r [.id 0], .r [.id 1], .r [.eq 11 (iA (a0.Nets.length : Int))], .s (nl_Nets_F0 a0 0 []) (nl_Nets_H0 a0 0 []) [] (nl_Nets_B0 a0 u12), .r [], .w [(2, .t (.v (.rt 0)))] [(0, .map (keys PG 28) (encM kv_Pin dv_i64 u12))] [(0, 1)]] (an (leni_eq e_Net a0.Nets) (nl_Nets_l0 a0 [] (.fin u12) h13)) (by kernel_rfl)
  · have h := Option.some.inj h
    subst h
    exact Spec.path XTok PGmix nl_Nets_fn 0 [.r [.id 0], .r [.id 1], .r [.eq 11 (iA (a0.Nets.length : Int))], .s (nl_Nets_F0 a0 0 []) (nl_Nets_H0 a0 0 []) [] (nl_Nets_R r14)] (an (leni_eq e_Net a0.Nets) (nl_Nets_l0 a0 [] (.ret r14) h13)) (by kernel_rfl)

noncomputable def nl_pinsOf_c : Code := (Go.Proofs.Tryd.f74.body).getD .skip
theorem nl_pinsOf_fn : FnOk PG 74 nl_pinsOf_c 31 [.tmp 4] := ⟨⟨Go.Proofs.Tryd.f74, by kernel_rfl, by kernel_rfl, by kernel_rfl, by kernel_rfl, by kernel_rfl⟩⟩
noncomputable def nl_pinsOf_c0 : Code := cL (cL (cR (cL (cR (cR nl_pinsOf_c)))))
noncomputable def nl_pinsOf_R (r : List Pin) : Oc := .ret [(4, lA 2 (List.map e_Pin r))] []
noncomputable def nl_pinsOf_F0 (a1 : Part) (x3 : PartType) (i5 : Nat) (y6 : List Pin) : Fr := [(3, .t (.v (.ptr 0 0))), (5, .t (.v (.rt 1))), (15, lA 3 (List.map e_PinType x3.Pins)), (16, iA (x3.Pins.length : Int)), (17, iA (i5 : Int))]
noncomputable def nl_pinsOf_H0 (a1 : Part) (x3 : PartType) (i5 : Nat) (y6 : List Pin) : Hp := [(0, .cells 73 [.c (sC a1.Name), .c (sC a1.Type_)]), (1, .row 28 2 (List.map e_Pin y6))]
noncomputable def nl_pinsOf_B0 (a1 : Part) (x3 : PartType) (s : List Pin) : Oc := .ex 0 [(5, .t (.v (.rt 1)))] [(1, .row 28 2 (List.map e_Pin s))]
noncomputable def nl_pinsOf_b0 (a1 : Part) (x3 : PartType) (i5 : Nat) (y6 : List Pin) : Option (Stp (List Pin) (List Pin)) :=
 bnd (atI x3.Pins (i5 : Int)) fun x7 =>
 grd (y6.length + [(⟨a1.Name, x7.Name⟩ : Pin)].length ≤ lim) <|
 some (.go (y6 ++ [(⟨a1.Name, x7.Name⟩ : Pin)]))
theorem nl_pinsOf_b0_r (a1 : Part) (x3 : PartType) (i5 : Nat) (y6 : List Pin) (o : Stp (List Pin) (List Pin)) (hi : i5 < x3.Pins.length) (h : nl_pinsOf_b0 a1 x3 i5 y6 = some o) :
    Runs PG 31 0 nl_pinsOf_c0 (nl_pinsOf_F0 a1 x3 i5 y6) (nl_pinsOf_H0 a1 x3 i5 y6) (stpOc (fun s' => .nor (nl_pinsOf_F0 a1 x3 (i5 + 1) s') (nl_pinsOf_H0 a1 x3 (i5 + 1) s')) (nl_pinsOf_B0 a1 x3) nl_pinsOf_R o) := by
  unfold nl_pinsOf_b0 at h
  refine Runs.len (s := 15) (sz := 3) (xs := List.map e_PinType x3.Pins) (by kernel_rfl) fun hl => ?_
  have hM : x3.Pins.length ≤ lim := len_of hl
  obtain ⟨x7, h8, h⟩ := bnd_e h
  obtain ⟨h9, h⟩ := grd_e h
  have h := Option.some.inj h
  subst h
  exact Runs.path XTok PGmix [.r [], .b true, .r [.el (e_PinType x7), .id 2], .r [.id 3, .row (List.map e_Pin [(⟨a1.Name, x7.Name⟩ : Pin)]), .id 4, .row (List.map e_Pin (y6 ++ [(⟨a1.Name, x7.Name⟩ : Pin)]))], .r [.eq 29 (iA ((i5 + 1 : Nat) : Int))]] [(1, 4)] (an (lt_true hi) (an (idx_ok e_PinType h8) (an (Eq.refl (List.flatten (List.map e_Pin [(⟨a1.Name, x7.Name⟩ : Pin)]))) (an (app_ok e_Pin h9) (wrap_eq hi hM))))) (by kernel_rfl)
theorem nl_pinsOf_b0_e (a1 : Part) (x3 : PartType) (y6 : List Pin) : Runs PG 31 0 nl_pinsOf_c0 (nl_pinsOf_F0 a1 x3 (x3.Pins.length) y6) (nl_pinsOf_H0 a1 x3 (x3.Pins.length) y6) (nl_pinsOf_B0 a1 x3 y6) := by
  exact Runs.path XTok PGmix [.r [], .b false] [] (lt_false (x3.Pins.length)) (by kernel_rfl)
theorem nl_pinsOf_l0 (a1 : Part) (x3 : PartType) (y6 : List Pin) (r : Fin' (List Pin) (List Pin)) (h : forN (fun i5 s => nl_pinsOf_b0 a1 x3 i5 s) (x3.Pins.length) 0 y6 = some r) : Runs PG 31 0 (cL (cR (cL (cR (cR nl_pinsOf_c))))) (nl_pinsOf_F0 a1 x3 0 y6) (nl_pinsOf_H0 a1 x3 0 y6) (finOc (nl_pinsOf_B0 a1 x3) nl_pinsOf_R r) :=
  Runs.loop' (by kernel_rfl) (forN_rounds (σ := (List Pin)) (ρ := (List Pin)) (body := fun i5 s => nl_pinsOf_b0 a1 x3 i5 s) (F := fun i5 s => nl_pinsOf_F0 a1 x3 i5 s) (H := fun i5 s => nl_pinsOf_H0 a1 x3 i5 s) (B := nl_pinsOf_B0 a1 x3) (R := nl_pinsOf_R) (M := x3.Pins.length) (fun _ => rfl) (fun _ => rfl) (fun s => nl_pinsOf_b0_e a1 x3 s) (fun i s o hi h => nl_pinsOf_b0_r a1 x3 i s o hi h) _ 0 _ r (Nat.zero_add _) h)
noncomputable def nl_pinsOf (a0 : List PartType) (a1 : Part) : Option (List Pin) :=
 bnd (nl_TypeAt a0 a1.Type_) fun r1 =>
 bnd (atI a0 r1) fun x3 =>
 aft1 (forN (fun i5 s => nl_pinsOf_b0 a1 x3 i5 s) (x3.Pins.length) 0 []) (fun u10 =>
 some u10)
 (fun r12 =>
 some r12)
theorem nl_pinsOf_ok (a0 : List PartType) (a1 : Part) (r : List Pin) (h : nl_pinsOf a0 a1 = some r) : Spec PG 74 [lT 2 (List.map e_PartType a0), gT (e_Part a1)] [] (lA 2 (List.map e_Pin r)) [] := by
  unfold nl_pinsOf at h
  obtain ⟨r1, h2, h⟩ := bnd_e h
  obtain ⟨x3, h4, h⟩ := bnd_e h
  rcases aft1_e h with ⟨u10, h11, h⟩ | ⟨r12, h11, h⟩
  · have h := Option.some.inj h
    subst h
    exact Spec.path XTok PGmix nl_pinsOf_fn 0 [.r [.id 0, .nl 2], .r [.mk 1 28 2], .r [.val (iA r1), .el (e_PartType x3), .eq 16 (iA (x3.Pins.length : Int))], .s (nl_pinsOf_F0 a1 x3 0 []) (nl_pinsOf_H0 a1 x3 0 []) [] (nl_pinsOf_B0 a1 x3 u10), .r [], .f 1] (an (nl_TypeAt_ok a0 a1.Type_ r1 h2) (an (idx_ok e_PartType h4) (an (leni_eq e_PinType x3.Pins) (nl_pinsOf_l0 a1 x3 [] (.fin u10) h11)))) (by kernel_rfl)
  · have h := Option.some.inj h
    subst h
    exact Spec.path XTok PGmix nl_pinsOf_fn 0 [.r [.id 0, .nl 2], .r [.mk 1 28 2], .r [.val (iA r1), .el (e_PartType x3), .eq 16 (iA (x3.Pins.length : Int))], .s (nl_pinsOf_F0 a1 x3 0 []) (nl_pinsOf_H0 a1 x3 0 []) [] (nl_pinsOf_R r12)] (an (nl_TypeAt_ok a0 a1.Type_ r1 h2) (an (idx_ok e_PartType h4) (an (leni_eq e_PinType x3.Pins) (nl_pinsOf_l0 a1 x3 [] (.ret r12) h11)))) (by kernel_rfl)

noncomputable def nl_LooseOf_c : Code := (Go.Proofs.Tryd.f54.body).getD .skip
theorem nl_LooseOf_fn : FnOk PG 54 nl_LooseOf_c 45 [.tmp 4] := ⟨⟨Go.Proofs.Tryd.f54, by kernel_rfl, by kernel_rfl, by kernel_rfl, by kernel_rfl, by kernel_rfl⟩⟩
noncomputable def nl_LooseOf_c0 : Code := cL (cL (cR (cL (cR (cR (cR nl_LooseOf_c))))))
noncomputable def nl_LooseOf_R (r : List Pin) : Oc := .ret [(4, lA 2 (List.map e_Pin r))] []
noncomputable def nl_LooseOf_c1 : Code := cL (cL (cR (cR (cL (cL (cR (cR nl_LooseOf_c0)))))))
noncomputable def nl_LooseOf_F1 (a0 : List PartType) (a1 : Netlist) (r1 : (List (Pin × Int))) (i3 : Nat) (r7 : List Pin) (i9 : Nat) (y10 : List Pin) : Fr := [(0, lA 2 (List.map e_PartType a0)), (5, .t (.v (.rt 1))), (6, .t (.v (.rt 2))), (16, lA 2 (List.map e_Part a1.Parts)), (17, iA (a1.Parts.length : Int)), (18, iA (i3 : Int)), (24, lA 2 (List.map e_Pin r7)), (25, iA (r7.length : Int)), (26, iA (i9 : Int))]
noncomputable def nl_LooseOf_H1 (a0 : List PartType) (a1 : Netlist) (r1 : (List (Pin × Int))) (i3 : Nat) (r7 : List Pin) (i9 : Nat) (y10 : List Pin) : Hp := [(1, .map (keys PG 28) (encM kv_Pin dv_i64 r1)), (2, .row 28 2 (List.map e_Pin y10))]
noncomputable def nl_LooseOf_B1 (a0 : List PartType) (a1 : Netlist) (r1 : (List (Pin × Int))) (i3 : Nat) (r7 : List Pin) (s : List Pin) : Oc := .ex 2 [(0, lA 2 (List.map e_PartType a0)), (5, .t (.v (.rt 1))), (6, .t (.v (.rt 2))), (16, lA 2 (List.map e_Part a1.Parts)), (17, iA (a1.Parts.length : Int)), (18, iA (i3 : Int))] [(1, .map (keys PG 28) (encM kv_Pin dv_i64 r1)), (2, .row 28 2 (List.map e_Pin s))]
noncomputable def nl_LooseOf_b1 (a0 : List PartType) (a1 : Netlist) (r1 : (List (Pin × Int))) (i3 : Nat) (r7 : List Pin) (i9 : Nat) (y10 : List Pin) : Option (Stp (List Pin) (List Pin)) :=
 bnd (atI r7 (i9 : Int)) fun x11 =>
 bnd1 (opt (tlook r1 x11) (fun v16 =>
 some true) (some false)) fun v13 =>
 bnd1 (cnd (!v13) (grd (y10.length + [x11].length ≤ lim) <|
 some (y10 ++ [x11])) (some y10)) fun v19 =>
 some (.go v19)
theorem nl_LooseOf_b1_r (a0 : List PartType) (a1 : Netlist) (r1 : (List (Pin × Int))) (i3 : Nat) (r7 : List Pin) (i9 : Nat) (y10 : List Pin) (o : Stp (List Pin) (List Pin)) (hi : i9 < r7.length) (h : nl_LooseOf_b1 a0 a1 r1 i3 r7 i9 y10 = some o) :
    Runs PG 45 0 nl_LooseOf_c1 (nl_LooseOf_F1 a0 a1 r1 i3 r7 i9 y10) (nl_LooseOf_H1 a0 a1 r1 i3 r7 i9 y10) (stpOc (fun s' => .nor (nl_LooseOf_F1 a0 a1 r1 i3 r7 (i9 + 1) s') (nl_LooseOf_H1 a0 a1 r1 i3 r7 (i9 + 1) s')) (nl_LooseOf_B1 a0 a1 r1 i3 r7) nl_LooseOf_R o) := by
  unfold nl_LooseOf_b1 at h
  refine Runs.len (s := 24) (sz := 2) (xs := List.map e_Pin r7) (by kernel_rfl) fun hl => ?_
  have hM : r7.length ≤ lim := len_of hl
  obtain ⟨x11, h12, h⟩ := bnd_e h
  obtain ⟨v13, h14, h⟩ := bnd1_e h
  let q18_f : Fr := [(0, lA 2 (List.map e_PartType a0)), (5, .t (.v (.rt 1))), (6, .t (.v (.rt 2))), (10, .t (.v (.ptr 3 0))), (16, lA 2 (List.map e_Part a1.Parts)), (17, iA (a1.Parts.length : Int)), (18, iA (i3 : Int)), (24, lA 2 (List.map e_Pin r7)), (25, iA (r7.length : Int)), (26, iA (i9 : Int))]
  let q18_g : Hp := [(1, .map (keys PG 28) (encM kv_Pin dv_i64 r1)), (2, .row 28 2 (List.map e_Pin y10)), (3, .cells 28 [.c (sC x11.Part), .c (sC x11.Pin)])]
  let q18_f' : Fr := [(0, lA 2 (List.map e_PartType a0)), (5, .t (.v (.rt 1))), (6, .t (.v (.rt 2))), (10, .t (.v (.ptr 3 0))), (16, lA 2 (List.map e_Part a1.Parts)), (17, iA (a1.Parts.length : Int)), (18, iA (i3 : Int)), (24, lA 2 (List.map e_Pin r7)), (25, iA (r7.length : Int)), (26, iA (i9 : Int)), (12, bA v13)]
  let q18_g' : Hp := [(1, .map (keys PG 28) (encM kv_Pin dv_i64 r1)), (2, .row 28 2 (List.map e_Pin y10)), (3, .cells 28 [.c (sC x11.Part), .c (sC x11.Pin)])]
  have R15 : Runs PG 45 0 (cL (cR (cL (cL (cR (cR nl_LooseOf_c1)))))) q18_f q18_g (.nor q18_f' q18_g') := by
    rcases opt_e h14 with ⟨v16, h17, h14⟩ | ⟨h17, h14⟩
    · have h14 := Option.some.inj h14
      subst h14
      exact Runs.path XTok PGmix [.r [.look (some (dv_i64 v16))]] [] (an kd_Pin (an (Eq.refl (keys PG 28)) (an (kf_Pin x11) (tl_some dv_i64 ki_Pin h17)))) (by kernel_rfl)
    · have h14 := Option.some.inj h14
      subst h14
      exact Runs.path XTok PGmix [.r [.look (none)]] [] (an kd_Pin (an (Eq.refl (keys PG 28)) (an (kf_Pin x11) (tl_none dv_i64 ki_Pin h17)))) (by kernel_rfl)
  obtain ⟨v19, h20, h⟩ := bnd1_e h
  let q24_f : Fr := [(0, lA 2 (List.map e_PartType a0)), (5, .t (.v (.rt 1))), (6, .t (.v (.rt 2))), (10, .t (.v (.ptr 3 0))), (16, lA 2 (List.map e_Part a1.Parts)), (17, iA (a1.Parts.length : Int)), (18, iA (i3 : Int)), (24, lA 2 (List.map e_Pin r7)), (25, iA (r7.length : Int)), (26, iA (i9 : Int)), (37, bA (!v13))]
  let q24_g : Hp := [(1, .map (keys PG 28) (encM kv_Pin dv_i64 r1)), (2, .row 28 2 (List.map e_Pin y10)), (3, .cells 28 [.c (sC x11.Part), .c (sC x11.Pin)])]
  let q24_f' : Fr := [(0, lA 2 (List.map e_PartType a0)), (5, .t (.v (.rt 1))), (6, .t (.v (.rt 5))), (16, lA 2 (List.map e_Part a1.Parts)), (17, iA (a1.Parts.length : Int)), (18, iA (i3 : Int)), (24, lA 2 (List.map e_Pin r7)), (25, iA (r7.length : Int)), (26, iA (i9 : Int))]
  let q24_g' : Hp := [(1, .map (keys PG 28) (encM kv_Pin dv_i64 r1)), (5, .row 28 2 (List.map e_Pin v19))]
  have R21 : Runs PG 45 0 (cR (cR (cR (cL (cL (cR (cR nl_LooseOf_c1))))))) q24_f q24_g (.nor q24_f' q24_g') := by
    rcases cnd_e h20 with ⟨h22, h20⟩ | ⟨h22, h20⟩
    · obtain ⟨h23, h20⟩ := grd_e h20
      have h20 := Option.some.inj h20
      subst h20
      exact Runs.path XTok PGmix [.b true, .r [.id 4, .row (List.map e_Pin [x11]), .id 5, .row (List.map e_Pin (y10 ++ [x11]))]] [] (an h22 (an (Eq.refl (List.flatten (List.map e_Pin [x11]))) (app_ok e_Pin h23))) (by kernel_rfl)
    · have h20 := Option.some.inj h20
      subst h20
      exact Runs.path XTok PGmix [.b false] [(5, 2)] h22 (by kernel_rfl)
  have h := Option.some.inj h
  subst h
  exact Runs.path XTok PGmix [.r [], .b true, .r [.el (e_Pin x11), .id 3], .s q18_f q18_g [] (.nor q18_f' q18_g'), .r [], .s q24_f q24_g [] (.nor q24_f' q24_g'), .r [.eq 42 (iA ((i9 + 1 : Nat) : Int))]] [(2, 5)] (an (lt_true hi) (an (idx_ok e_Pin h12) (an R15 (an R21 (wrap_eq hi hM))))) (by kernel_rfl)
theorem nl_LooseOf_b1_e (a0 : List PartType) (a1 : Netlist) (r1 : (List (Pin × Int))) (i3 : Nat) (r7 : List Pin) (y10 : List Pin) : Runs PG 45 0 nl_LooseOf_c1 (nl_LooseOf_F1 a0 a1 r1 i3 r7 (r7.length) y10) (nl_LooseOf_H1 a0 a1 r1 i3 r7 (r7.length) y10) (nl_LooseOf_B1 a0 a1 r1 i3 r7 y10) := by
  exact Runs.path XTok PGmix [.r [], .b false] [] (lt_false (r7.length)) (by kernel_rfl)
theorem nl_LooseOf_l1 (a0 : List PartType) (a1 : Netlist) (r1 : (List (Pin × Int))) (i3 : Nat) (r7 : List Pin) (y10 : List Pin) (r : Fin' (List Pin) (List Pin)) (h : forN (fun i9 s => nl_LooseOf_b1 a0 a1 r1 i3 r7 i9 s) (r7.length) 0 y10 = some r) : Runs PG 45 0 (cL (cR (cR (cL (cL (cR (cR nl_LooseOf_c0))))))) (nl_LooseOf_F1 a0 a1 r1 i3 r7 0 y10) (nl_LooseOf_H1 a0 a1 r1 i3 r7 0 y10) (finOc (nl_LooseOf_B1 a0 a1 r1 i3 r7) nl_LooseOf_R r) :=
  Runs.loop' (by kernel_rfl) (forN_rounds (σ := (List Pin)) (ρ := (List Pin)) (body := fun i9 s => nl_LooseOf_b1 a0 a1 r1 i3 r7 i9 s) (F := fun i9 s => nl_LooseOf_F1 a0 a1 r1 i3 r7 i9 s) (H := fun i9 s => nl_LooseOf_H1 a0 a1 r1 i3 r7 i9 s) (B := nl_LooseOf_B1 a0 a1 r1 i3 r7) (R := nl_LooseOf_R) (M := r7.length) (fun _ => rfl) (fun _ => rfl) (fun s => nl_LooseOf_b1_e a0 a1 r1 i3 r7 s) (fun i s o hi h => nl_LooseOf_b1_r a0 a1 r1 i3 r7 i s o hi h) _ 0 _ r (Nat.zero_add _) h)
noncomputable def nl_LooseOf_F0 (a0 : List PartType) (a1 : Netlist) (r1 : (List (Pin × Int))) (i3 : Nat) (y4 : List Pin) : Fr := [(0, lA 2 (List.map e_PartType a0)), (5, .t (.v (.rt 1))), (6, .t (.v (.rt 2))), (16, lA 2 (List.map e_Part a1.Parts)), (17, iA (a1.Parts.length : Int)), (18, iA (i3 : Int))]
noncomputable def nl_LooseOf_H0 (a0 : List PartType) (a1 : Netlist) (r1 : (List (Pin × Int))) (i3 : Nat) (y4 : List Pin) : Hp := [(1, .map (keys PG 28) (encM kv_Pin dv_i64 r1)), (2, .row 28 2 (List.map e_Pin y4))]
noncomputable def nl_LooseOf_B0 (a0 : List PartType) (a1 : Netlist) (r1 : (List (Pin × Int))) (s : List Pin) : Oc := .ex 0 [(6, .t (.v (.rt 2)))] [(2, .row 28 2 (List.map e_Pin s))]
noncomputable def nl_LooseOf_b0 (a0 : List PartType) (a1 : Netlist) (r1 : (List (Pin × Int))) (i3 : Nat) (y4 : List Pin) : Option (Stp (List Pin) (List Pin)) :=
 bnd (atI a1.Parts (i3 : Int)) fun x5 =>
 bnd (nl_pinsOf a0 x5) fun r7 =>
 aft1 (forN (fun i9 s => nl_LooseOf_b1 a0 a1 r1 i3 r7 i9 s) (r7.length) 0 y4) (fun u25 =>
 some (.go u25))
 (fun r27 =>
 some (.ret r27))
theorem nl_LooseOf_b0_r (a0 : List PartType) (a1 : Netlist) (r1 : (List (Pin × Int))) (i3 : Nat) (y4 : List Pin) (o : Stp (List Pin) (List Pin)) (hi : i3 < a1.Parts.length) (h : nl_LooseOf_b0 a0 a1 r1 i3 y4 = some o) :
    Runs PG 45 0 nl_LooseOf_c0 (nl_LooseOf_F0 a0 a1 r1 i3 y4) (nl_LooseOf_H0 a0 a1 r1 i3 y4) (stpOc (fun s' => .nor (nl_LooseOf_F0 a0 a1 r1 (i3 + 1) s') (nl_LooseOf_H0 a0 a1 r1 (i3 + 1) s')) (nl_LooseOf_B0 a0 a1 r1) nl_LooseOf_R o) := by
  unfold nl_LooseOf_b0 at h
  refine Runs.len (s := 16) (sz := 2) (xs := List.map e_Part a1.Parts) (by kernel_rfl) fun hl => ?_
  have hM : a1.Parts.length ≤ lim := len_of hl
  obtain ⟨x5, h6, h⟩ := bnd_e h
  obtain ⟨r7, h8, h⟩ := bnd_e h
  rcases aft1_e h with ⟨u25, h26, h⟩ | ⟨r27, h26, h⟩
  · have h := Option.some.inj h
    subst h
    exact Runs.path XTok PGmix [.r [], .b true, .r [.el (e_Part x5), .id 3], .r [.val (lA 2 (List.map e_Pin r7)), .eq 25 (iA (r7.length : Int))], .s (nl_LooseOf_F1 a0 a1 r1 i3 r7 0 y4) (nl_LooseOf_H1 a0 a1 r1 i3 r7 0 y4) [] (nl_LooseOf_B1 a0 a1 r1 i3 r7 u25), .r [.eq 43 (iA ((i3 + 1 : Nat) : Int))]] [] (an (lt_true hi) (an (idx_ok e_Part h6) (an (nl_pinsOf_ok a0 x5 r7 h8) (an (leni_eq e_Pin r7) (an (nl_LooseOf_l1 a0 a1 r1 i3 r7 y4 (.fin u25) h26) (wrap_eq hi hM)))))) (by kernel_rfl)
  · have h := Option.some.inj h
    subst h
    exact Runs.path XTok PGmix [.r [], .b true, .r [.el (e_Part x5), .id 3], .r [.val (lA 2 (List.map e_Pin r7)), .eq 25 (iA (r7.length : Int))], .s (nl_LooseOf_F1 a0 a1 r1 i3 r7 0 y4) (nl_LooseOf_H1 a0 a1 r1 i3 r7 0 y4) [] (nl_LooseOf_R r27)] [] (an (lt_true hi) (an (idx_ok e_Part h6) (an (nl_pinsOf_ok a0 x5 r7 h8) (an (leni_eq e_Pin r7) (nl_LooseOf_l1 a0 a1 r1 i3 r7 y4 (.ret r27) h26))))) (by kernel_rfl)
theorem nl_LooseOf_b0_e (a0 : List PartType) (a1 : Netlist) (r1 : (List (Pin × Int))) (y4 : List Pin) : Runs PG 45 0 nl_LooseOf_c0 (nl_LooseOf_F0 a0 a1 r1 (a1.Parts.length) y4) (nl_LooseOf_H0 a0 a1 r1 (a1.Parts.length) y4) (nl_LooseOf_B0 a0 a1 r1 y4) := by
  exact Runs.path XTok PGmix [.r [], .b false] [] (lt_false (a1.Parts.length)) (by kernel_rfl)
theorem nl_LooseOf_l0 (a0 : List PartType) (a1 : Netlist) (r1 : (List (Pin × Int))) (y4 : List Pin) (r : Fin' (List Pin) (List Pin)) (h : forN (fun i3 s => nl_LooseOf_b0 a0 a1 r1 i3 s) (a1.Parts.length) 0 y4 = some r) : Runs PG 45 0 (cL (cR (cL (cR (cR (cR nl_LooseOf_c)))))) (nl_LooseOf_F0 a0 a1 r1 0 y4) (nl_LooseOf_H0 a0 a1 r1 0 y4) (finOc (nl_LooseOf_B0 a0 a1 r1) nl_LooseOf_R r) :=
  Runs.loop' (by kernel_rfl) (forN_rounds (σ := (List Pin)) (ρ := (List Pin)) (body := fun i3 s => nl_LooseOf_b0 a0 a1 r1 i3 s) (F := fun i3 s => nl_LooseOf_F0 a0 a1 r1 i3 s) (H := fun i3 s => nl_LooseOf_H0 a0 a1 r1 i3 s) (B := nl_LooseOf_B0 a0 a1 r1) (R := nl_LooseOf_R) (M := a1.Parts.length) (fun _ => rfl) (fun _ => rfl) (fun s => nl_LooseOf_b0_e a0 a1 r1 s) (fun i s o hi h => nl_LooseOf_b0_r a0 a1 r1 i s o hi h) _ 0 _ r (Nat.zero_add _) h)
noncomputable def nl_LooseOf (a0 : List PartType) (a1 : Netlist) : Option (List Pin) :=
 bnd (nl_Nets a1) fun r1 =>
 aft1 (forN (fun i3 s => nl_LooseOf_b0 a0 a1 r1 i3 s) (a1.Parts.length) 0 []) (fun u28 =>
 some u28)
 (fun r30 =>
 some r30)
theorem nl_LooseOf_ok (a0 : List PartType) (a1 : Netlist) (r : List Pin) (h : nl_LooseOf a0 a1 = some r) : Spec PG 54 [lT 2 (List.map e_PartType a0), gT (e_Netlist a1)] [] (lA 2 (List.map e_Pin r)) [] := by
  unfold nl_LooseOf at h
  obtain ⟨r1, h2, h⟩ := bnd_e h
  rcases aft1_e h with ⟨u28, h29, h⟩ | ⟨r30, h29, h⟩
  · have h := Option.some.inj h
    subst h
    exact Spec.path XTok PGmix nl_LooseOf_fn 0 [.r [.id 0, .nl 2], .r [.call [(0, 1)] [gT (e_Netlist a1)] [] (.t (.v (.rt 0))) [(0, .map (keys PG 28) (encM kv_Pin dv_i64 r1))]], .r [.mk 2 28 2], .r [.eq 17 (iA (a1.Parts.length : Int))], .s (nl_LooseOf_F0 a0 a1 r1 0 []) (nl_LooseOf_H0 a0 a1 r1 0 []) [] (nl_LooseOf_B0 a0 a1 r1 u28), .r [], .f 2] (an (an (nl_Nets_ok a1 r1 h2) (an (Eq.refl ([gT (e_Netlist a1)] : List TV)) (Eq.refl (renH (asg [(0, 1)]) [])))) (an (leni_eq e_Part a1.Parts) (nl_LooseOf_l0 a0 a1 r1 [] (.fin u28) h29))) (by kernel_rfl)
  · have h := Option.some.inj h
    subst h
    exact Spec.path XTok PGmix nl_LooseOf_fn 0 [.r [.id 0, .nl 2], .r [.call [(0, 1)] [gT (e_Netlist a1)] [] (.t (.v (.rt 0))) [(0, .map (keys PG 28) (encM kv_Pin dv_i64 r1))]], .r [.mk 2 28 2], .r [.eq 17 (iA (a1.Parts.length : Int))], .s (nl_LooseOf_F0 a0 a1 r1 0 []) (nl_LooseOf_H0 a0 a1 r1 0 []) [] (nl_LooseOf_R r30)] (an (an (nl_Nets_ok a1 r1 h2) (an (Eq.refl ([gT (e_Netlist a1)] : List TV)) (Eq.refl (renH (asg [(0, 1)]) [])))) (an (leni_eq e_Part a1.Parts) (nl_LooseOf_l0 a0 a1 r1 [] (.ret r30) h29))) (by kernel_rfl)

noncomputable def nl_Loose_c : Code := (Go.Proofs.Tryd.f17.body).getD .skip
theorem nl_Loose_fn : FnOk PG 17 nl_Loose_c 16 [.tmp 4, .tmp 5] := ⟨⟨Go.Proofs.Tryd.f17, by kernel_rfl, by kernel_rfl, by kernel_rfl, by kernel_rfl, by kernel_rfl⟩⟩
noncomputable def nl_Loose (a0 : List PartType) (a1 : Netlist) : Option (List Pin × Int) :=
 bnd (nl_CheckList a0 a1) fun r1 =>
 cnd (r1 != 0) (some ([], r1)) (bnd (nl_LooseOf a0 a1) fun r4 =>
 some (r4, 0))
theorem nl_Loose_ok (a0 : List PartType) (a1 : Netlist) (r : List Pin × Int) (h : nl_Loose a0 a1 = some r) : Spec PG 17 [lT 2 (List.map e_PartType a0), gT (e_Netlist a1)] [] (.tup [lT 2 (List.map e_Pin r.1), iT r.2]) [] := by
  unfold nl_Loose at h
  obtain ⟨r1, h2, h⟩ := bnd_e h
  rcases cnd_e h with ⟨h3, h⟩ | ⟨h3, h⟩
  · have h := Option.some.inj h
    subst h
    exact Spec.path XTok PGmix nl_Loose_fn 0 [.r [.id 0, .nl 2], .r [.val (iA r1)], .r [], .b true, .r [.nl 2]] (an (nl_CheckList_ok a0 a1 r1 h2) h3) (by kernel_rfl)
  · obtain ⟨r4, h5, h⟩ := bnd_e h
    have h := Option.some.inj h
    subst h
    exact Spec.path XTok PGmix nl_Loose_fn 0 [.r [.id 0, .nl 2], .r [.val (iA r1)], .r [], .b false, .r [.val (lA 2 (List.map e_Pin r4))]] (an (nl_CheckList_ok a0 a1 r1 h2) (an h3 (nl_LooseOf_ok a0 a1 r4 h5))) (by kernel_rfl)

noncomputable def law_awake_c : Code := (Go.Proofs.Tryd.f20.body).getD .skip
theorem law_awake_fn : FnOk PG 20 law_awake_c 30 [.tmp 0] := ⟨⟨Go.Proofs.Tryd.f20, by kernel_rfl, by kernel_rfl, by kernel_rfl, by kernel_rfl, by kernel_rfl⟩⟩
noncomputable def law_awake : Option Bool :=
 bnd (nl_Loose ([(⟨(⟨#[114]⟩ : ByteArray), [(⟨(⟨#[49]⟩ : ByteArray), 6, 0⟩ : PinType)]⟩ : PartType)]) (⟨[(⟨(⟨#[97]⟩ : ByteArray), (⟨#[114]⟩ : ByteArray)⟩ : Part)], []⟩ : Netlist)) fun r1 =>
 bnd1 (cnd (r1.2 == 0) (cnd ((r1.1.length : Int) == 1) (bnd (atI r1.1 0) fun x8 =>
 some (sEq x8.Part (⟨#[97]⟩ : ByteArray) && (sEq x8.Pin (⟨#[49]⟩ : ByteArray) && true))) (some false)) (some false)) fun v3 =>
 some v3
theorem law_awake_ok (r : Bool) (h : law_awake = some r) : Spec PG 20 [] [] (bA r) [] := by
  unfold law_awake at h
  obtain ⟨r1, h2, h⟩ := bnd_e h
  obtain ⟨v3, h4, h⟩ := bnd1_e h
  let q10_f : Fr := [(2, lA 2 (List.map e_Pin r1.1)), (3, iA r1.2)]
  let q10_g : Hp := []
  let q10_f' : Fr := [(0, bA v3)]
  let q10_g' : Hp := []
  have R5 : Runs PG 30 0 (cL (cR (cR (cR law_awake_c)))) q10_f q10_g (.nor q10_f' q10_g') := by
    rcases cnd_e h4 with ⟨h6, h4⟩ | ⟨h6, h4⟩
    · rcases cnd_e h4 with ⟨h7, h4⟩ | ⟨h7, h4⟩
      · obtain ⟨x8, h9, h4⟩ := bnd_e h4
        have h4 := Option.some.inj h4
        subst h4
        exact Runs.path XTok PGmix [.r [.b true, .b true, .eq 20 (iA (r1.1.length : Int)), .b true, .b true, .b true, .b true, .el (e_Pin x8), .b true, .b true, .b true, .b true]] [] (an h6 (an h6 (an (leni_eq e_Pin r1.1) (an h6 (an h6 (an h7 (an h7 (an (idx_ok e_Pin h9) (an h7 (an h7 (an h7 h7))))))))))) (by kernel_rfl)
      · have h4 := Option.some.inj h4
        subst h4
        exact Runs.path XTok PGmix [.r [.b true, .b true, .eq 20 (iA (r1.1.length : Int)), .b true, .b true, .b false, .b false, .b false, .b false, .b false, .b false]] [] (an h6 (an h6 (an (leni_eq e_Pin r1.1) (an h6 (an h6 (an h7 (an h7 (an h7 (an h7 (an h7 h7)))))))))) (by kernel_rfl)
    · have h4 := Option.some.inj h4
      subst h4
      exact Runs.path XTok PGmix [.r [.b false, .b false, .b false, .b false, .b false, .b false, .b false, .b false, .b false, .b false]] [] (an h6 (an h6 (an h6 (an h6 (an (Eq.refl false) (an (Eq.refl false) (an (Eq.refl false) (an (Eq.refl false) (an (Eq.refl false) (Eq.refl false)))))))))) (by kernel_rfl)
  have h := Option.some.inj h
  subst h
  exact Spec.path XTok PGmix law_awake_fn 0 [.r [], .r [.id 0, .row (List.map e_PinType [(⟨(⟨#[49]⟩ : ByteArray), 6, 0⟩ : PinType)]), .fz 0, .id 0, .row (List.map e_PartType [(⟨(⟨#[114]⟩ : ByteArray), [(⟨(⟨#[49]⟩ : ByteArray), 6, 0⟩ : PinType)]⟩ : PartType)])], .r [.id 1, .row (List.map e_Part [(⟨(⟨#[97]⟩ : ByteArray), (⟨#[114]⟩ : ByteArray)⟩ : Part)]), .fz 0, .fz 1, .val (.tup [lT 2 (List.map e_Pin r1.1), iT r1.2])], .s q10_f q10_g [] (.nor q10_f' q10_g')] (an (Eq.refl (List.flatten (List.map e_PinType [(⟨(⟨#[49]⟩ : ByteArray), 6, 0⟩ : PinType)]))) (an (Eq.refl (List.flatten (List.map e_PartType [(⟨(⟨#[114]⟩ : ByteArray), [(⟨(⟨#[49]⟩ : ByteArray), 6, 0⟩ : PinType)]⟩ : PartType)]))) (an (Eq.refl (List.flatten (List.map e_Part [(⟨(⟨#[97]⟩ : ByteArray), (⟨#[114]⟩ : ByteArray)⟩ : Part)]))) (an (Spec.fit (nl_Loose_ok ([(⟨(⟨#[114]⟩ : ByteArray), [(⟨(⟨#[49]⟩ : ByteArray), 6, 0⟩ : PinType)]⟩ : PartType)]) (⟨[(⟨(⟨#[97]⟩ : ByteArray), (⟨#[114]⟩ : ByteArray)⟩ : Part)], []⟩ : Netlist) r1 h2) (.cons (FitT.v (FitC.same _)) (.cons (FitT.agg (.cons (FitC.same _) (.cons (FitC.nil 3) .nil))) .nil))) R5)))) (by kernel_rfl)

noncomputable def nl_Findings_1_c : Code := (Go.Proofs.Tryd.f56.body).getD .skip
theorem nl_Findings_1_fn : FnOk PG 56 nl_Findings_1_c 30 [.tmp 4] := ⟨⟨Go.Proofs.Tryd.f56, by kernel_rfl, by kernel_rfl, by kernel_rfl, by kernel_rfl, by kernel_rfl⟩⟩
noncomputable def nl_Findings_1 (a0 : Pin) (a1 : List PartType) (a2 : Netlist) : Option Int :=
 bnd (nl_partAt a2.Parts a0.Part) fun r1 =>
 bnd (atI a2.Parts r1) fun x3 =>
 bnd (nl_TypeAt a1 x3.Type_) fun r5 =>
 bnd (atI a1 r5) fun x7 =>
 bnd (nl_PinAt x7 a0.Pin) fun r9 =>
 bnd (atI x7.Pins r9) fun x11 =>
 some x11.Kind
theorem nl_Findings_1_ok (a0 : Pin) (a1 : List PartType) (a2 : Netlist) (r : Int) (h : nl_Findings_1 a0 a1 a2 = some r) : Spec PG 56 [gT (e_Pin a0), .v (.c (.ptr [.sl 2 (List.map e_PartType a1)])), .v (.c (.ptr (e_Netlist a2)))] [] (iA r) [] := by
  unfold nl_Findings_1 at h
  obtain ⟨r1, h2, h⟩ := bnd_e h
  obtain ⟨x3, h4, h⟩ := bnd_e h
  obtain ⟨r5, h6, h⟩ := bnd_e h
  obtain ⟨x7, h8, h⟩ := bnd_e h
  obtain ⟨r9, h10, h⟩ := bnd_e h
  obtain ⟨x11, h12, h⟩ := bnd_e h
  have h := Option.some.inj h
  subst h
  exact Spec.path XTok PGmix nl_Findings_1_fn 0 [.r [.id 0], .d [([], []), ([], []), ([], []), ([], []), ([], []), ([], []), ([], []), ([0], []), ([], [.val (iA r1)]), ([], [.el (e_Part x3)]), ([], []), ([], []), ([], [.val (iA r5)]), ([], [.el (e_PartType x7)]), ([], []), ([], [.id 1]), ([1], [])], .d [([], []), ([1], []), ([1], []), ([], []), ([0], []), ([], [.val (iA r9)]), ([], [.el (e_PinType x11)]), ([], []), ([], []), ([], [])]] (an (nl_partAt_ok a2.Parts a0.Part r1 h2) (an (idx_ok e_Part h4) (an (nl_TypeAt_ok a1 x3.Type_ r5 h6) (an (idx_ok e_PartType h8) (an (nl_PinAt_ok x7 a0.Pin r9 h10) (idx_ok e_PinType h12)))))) (by kernel_rfl)

noncomputable def nl_Findings_2_c : Code := (Go.Proofs.Tryd.f60.body).getD .skip
theorem nl_Findings_2_fn : FnOk PG 60 nl_Findings_2_c 8 [.tmp 3] := ⟨⟨Go.Proofs.Tryd.f60, by kernel_rfl, by kernel_rfl, by kernel_rfl, by kernel_rfl, by kernel_rfl⟩⟩
noncomputable def nl_Findings_2 (a0 : Int) (a1 : List (Int × List Pin)) : Option Int :=
 bnd1 (grd (r64 a0) <|
 opt (tlook a1 a0) (fun v4 =>
 some (v4.length : Int)) (some 0)) fun v1 =>
 some v1
theorem nl_Findings_2_ok (a0 : Int) (a1 : List (Int × List Pin)) (r : Int) (h : nl_Findings_2 a0 a1 = some r) : Spec PG 60 [iT a0, .v (.ptr 0 0)] [(0, .cells 98 [.rt 1]), (1, .map (keys PG 3) (encM kv_i64 dv_sl_Pin a1))] (iA r) [(0, .cells 98 [.rt 1]), (1, .map (keys PG 3) (encM kv_i64 dv_sl_Pin a1))] := by
  unfold nl_Findings_2 at h
  obtain ⟨v1, h2, h⟩ := bnd1_e h
  let q7_f : Fr := [(0, iA a0), (1, .t (.v (.ptr 0 0)))]
  let q7_g : Hp := [(0, .cells 98 [.rt 1]), (1, .map (keys PG 3) (encM kv_i64 dv_sl_Pin a1))]
  let q7_f' : Fr := [(3, iA v1)]
  let q7_g' : Hp := [(0, .cells 98 [.rt 1]), (1, .map (keys PG 3) (encM kv_i64 dv_sl_Pin a1))]
  have R3 : Runs PG 8 2 (cL (cR nl_Findings_2_c)) q7_f q7_g (.nor q7_f' q7_g') := by
    obtain ⟨h6, h2⟩ := grd_e h2
    rcases opt_e h2 with ⟨v4, h5, h2⟩ | ⟨h5, h2⟩
    · have h2 := Option.some.inj h2
      subst h2
      exact Runs.path XTok PGmix [.r [.look (some (dv_sl_Pin v4)), .eq 7 (iA (v4.length : Int))]] [] (an (an kd_i64 (an (Eq.refl (keys PG 3)) (an (kf_i64 a0 h6) (tl_some dv_sl_Pin ki_i64 h5)))) (leni_eq e_Pin v4)) (by kernel_rfl)
    · have h2 := Option.some.inj h2
      subst h2
      exact Runs.path XTok PGmix [.r [.look (none)]] [] (an kd_i64 (an (Eq.refl (keys PG 3)) (an (kf_i64 a0 h6) (tl_none dv_sl_Pin ki_i64 h5)))) (by kernel_rfl)
  have h := Option.some.inj h
  subst h
  exact Spec.path XTok PGmix nl_Findings_2_fn 2 [.r [], .s q7_f q7_g [] (.nor q7_f' q7_g')] R3 (by kernel_rfl)

noncomputable def slices_Clone_api_Pin_api_Pin_c : Code := (Go.Proofs.Tryd.f62.body).getD .skip
theorem slices_Clone_api_Pin_api_Pin_fn : FnOk PG 62 slices_Clone_api_Pin_api_Pin_c 8 [.tmp 2] := ⟨⟨Go.Proofs.Tryd.f62, by kernel_rfl, by kernel_rfl, by kernel_rfl, by kernel_rfl, by kernel_rfl⟩⟩
noncomputable def slices_Clone_api_Pin_api_Pin (a0 : List Pin) : Option (List Pin) :=
 grd (([] : List Pin).length + a0.length ≤ lim) <|
 some (([] : List Pin) ++ a0)
theorem slices_Clone_api_Pin_api_Pin_ok (a0 : List Pin) (r : List Pin) (h : slices_Clone_api_Pin_api_Pin a0 = some r) : Spec PG 62 [lT 2 (List.map e_Pin a0)] [] (lA 2 (List.map e_Pin r)) [] := by
  refine Spec.nilcase (pre := []) (fun hx => ?_) ?_
  · have hx := List.map_eq_nil_iff.1 hx
    subst hx
    have h : some [] = some r := h
    have h := Option.some.inj h
    subst h
    exact Spec.path XTok PGmix slices_Clone_api_Pin_api_Pin_fn 0 [.r [.nl 2], .r [], .b true, .r [.nl 2]] (Eq.refl true) (by kernel_rfl)
  · unfold slices_Clone_api_Pin_api_Pin at h
    obtain ⟨h1, h⟩ := grd_e h
    have h := Option.some.inj h
    subst h
    exact Spec.path XTok PGmix slices_Clone_api_Pin_api_Pin_fn 0 [.r [.nl 2], .r [], .b false, .r [.id 0, .row (List.map e_Pin ([] : List Pin)), .id 1, .row (List.map e_Pin (([] : List Pin) ++ a0))], .f 1] (an (Eq.refl false) (an (Eq.refl (List.flatten (List.map e_Pin ([] : List Pin)))) (app_ok e_Pin h1))) (by kernel_rfl)

noncomputable def nl_Findings_3_c : Code := (Go.Proofs.Tryd.f61.body).getD .skip
theorem nl_Findings_3_fn : FnOk PG 61 nl_Findings_3_c 18 [] := ⟨⟨Go.Proofs.Tryd.f61, by kernel_rfl, by kernel_rfl, by kernel_rfl, by kernel_rfl, by kernel_rfl⟩⟩
noncomputable def nl_Findings_3 (a0 : Bool) (a1 : Int) (a2 : List Pin) (a3 : List Finding) (a4 : Net) : Option (List Finding) :=
 bnd1 (cnd a0 (bnd (slices_Clone_api_Pin_api_Pin a2) fun r5 =>
 grd (a3.length + [(⟨a1, a4.Name, r5⟩ : Finding)].length ≤ lim) <|
 some (a3 ++ [(⟨a1, a4.Name, r5⟩ : Finding)])) (some a3)) fun v1 =>
 some v1
theorem nl_Findings_3_ok (a0 : Bool) (a1 : Int) (a2 : List Pin) (a3 : List Finding) (a4 : Net) (r : List Finding) (h : nl_Findings_3 a0 a1 a2 a3 a4 = some r) : Spec PG 61 [bT a0, iT a1, lT 2 (List.map e_Pin a2), .v (.ptr 0 0), .v (.c (.ptr (e_Net a4)))] [(0, .cells 39 [.rt 1]), (1, .row 102 3 (List.map e_Finding a3))] (.tup []) [(0, .cells 39 [.rt 2]), (2, .row 102 3 (List.map e_Finding r))] := by
  unfold nl_Findings_3 at h
  obtain ⟨v1, h2, h⟩ := bnd1_e h
  let q8_f : Fr := [(1, iA a1), (2, lA 2 (List.map e_Pin a2)), (3, .t (.v (.ptr 0 0))), (4, .t (.v (.c (.ptr (e_Net a4))))), (8, bA a0)]
  let q8_g : Hp := [(0, .cells 39 [.rt 2]), (2, .row 102 3 (List.map e_Finding a3))]
  let q8_f' : Fr := []
  let q8_g' : Hp := [(0, .cells 39 [.rt 4]), (4, .row 102 3 (List.map e_Finding v1))]
  have R3 : Runs PG 18 2 (cR nl_Findings_3_c) q8_f q8_g (.nor q8_f' q8_g') := by
    rcases cnd_e h2 with ⟨h4, h2⟩ | ⟨h4, h2⟩
    · obtain ⟨r5, h6, h2⟩ := bnd_e h2
      obtain ⟨h7, h2⟩ := grd_e h2
      have h2 := Option.some.inj h2
      subst h2
      exact Runs.path XTok PGmix [.b true, .d [([0], []), ([], []), ([], []), ([], []), ([], []), ([], [.val (lA 2 (List.map e_Pin r5))]), ([], []), ([], [.id 3, .row (List.map e_Finding [(⟨a1, a4.Name, r5⟩ : Finding)])]), ([2, 3], [.id 4, .row (List.map e_Finding (a3 ++ [(⟨a1, a4.Name, r5⟩ : Finding)]))]), ([0], [])]] [] (an h4 (an (slices_Clone_api_Pin_api_Pin_ok a2 r5 h6) (an (Eq.refl (List.flatten (List.map e_Finding [(⟨a1, a4.Name, r5⟩ : Finding)]))) (app_ok e_Finding h7)))) (by kernel_rfl)
    · have h2 := Option.some.inj h2
      subst h2
      exact Runs.path XTok PGmix [.b false] [(4, 2)] h4 (by kernel_rfl)
  have h := Option.some.inj h
  subst h
  exact Spec.path XTok PGmix nl_Findings_3_fn 2 [.w [(0, bA a0), (1, iA a1), (2, lA 2 (List.map e_Pin a2)), (3, .t (.v (.ptr 0 0))), (4, .t (.v (.c (.ptr (e_Net a4)))))] [(0, .cells 39 [.rt 2]), (2, .row 102 3 (List.map e_Finding a3))] [(2, 1)], .r [], .s q8_f q8_g [] (.nor q8_f' q8_g'), .w [] [(2, .row 102 3 (List.map e_Finding v1)), (0, .cells 39 [.rt 2])] [(2, 4)]] R3 (by kernel_rfl)

noncomputable def nl_Findings_c : Code := (Go.Proofs.Tryd.f21.body).getD .skip
theorem nl_Findings_fn : FnOk PG 21 nl_Findings_c 159 [.tmp 4, .tmp 5] := ⟨⟨Go.Proofs.Tryd.f21, by kernel_rfl, by kernel_rfl, by kernel_rfl, by kernel_rfl, by kernel_rfl⟩⟩
noncomputable def nl_Findings_c0 : Code := cL (cL (cR (cL (cR (cR (cR (cR nl_Findings_c)))))))
noncomputable def nl_Findings_R (r : List Finding × Int) : Oc := .ret [(4, lA 3 (List.map e_Finding r.1)), (5, iA r.2)] []
noncomputable def nl_Findings_c1 : Code := cL (cL (cR (cL (cR (cR (cR (cL (cL (cR (cR nl_Findings_c0))))))))))
noncomputable def nl_Findings_F1 (a0 : List PartType) (a1 : Netlist) (i4 : Nat) (y5 : List Finding) (x6 : Net) (i8 : Nat) (y9 : List Pin) (y10 : List (Int × List Pin)) : Fr := [(2, .t (.v (.c (.ptr [.sl 2 (List.map e_PartType a0)])))), (3, .t (.v (.c (.ptr (e_Netlist a1))))), (7, .t (.v (.c (.fn 56 [.ptr [.sl 2 (List.map e_PartType a0)], .ptr (e_Netlist a1)])))), (8, .t (.v (.ptr 0 0))), (10, .t (.v (.ptr 2 0))), (11, .t (.v (.ptr 4 0))), (12, .t (.v (.rt 5))), (29, lA 3 (List.map e_Net a1.Nets)), (30, iA (a1.Nets.length : Int)), (31, iA (i4 : Int)), (37, lA 2 (List.map e_Pin x6.Pins)), (38, iA (x6.Pins.length : Int)), (39, iA (i8 : Int))]
noncomputable def nl_Findings_H1 (a0 : List PartType) (a1 : Netlist) (i4 : Nat) (y5 : List Finding) (x6 : Net) (i8 : Nat) (y9 : List Pin) (y10 : List (Int × List Pin)) : Hp := [(0, .cells 39 [.rt 1]), (1, .row 102 3 (List.map e_Finding y5)), (2, .cells 64 [.c (sC x6.Name), .c (.sl 2 (List.map e_Pin x6.Pins)), .c (.sl 1 (List.map e_str x6.Ports))]), (3, .nmap (keys PG 3) 28 2 none (encM kv_i64 dv_sl_Pin y10)), (4, .cells 98 [.rt 3]), (5, .row 28 2 (List.map e_Pin y9))]
noncomputable def nl_Findings_B1 (a0 : List PartType) (a1 : Netlist) (i4 : Nat) (y5 : List Finding) (x6 : Net) (s : List Pin × (List (Int × List Pin))) : Oc := .ex 2 [(2, .t (.v (.c (.ptr [.sl 2 (List.map e_PartType a0)])))), (3, .t (.v (.c (.ptr (e_Netlist a1))))), (7, .t (.v (.c (.fn 56 [.ptr [.sl 2 (List.map e_PartType a0)], .ptr (e_Netlist a1)])))), (8, .t (.v (.ptr 0 0))), (10, .t (.v (.ptr 2 0))), (11, .t (.v (.ptr 4 0))), (12, .t (.v (.rt 5))), (29, lA 3 (List.map e_Net a1.Nets)), (30, iA (a1.Nets.length : Int)), (31, iA (i4 : Int))] [(0, .cells 39 [.rt 1]), (1, .row 102 3 (List.map e_Finding y5)), (2, .cells 64 [.c (sC x6.Name), .c (.sl 2 (List.map e_Pin x6.Pins)), .c (.sl 1 (List.map e_str x6.Ports))]), (3, .nmap (keys PG 3) 28 2 none (encM kv_i64 dv_sl_Pin s.2)), (4, .cells 98 [.rt 3]), (5, .row 28 2 (List.map e_Pin s.1))]
noncomputable def nl_Findings_b1 (a0 : List PartType) (a1 : Netlist) (i4 : Nat) (y5 : List Finding) (x6 : Net) (i8 : Nat) (y9 : List Pin) (y10 : List (Int × List Pin)) : Option (Stp (List Pin × (List (Int × List Pin))) (List Finding × Int)) :=
 bnd (atI x6.Pins (i8 : Int)) fun x11 =>
 bnd (nl_Findings_1 x11 a0 a1) fun r13 =>
 bnd1 (grd (r64 r13) <|
 opt (tlook y10 r13) (fun v18 =>
 grd (v18.length + [x11].length ≤ lim) <|
 grd (r64 r13) <|
 some (tput y10 r13 (v18 ++ [x11]))) (grd (([] : List Pin).length + [x11].length ≤ lim) <|
 grd (r64 r13) <|
 some (tput y10 r13 [x11]))) fun v15 =>
 bnd1 (cnd (r13 == 2) (some true) (some (r13 == 5))) fun v26 =>
 bnd1 (cnd v26 (grd (y9.length + [x11].length ≤ lim) <|
 some (y9 ++ [x11])) (some y9)) fun v31 =>
 some (.go (v31, v15))
theorem nl_Findings_b1_r (a0 : List PartType) (a1 : Netlist) (i4 : Nat) (y5 : List Finding) (x6 : Net) (i8 : Nat) (y9 : List Pin) (y10 : List (Int × List Pin)) (o : Stp (List Pin × (List (Int × List Pin))) (List Finding × Int)) (hi : i8 < x6.Pins.length) (h : nl_Findings_b1 a0 a1 i4 y5 x6 i8 y9 y10 = some o) :
    Runs PG 159 0 nl_Findings_c1 (nl_Findings_F1 a0 a1 i4 y5 x6 i8 y9 y10) (nl_Findings_H1 a0 a1 i4 y5 x6 i8 y9 y10) (stpOc (fun s' => .nor (nl_Findings_F1 a0 a1 i4 y5 x6 (i8 + 1) s'.1 s'.2) (nl_Findings_H1 a0 a1 i4 y5 x6 (i8 + 1) s'.1 s'.2)) (nl_Findings_B1 a0 a1 i4 y5 x6) nl_Findings_R o) := by
  unfold nl_Findings_b1 at h
  refine Runs.len (s := 37) (sz := 2) (xs := List.map e_Pin x6.Pins) (by kernel_rfl) fun hl => ?_
  have hM : x6.Pins.length ≤ lim := len_of hl
  obtain ⟨x11, h12, h⟩ := bnd_e h
  obtain ⟨r13, h14, h⟩ := bnd_e h
  obtain ⟨v15, h16, h⟩ := bnd1_e h
  let q25_f : Fr := [(2, .t (.v (.c (.ptr [.sl 2 (List.map e_PartType a0)])))), (3, .t (.v (.c (.ptr (e_Netlist a1))))), (7, .t (.v (.c (.fn 56 [.ptr [.sl 2 (List.map e_PartType a0)], .ptr (e_Netlist a1)])))), (8, .t (.v (.ptr 0 0))), (10, .t (.v (.ptr 2 0))), (11, .t (.v (.ptr 4 0))), (12, .t (.v (.rt 5))), (14, .t (.v (.ptr 6 0))), (15, iA r13), (29, lA 3 (List.map e_Net a1.Nets)), (30, iA (a1.Nets.length : Int)), (31, iA (i4 : Int)), (37, lA 2 (List.map e_Pin x6.Pins)), (38, iA (x6.Pins.length : Int)), (39, iA (i8 : Int))]
  let q25_g : Hp := [(0, .cells 39 [.rt 1]), (1, .row 102 3 (List.map e_Finding y5)), (2, .cells 64 [.c (sC x6.Name), .c (.sl 2 (List.map e_Pin x6.Pins)), .c (.sl 1 (List.map e_str x6.Ports))]), (3, .nmap (keys PG 3) 28 2 none (encM kv_i64 dv_sl_Pin y10)), (4, .cells 98 [.rt 3]), (5, .row 28 2 (List.map e_Pin y9)), (6, .cells 28 [.c (sC x11.Part), .c (sC x11.Pin)])]
  let q25_f' : Fr := [(2, .t (.v (.c (.ptr [.sl 2 (List.map e_PartType a0)])))), (3, .t (.v (.c (.ptr (e_Netlist a1))))), (7, .t (.v (.c (.fn 56 [.ptr [.sl 2 (List.map e_PartType a0)], .ptr (e_Netlist a1)])))), (8, .t (.v (.ptr 0 0))), (10, .t (.v (.ptr 2 0))), (11, .t (.v (.ptr 4 0))), (12, .t (.v (.rt 5))), (14, .t (.v (.ptr 6 0))), (15, iA r13), (29, lA 3 (List.map e_Net a1.Nets)), (30, iA (a1.Nets.length : Int)), (31, iA (i4 : Int)), (37, lA 2 (List.map e_Pin x6.Pins)), (38, iA (x6.Pins.length : Int)), (39, iA (i8 : Int))]
  let q25_g' : Hp := [(0, .cells 39 [.rt 1]), (1, .row 102 3 (List.map e_Finding y5)), (2, .cells 64 [.c (sC x6.Name), .c (.sl 2 (List.map e_Pin x6.Pins)), .c (.sl 1 (List.map e_str x6.Ports))]), (3, .nmap (keys PG 3) 28 2 none (encM kv_i64 dv_sl_Pin v15)), (4, .cells 98 [.rt 3]), (5, .row 28 2 (List.map e_Pin y9)), (6, .cells 28 [.c (sC x11.Part), .c (sC x11.Pin)])]
  have R17 : Runs PG 159 0 (cL (cR (cR (cL (cL (cR (cR nl_Findings_c1))))))) q25_f q25_g (.nor q25_f' q25_g') := by
    obtain ⟨h20, h16⟩ := grd_e h16
    rcases opt_e h16 with ⟨v18, h19, h16⟩ | ⟨h19, h16⟩
    · obtain ⟨h21, h16⟩ := grd_e h16
      obtain ⟨h22, h16⟩ := grd_e h16
      have h16 := Option.some.inj h16
      subst h16
      exact Runs.path XTok PGmix [.g (.mt 3 (kv_i64 r13) 7 (List.map e_Pin v18)), .d [([4], []), ([], []), ([4], []), ([], []), ([3], [.b true]), ([6], []), ([], [.id 8, .row (List.map e_Pin [x11])]), ([7, 8], [.id 9, .row (List.map e_Pin (v18 ++ [x11]))]), ([3], [.es (putE (encM kv_i64 dv_sl_Pin y10) (kv_i64 r13) (.v .nil))])], .g (.mc 3 (encM kv_i64 dv_sl_Pin (tput y10 r13 (v18 ++ [x11]))))] [] (an (tl_some dv_sl_Pin ki_i64 h19) (an (an kd_i64 (an (Eq.refl (keys PG 3)) (an (kf_i64 r13 h20) (Eq.refl (kv_i64 r13))))) (an (Eq.refl (List.flatten (List.map e_Pin [x11]))) (an (app_ok e_Pin h21) (an (an kd_i64 (an (Eq.refl (keys PG 3)) (an (kf_i64 r13 h22) (an (Eq.refl (putE (encM kv_i64 dv_sl_Pin y10) (kv_i64 r13) (.v .nil))) (Eq.refl (kv_i64 r13)))))) (put2_ok dv_sl_Pin ki_i64 y10 r13 (v18 ++ [x11]) (.v .nil))))))) (by kernel_rfl)
    · obtain ⟨h23, h16⟩ := grd_e h16
      obtain ⟨h24, h16⟩ := grd_e h16
      have h16 := Option.some.inj h16
      subst h16
      exact Runs.path XTok PGmix [.d [([4], []), ([], []), ([4], []), ([], []), ([3], [.look (none)]), ([6], []), ([], [.id 7, .row (List.map e_Pin [x11])]), ([7], [.id 8, .row (List.map e_Pin [x11])]), ([3], [.es (putE (encM kv_i64 dv_sl_Pin y10) (kv_i64 r13) (.v .nil))])], .g (.mc 3 (encM kv_i64 dv_sl_Pin (tput y10 r13 [x11])))] [] (an (an kd_i64 (an (Eq.refl (keys PG 3)) (an (kf_i64 r13 h20) (tl_none dv_sl_Pin ki_i64 h19)))) (an (Eq.refl (List.flatten (List.map e_Pin [x11]))) (an (app_ok0 e_Pin h23) (an (an kd_i64 (an (Eq.refl (keys PG 3)) (an (kf_i64 r13 h24) (an (Eq.refl (putE (encM kv_i64 dv_sl_Pin y10) (kv_i64 r13) (.v .nil))) trivial)))) (put2_ok dv_sl_Pin ki_i64 y10 r13 [x11] (.v .nil)))))) (by kernel_rfl)
  obtain ⟨v26, h27, h⟩ := bnd1_e h
  let q30_f : Fr := [(2, .t (.v (.c (.ptr [.sl 2 (List.map e_PartType a0)])))), (3, .t (.v (.c (.ptr (e_Netlist a1))))), (7, .t (.v (.c (.fn 56 [.ptr [.sl 2 (List.map e_PartType a0)], .ptr (e_Netlist a1)])))), (8, .t (.v (.ptr 0 0))), (10, .t (.v (.ptr 2 0))), (11, .t (.v (.ptr 4 0))), (12, .t (.v (.rt 5))), (14, .t (.v (.ptr 6 0))), (15, iA r13), (29, lA 3 (List.map e_Net a1.Nets)), (30, iA (a1.Nets.length : Int)), (31, iA (i4 : Int)), (37, lA 2 (List.map e_Pin x6.Pins)), (38, iA (x6.Pins.length : Int)), (39, iA (i8 : Int))]
  let q30_g : Hp := [(0, .cells 39 [.rt 1]), (1, .row 102 3 (List.map e_Finding y5)), (2, .cells 64 [.c (sC x6.Name), .c (.sl 2 (List.map e_Pin x6.Pins)), .c (.sl 1 (List.map e_str x6.Ports))]), (3, .nmap (keys PG 3) 28 2 none (encM kv_i64 dv_sl_Pin v15)), (4, .cells 98 [.rt 3]), (5, .row 28 2 (List.map e_Pin y9)), (6, .cells 28 [.c (sC x11.Part), .c (sC x11.Pin)])]
  let q30_f' : Fr := [(2, .t (.v (.c (.ptr [.sl 2 (List.map e_PartType a0)])))), (3, .t (.v (.c (.ptr (e_Netlist a1))))), (7, .t (.v (.c (.fn 56 [.ptr [.sl 2 (List.map e_PartType a0)], .ptr (e_Netlist a1)])))), (8, .t (.v (.ptr 0 0))), (10, .t (.v (.ptr 2 0))), (11, .t (.v (.ptr 4 0))), (12, .t (.v (.rt 5))), (14, .t (.v (.ptr 6 0))), (29, lA 3 (List.map e_Net a1.Nets)), (30, iA (a1.Nets.length : Int)), (31, iA (i4 : Int)), (37, lA 2 (List.map e_Pin x6.Pins)), (38, iA (x6.Pins.length : Int)), (39, iA (i8 : Int)), (59, bA v26)]
  let q30_g' : Hp := [(0, .cells 39 [.rt 1]), (1, .row 102 3 (List.map e_Finding y5)), (2, .cells 64 [.c (sC x6.Name), .c (.sl 2 (List.map e_Pin x6.Pins)), .c (.sl 1 (List.map e_str x6.Ports))]), (3, .nmap (keys PG 3) 28 2 none (encM kv_i64 dv_sl_Pin v15)), (4, .cells 98 [.rt 3]), (5, .row 28 2 (List.map e_Pin y9)), (6, .cells 28 [.c (sC x11.Part), .c (sC x11.Pin)])]
  have R28 : Runs PG 159 0 (cL (cR (cR (cR (cL (cL (cR (cR nl_Findings_c1)))))))) q30_f q30_g (.nor q30_f' q30_g') := by
    rcases cnd_e h27 with ⟨h29, h27⟩ | ⟨h29, h27⟩
    · have h27 := Option.some.inj h27
      subst h27
      exact Runs.path XTok PGmix [.r [.b true, .b true, .b true]] [] (an h29 (an h29 h29)) (by kernel_rfl)
    · have h27 := Option.some.inj h27
      subst h27
      exact Runs.path XTok PGmix [.r [.b false, .b false, .b false]] [] (an h29 (an h29 h29)) (by kernel_rfl)
  obtain ⟨v31, h32, h⟩ := bnd1_e h
  let q36_f : Fr := [(2, .t (.v (.c (.ptr [.sl 2 (List.map e_PartType a0)])))), (3, .t (.v (.c (.ptr (e_Netlist a1))))), (7, .t (.v (.c (.fn 56 [.ptr [.sl 2 (List.map e_PartType a0)], .ptr (e_Netlist a1)])))), (8, .t (.v (.ptr 0 0))), (10, .t (.v (.ptr 2 0))), (11, .t (.v (.ptr 4 0))), (12, .t (.v (.rt 5))), (14, .t (.v (.ptr 6 0))), (29, lA 3 (List.map e_Net a1.Nets)), (30, iA (a1.Nets.length : Int)), (31, iA (i4 : Int)), (37, lA 2 (List.map e_Pin x6.Pins)), (38, iA (x6.Pins.length : Int)), (39, iA (i8 : Int)), (59, bA v26)]
  let q36_g : Hp := [(0, .cells 39 [.rt 1]), (1, .row 102 3 (List.map e_Finding y5)), (2, .cells 64 [.c (sC x6.Name), .c (.sl 2 (List.map e_Pin x6.Pins)), .c (.sl 1 (List.map e_str x6.Ports))]), (3, .nmap (keys PG 3) 28 2 none (encM kv_i64 dv_sl_Pin v15)), (4, .cells 98 [.rt 3]), (5, .row 28 2 (List.map e_Pin y9)), (6, .cells 28 [.c (sC x11.Part), .c (sC x11.Pin)])]
  let q36_f' : Fr := [(2, .t (.v (.c (.ptr [.sl 2 (List.map e_PartType a0)])))), (3, .t (.v (.c (.ptr (e_Netlist a1))))), (7, .t (.v (.c (.fn 56 [.ptr [.sl 2 (List.map e_PartType a0)], .ptr (e_Netlist a1)])))), (8, .t (.v (.ptr 0 0))), (10, .t (.v (.ptr 2 0))), (11, .t (.v (.ptr 4 0))), (12, .t (.v (.rt 8))), (29, lA 3 (List.map e_Net a1.Nets)), (30, iA (a1.Nets.length : Int)), (31, iA (i4 : Int)), (37, lA 2 (List.map e_Pin x6.Pins)), (38, iA (x6.Pins.length : Int)), (39, iA (i8 : Int))]
  let q36_g' : Hp := [(0, .cells 39 [.rt 1]), (1, .row 102 3 (List.map e_Finding y5)), (2, .cells 64 [.c (sC x6.Name), .c (.sl 2 (List.map e_Pin x6.Pins)), .c (.sl 1 (List.map e_str x6.Ports))]), (3, .nmap (keys PG 3) 28 2 none (encM kv_i64 dv_sl_Pin v15)), (4, .cells 98 [.rt 3]), (8, .row 28 2 (List.map e_Pin v31))]
  have R33 : Runs PG 159 0 (cR (cR (cR (cR (cL (cL (cR (cR nl_Findings_c1)))))))) q36_f q36_g (.nor q36_f' q36_g') := by
    rcases cnd_e h32 with ⟨h34, h32⟩ | ⟨h34, h32⟩
    · obtain ⟨h35, h32⟩ := grd_e h32
      have h32 := Option.some.inj h32
      subst h32
      exact Runs.path XTok PGmix [.b true, .r [.id 7, .row (List.map e_Pin [x11]), .id 8, .row (List.map e_Pin (y9 ++ [x11]))]] [] (an h34 (an (Eq.refl (List.flatten (List.map e_Pin [x11]))) (app_ok e_Pin h35))) (by kernel_rfl)
    · have h32 := Option.some.inj h32
      subst h32
      exact Runs.path XTok PGmix [.b false] [(8, 5)] h34 (by kernel_rfl)
  have h := Option.some.inj h
  subst h
  exact Runs.path XTok PGmix [.r [], .b true, .r [.el (e_Pin x11), .id 6], .r [.val (iA r13)], .s q25_f q25_g [] (.nor q25_f' q25_g'), .s q30_f q30_g [] (.nor q30_f' q30_g'), .s q36_f q36_g [] (.nor q36_f' q36_g'), .r [.eq 64 (iA ((i8 + 1 : Nat) : Int))]] [(5, 8)] (an (lt_true hi) (an (idx_ok e_Pin h12) (an (nl_Findings_1_ok x11 a0 a1 r13 h14) (an R17 (an R28 (an R33 (wrap_eq hi hM))))))) (by kernel_rfl)
theorem nl_Findings_b1_e (a0 : List PartType) (a1 : Netlist) (i4 : Nat) (y5 : List Finding) (x6 : Net) (y9 : List Pin) (y10 : List (Int × List Pin)) : Runs PG 159 0 nl_Findings_c1 (nl_Findings_F1 a0 a1 i4 y5 x6 (x6.Pins.length) y9 y10) (nl_Findings_H1 a0 a1 i4 y5 x6 (x6.Pins.length) y9 y10) (nl_Findings_B1 a0 a1 i4 y5 x6 (y9, y10)) := by
  exact Runs.path XTok PGmix [.r [], .b false] [] (lt_false (x6.Pins.length)) (by kernel_rfl)
theorem nl_Findings_l1 (a0 : List PartType) (a1 : Netlist) (i4 : Nat) (y5 : List Finding) (x6 : Net) (y9 : List Pin) (y10 : List (Int × List Pin)) (r : Fin' (List Pin × (List (Int × List Pin))) (List Finding × Int)) (h : forN (fun i8 s => nl_Findings_b1 a0 a1 i4 y5 x6 i8 s.1 s.2) (x6.Pins.length) 0 (y9, y10) = some r) : Runs PG 159 0 (cL (cR (cL (cR (cR (cR (cL (cL (cR (cR nl_Findings_c0)))))))))) (nl_Findings_F1 a0 a1 i4 y5 x6 0 y9 y10) (nl_Findings_H1 a0 a1 i4 y5 x6 0 y9 y10) (finOc (nl_Findings_B1 a0 a1 i4 y5 x6) nl_Findings_R r) :=
  Runs.loop' (by kernel_rfl) (forN_rounds (σ := (List Pin × (List (Int × List Pin)))) (ρ := (List Finding × Int)) (body := fun i8 s => nl_Findings_b1 a0 a1 i4 y5 x6 i8 s.1 s.2) (F := fun i8 s => nl_Findings_F1 a0 a1 i4 y5 x6 i8 s.1 s.2) (H := fun i8 s => nl_Findings_H1 a0 a1 i4 y5 x6 i8 s.1 s.2) (B := nl_Findings_B1 a0 a1 i4 y5 x6) (R := nl_Findings_R) (M := x6.Pins.length) (fun _ => rfl) (fun _ => rfl) (fun s => nl_Findings_b1_e a0 a1 i4 y5 x6 s.1 s.2) (fun i s o hi h => nl_Findings_b1_r a0 a1 i4 y5 x6 i s.1 s.2 o hi h) _ 0 _ r (Nat.zero_add _) h)
noncomputable def nl_Findings_F0 (a0 : List PartType) (a1 : Netlist) (i4 : Nat) (y5 : List Finding) : Fr := [(2, .t (.v (.c (.ptr [.sl 2 (List.map e_PartType a0)])))), (3, .t (.v (.c (.ptr (e_Netlist a1))))), (7, .t (.v (.c (.fn 56 [.ptr [.sl 2 (List.map e_PartType a0)], .ptr (e_Netlist a1)])))), (8, .t (.v (.ptr 0 0))), (29, lA 3 (List.map e_Net a1.Nets)), (30, iA (a1.Nets.length : Int)), (31, iA (i4 : Int))]
noncomputable def nl_Findings_H0 (a0 : List PartType) (a1 : Netlist) (i4 : Nat) (y5 : List Finding) : Hp := [(0, .cells 39 [.rt 1]), (1, .row 102 3 (List.map e_Finding y5))]
noncomputable def nl_Findings_B0 (a0 : List PartType) (a1 : Netlist) (s : List Finding) : Oc := .ex 0 [(2, .t (.v (.c (.ptr [.sl 2 (List.map e_PartType a0)])))), (3, .t (.v (.c (.ptr (e_Netlist a1))))), (7, .t (.v (.c (.fn 56 [.ptr [.sl 2 (List.map e_PartType a0)], .ptr (e_Netlist a1)])))), (8, .t (.v (.ptr 0 0)))] [(0, .cells 39 [.rt 1]), (1, .row 102 3 (List.map e_Finding s))]
noncomputable def nl_Findings_b0 (a0 : List PartType) (a1 : Netlist) (i4 : Nat) (y5 : List Finding) : Option (Stp (List Finding) (List Finding × Int)) :=
 bnd (atI a1.Nets (i4 : Int)) fun x6 =>
 aft2 (forN (fun i8 s => nl_Findings_b1 a0 a1 i4 y5 x6 i8 s.1 s.2) (x6.Pins.length) 0 ([], [])) (fun u37 u38 =>
 bnd1 (bnd (nl_Findings_2 2 u38) fun r44 =>
 cnd (decide (r44 > 1)) (bnd (nl_Findings_3 true 1 u37 y5 x6) fun r47 =>
 some r47) (bnd (nl_Findings_2 2 u38) fun r49 =>
 cnd (decide (r49 > 0)) (bnd (nl_Findings_2 5 u38) fun r52 =>
 bnd (nl_Findings_3 (decide (r52 > 0)) 1 u37 y5 x6) fun r54 =>
 some r54) (bnd (nl_Findings_3 false 1 u37 y5 x6) fun r56 =>
 some r56))) fun v41 =>
 bnd1 (bnd (nl_Findings_2 1 u38) fun r62 =>
 cnd (decide (r62 > 0)) (bnd (nl_Findings_2 3 u38) fun r65 =>
 bnd (nl_Findings_2 6 u38) fun r67 =>
 grd (r64 1) <|
 opt (tlook u38 1) (fun v69 =>
 bnd (nl_Findings_3 ((w64 ((w64 ((u37.length : Int) + r65)) + r67)) == 0) 2 v69 v41 x6) fun r72 =>
 some r72) (bnd (nl_Findings_3 ((w64 ((w64 ((u37.length : Int) + r65)) + r67)) == 0) 2 [] v41 x6) fun r74 =>
 some r74)) (grd (r64 1) <|
 opt (tlook u38 1) (fun v76 =>
 bnd (nl_Findings_3 false 2 v76 v41 x6) fun r79 =>
 some r79) (bnd (nl_Findings_3 false 2 [] v41 x6) fun r81 =>
 some r81))) fun v59 =>
 bnd1 (bnd (nl_Findings_2 4 u38) fun r87 =>
 cnd (decide (r87 > 0)) (bnd (nl_Findings_2 5 u38) fun r90 =>
 grd (r64 4) <|
 opt (tlook u38 4) (fun v92 =>
 bnd (nl_Findings_3 (r90 == 0) 3 v92 v59 x6) fun r95 =>
 some r95) (bnd (nl_Findings_3 (r90 == 0) 3 [] v59 x6) fun r97 =>
 some r97)) (grd (r64 4) <|
 opt (tlook u38 4) (fun v99 =>
 bnd (nl_Findings_3 false 3 v99 v59 x6) fun r102 =>
 some r102) (bnd (nl_Findings_3 false 3 [] v59 x6) fun r104 =>
 some r104))) fun v84 =>
 bnd1 (bnd (nl_Findings_2 7 u38) fun r110 =>
 grd (r64 7) <|
 opt (tlook u38 7) (fun v112 =>
 bnd (nl_Findings_3 (decide (r110 > 0)) 4 v112 v84 x6) fun r115 =>
 some r115) (bnd (nl_Findings_3 (decide (r110 > 0)) 4 [] v84 x6) fun r117 =>
 some r117)) fun v107 =>
 bnd1 (cnd ((x6.Pins.length : Int) == 1) (bnd (nl_Findings_2 7 u38) fun r124 =>
 bnd (nl_Findings_3 (r124 == 0) 5 x6.Pins v107 x6) fun r126 =>
 some r126) (bnd (nl_Findings_3 false 5 x6.Pins v107 x6) fun r128 =>
 some r128)) fun v120 =>
 some (.go v120))
 (fun r40 =>
 some (.ret r40))
theorem nl_Findings_b0_r (a0 : List PartType) (a1 : Netlist) (i4 : Nat) (y5 : List Finding) (o : Stp (List Finding) (List Finding × Int)) (hi : i4 < a1.Nets.length) (h : nl_Findings_b0 a0 a1 i4 y5 = some o) :
    Runs PG 159 0 nl_Findings_c0 (nl_Findings_F0 a0 a1 i4 y5) (nl_Findings_H0 a0 a1 i4 y5) (stpOc (fun s' => .nor (nl_Findings_F0 a0 a1 (i4 + 1) s') (nl_Findings_H0 a0 a1 (i4 + 1) s')) (nl_Findings_B0 a0 a1) nl_Findings_R o) := by
  unfold nl_Findings_b0 at h
  refine Runs.len (s := 29) (sz := 3) (xs := List.map e_Net a1.Nets) (by kernel_rfl) fun hl => ?_
  have hM : a1.Nets.length ≤ lim := len_of hl
  obtain ⟨x6, h7, h⟩ := bnd_e h
  rcases aft2_e h with ⟨u37, u38, h39, h⟩ | ⟨r40, h39, h⟩
  · obtain ⟨v41, h42, h⟩ := bnd1_e h
    let q58_f : Fr := [(2, .t (.v (.c (.ptr [.sl 2 (List.map e_PartType a0)])))), (3, .t (.v (.c (.ptr (e_Netlist a1))))), (7, .t (.v (.c (.fn 56 [.ptr [.sl 2 (List.map e_PartType a0)], .ptr (e_Netlist a1)])))), (8, .t (.v (.ptr 0 0))), (10, .t (.v (.c (.ptr (e_Net x6))))), (11, .t (.v (.ptr 4 0))), (12, .t (.v (.rt 5))), (16, .t (.v (.fn 60 [.own 4]))), (17, .t (.v (.fn 61 [.own 0, .c (.ptr (e_Net x6))]))), (29, lA 3 (List.map e_Net a1.Nets)), (30, iA (a1.Nets.length : Int)), (31, iA (i4 : Int))]
    let q58_g : Hp := [(0, .cells 39 [.rt 1]), (1, .row 102 3 (List.map e_Finding y5)), (3, .map (keys PG 3) (encM kv_i64 dv_sl_Pin u38)), (4, .cells 98 [.rt 3]), (5, .row 28 2 (List.map e_Pin u37))]
    let q58_f' : Fr := [(2, .t (.v (.c (.ptr [.sl 2 (List.map e_PartType a0)])))), (3, .t (.v (.c (.ptr (e_Netlist a1))))), (7, .t (.v (.c (.fn 56 [.ptr [.sl 2 (List.map e_PartType a0)], .ptr (e_Netlist a1)])))), (8, .t (.v (.ptr 0 0))), (10, .t (.v (.c (.ptr (e_Net x6))))), (11, .t (.v (.ptr 4 0))), (12, lA 2 (List.map e_Pin u37)), (16, .t (.v (.fn 60 [.own 4]))), (17, .t (.v (.fn 61 [.own 0, .c (.ptr (e_Net x6))]))), (29, lA 3 (List.map e_Net a1.Nets)), (30, iA (a1.Nets.length : Int)), (31, iA (i4 : Int))]
    let q58_g' : Hp := [(0, .cells 39 [.rt 5]), (5, .row 102 3 (List.map e_Finding v41)), (3, .map (keys PG 3) (encM kv_i64 dv_sl_Pin u38)), (4, .cells 98 [.rt 3])]
    have R43 : Runs PG 159 0 (cL (cR (cR (cR (cR (cR (cR (cL (cL (cR (cR nl_Findings_c0))))))))))) q58_f q58_g (.nor q58_f' q58_g') := by
      obtain ⟨r44, h45, h42⟩ := bnd_e h42
      rcases cnd_e h42 with ⟨h46, h42⟩ | ⟨h46, h42⟩
      · obtain ⟨r47, h48, h42⟩ := bnd_e h42
        have h42 := Option.some.inj h42
        subst h42
        exact Runs.path XTok PGmix [.r [.call [(0, 4), (1, 3)] [iT 2, .v (.ptr 0 0)] [(0, .cells 98 [.rt 1]), (1, .map (keys PG 3) (encM kv_i64 dv_sl_Pin u38))] (iA r44) [(0, .cells 98 [.rt 1]), (1, .map (keys PG 3) (encM kv_i64 dv_sl_Pin u38))], .b true, .b true, .b true, .b true, .b true, .b true, .fz 5, .call [(0, 0), (1, 1), (2, 5)] [bT true, iT 1, lT 2 (List.map e_Pin u37), .v (.ptr 0 0), .v (.c (.ptr (e_Net x6)))] [(0, .cells 39 [.rt 1]), (1, .row 102 3 (List.map e_Finding y5))] (.tup []) [(0, .cells 39 [.rt 2]), (2, .row 102 3 (List.map e_Finding r47))]]] [] (an (an (nl_Findings_2_ok 2 u38 r44 h45) (an (Eq.refl ([iT 2, .v (.ptr 4 0)] : List TV)) (Eq.refl (renH (asg [(0, 4), (1, 3)]) [(0, .cells 98 [.rt 1]), (1, .map (keys PG 3) (encM kv_i64 dv_sl_Pin u38))])))) (an h46 (an h46 (an h46 (an h46 (an h46 (an h46 (an (nl_Findings_3_ok true 1 u37 y5 x6 r47 h48) (an (Eq.refl ([bT true, iT 1, lT 2 (List.map e_Pin u37), .v (.ptr 0 0), .v (.c (.ptr (e_Net x6)))] : List TV)) (Eq.refl (renH (asg [(0, 0), (1, 1), (2, 5)]) [(0, .cells 39 [.rt 1]), (1, .row 102 3 (List.map e_Finding y5))]))))))))))) (by kernel_rfl)
      · obtain ⟨r49, h50, h42⟩ := bnd_e h42
        rcases cnd_e h42 with ⟨h51, h42⟩ | ⟨h51, h42⟩
        · obtain ⟨r52, h53, h42⟩ := bnd_e h42
          obtain ⟨r54, h55, h42⟩ := bnd_e h42
          have h42 := Option.some.inj h42
          subst h42
          exact Runs.path XTok PGmix [.r [.call [(0, 4), (1, 3)] [iT 2, .v (.ptr 0 0)] [(0, .cells 98 [.rt 1]), (1, .map (keys PG 3) (encM kv_i64 dv_sl_Pin u38))] (iA r44) [(0, .cells 98 [.rt 1]), (1, .map (keys PG 3) (encM kv_i64 dv_sl_Pin u38))], .b false, .b false, .call [(0, 4), (1, 3)] [iT 2, .v (.ptr 0 0)] [(0, .cells 98 [.rt 1]), (1, .map (keys PG 3) (encM kv_i64 dv_sl_Pin u38))] (iA r49) [(0, .cells 98 [.rt 1]), (1, .map (keys PG 3) (encM kv_i64 dv_sl_Pin u38))], .b false, .b false, .b true, .b true, .call [(0, 4), (1, 3)] [iT 5, .v (.ptr 0 0)] [(0, .cells 98 [.rt 1]), (1, .map (keys PG 3) (encM kv_i64 dv_sl_Pin u38))] (iA r52) [(0, .cells 98 [.rt 1]), (1, .map (keys PG 3) (encM kv_i64 dv_sl_Pin u38))], .b true, .b false, .b true, .b false, .fz 5, .call [(0, 0), (1, 1), (2, 5)] [bT (decide (r52 > 0)), iT 1, lT 2 (List.map e_Pin u37), .v (.ptr 0 0), .v (.c (.ptr (e_Net x6)))] [(0, .cells 39 [.rt 1]), (1, .row 102 3 (List.map e_Finding y5))] (.tup []) [(0, .cells 39 [.rt 2]), (2, .row 102 3 (List.map e_Finding r54))]]] [] (an (an (nl_Findings_2_ok 2 u38 r44 h45) (an (Eq.refl ([iT 2, .v (.ptr 4 0)] : List TV)) (Eq.refl (renH (asg [(0, 4), (1, 3)]) [(0, .cells 98 [.rt 1]), (1, .map (keys PG 3) (encM kv_i64 dv_sl_Pin u38))])))) (an h46 (an h46 (an (an (nl_Findings_2_ok 2 u38 r49 h50) (an (Eq.refl ([iT 2, .v (.ptr 4 0)] : List TV)) (Eq.refl (renH (asg [(0, 4), (1, 3)]) [(0, .cells 98 [.rt 1]), (1, .map (keys PG 3) (encM kv_i64 dv_sl_Pin u38))])))) (an h46 (an h46 (an h51 (an h51 (an (an (nl_Findings_2_ok 5 u38 r52 h53) (an (Eq.refl ([iT 5, .v (.ptr 4 0)] : List TV)) (Eq.refl (renH (asg [(0, 4), (1, 3)]) [(0, .cells 98 [.rt 1]), (1, .map (keys PG 3) (encM kv_i64 dv_sl_Pin u38))])))) (an h51 (an h46 (an h51 (an h46 (an (nl_Findings_3_ok (decide (r52 > 0)) 1 u37 y5 x6 r54 h55) (an (Eq.refl ([bT (decide (r52 > 0)), iT 1, lT 2 (List.map e_Pin u37), .v (.ptr 0 0), .v (.c (.ptr (e_Net x6)))] : List TV)) (Eq.refl (renH (asg [(0, 0), (1, 1), (2, 5)]) [(0, .cells 39 [.rt 1]), (1, .row 102 3 (List.map e_Finding y5))]))))))))))))))))) (by kernel_rfl)
        · obtain ⟨r56, h57, h42⟩ := bnd_e h42
          have h42 := Option.some.inj h42
          subst h42
          exact Runs.path XTok PGmix [.r [.call [(0, 4), (1, 3)] [iT 2, .v (.ptr 0 0)] [(0, .cells 98 [.rt 1]), (1, .map (keys PG 3) (encM kv_i64 dv_sl_Pin u38))] (iA r44) [(0, .cells 98 [.rt 1]), (1, .map (keys PG 3) (encM kv_i64 dv_sl_Pin u38))], .b false, .b false, .call [(0, 4), (1, 3)] [iT 2, .v (.ptr 0 0)] [(0, .cells 98 [.rt 1]), (1, .map (keys PG 3) (encM kv_i64 dv_sl_Pin u38))] (iA r49) [(0, .cells 98 [.rt 1]), (1, .map (keys PG 3) (encM kv_i64 dv_sl_Pin u38))], .b false, .b false, .b false, .b false, .b false, .b false, .b false, .b false, .fz 5, .call [(0, 0), (1, 1), (2, 5)] [bT false, iT 1, lT 2 (List.map e_Pin u37), .v (.ptr 0 0), .v (.c (.ptr (e_Net x6)))] [(0, .cells 39 [.rt 1]), (1, .row 102 3 (List.map e_Finding y5))] (.tup []) [(0, .cells 39 [.rt 2]), (2, .row 102 3 (List.map e_Finding r56))]]] [] (an (an (nl_Findings_2_ok 2 u38 r44 h45) (an (Eq.refl ([iT 2, .v (.ptr 4 0)] : List TV)) (Eq.refl (renH (asg [(0, 4), (1, 3)]) [(0, .cells 98 [.rt 1]), (1, .map (keys PG 3) (encM kv_i64 dv_sl_Pin u38))])))) (an h46 (an h46 (an (an (nl_Findings_2_ok 2 u38 r49 h50) (an (Eq.refl ([iT 2, .v (.ptr 4 0)] : List TV)) (Eq.refl (renH (asg [(0, 4), (1, 3)]) [(0, .cells 98 [.rt 1]), (1, .map (keys PG 3) (encM kv_i64 dv_sl_Pin u38))])))) (an h46 (an h46 (an h51 (an h51 (an h51 (an h46 (an h51 (an h46 (an (nl_Findings_3_ok false 1 u37 y5 x6 r56 h57) (an (Eq.refl ([bT false, iT 1, lT 2 (List.map e_Pin u37), .v (.ptr 0 0), .v (.c (.ptr (e_Net x6)))] : List TV)) (Eq.refl (renH (asg [(0, 0), (1, 1), (2, 5)]) [(0, .cells 39 [.rt 1]), (1, .row 102 3 (List.map e_Finding y5))])))))))))))))))) (by kernel_rfl)
    obtain ⟨v59, h60, h⟩ := bnd1_e h
    let q83_f : Fr := [(2, .t (.v (.c (.ptr [.sl 2 (List.map e_PartType a0)])))), (3, .t (.v (.c (.ptr (e_Netlist a1))))), (7, .t (.v (.c (.fn 56 [.ptr [.sl 2 (List.map e_PartType a0)], .ptr (e_Netlist a1)])))), (8, .t (.v (.ptr 0 0))), (10, .t (.v (.c (.ptr (e_Net x6))))), (11, .t (.v (.ptr 4 0))), (12, lA 2 (List.map e_Pin u37)), (16, .t (.v (.fn 60 [.own 4]))), (17, .t (.v (.fn 61 [.own 0, .c (.ptr (e_Net x6))]))), (29, lA 3 (List.map e_Net a1.Nets)), (30, iA (a1.Nets.length : Int)), (31, iA (i4 : Int))]
    let q83_g : Hp := [(0, .cells 39 [.rt 5]), (5, .row 102 3 (List.map e_Finding v41)), (3, .map (keys PG 3) (encM kv_i64 dv_sl_Pin u38)), (4, .cells 98 [.rt 3])]
    let q83_f' : Fr := [(2, .t (.v (.c (.ptr [.sl 2 (List.map e_PartType a0)])))), (3, .t (.v (.c (.ptr (e_Netlist a1))))), (7, .t (.v (.c (.fn 56 [.ptr [.sl 2 (List.map e_PartType a0)], .ptr (e_Netlist a1)])))), (8, .t (.v (.ptr 0 0))), (10, .t (.v (.c (.ptr (e_Net x6))))), (11, .t (.v (.ptr 4 0))), (16, .t (.v (.fn 60 [.own 4]))), (17, .t (.v (.fn 61 [.own 0, .c (.ptr (e_Net x6))]))), (29, lA 3 (List.map e_Net a1.Nets)), (30, iA (a1.Nets.length : Int)), (31, iA (i4 : Int))]
    let q83_g' : Hp := [(0, .cells 39 [.rt 6]), (6, .row 102 3 (List.map e_Finding v59)), (3, .map (keys PG 3) (encM kv_i64 dv_sl_Pin u38)), (4, .cells 98 [.rt 3])]
    have R61 : Runs PG 159 0 (cL (cR (cR (cR (cR (cR (cR (cR (cL (cL (cR (cR nl_Findings_c0)))))))))))) q83_f q83_g (.nor q83_f' q83_g') := by
      obtain ⟨r62, h63, h60⟩ := bnd_e h60
      rcases cnd_e h60 with ⟨h64, h60⟩ | ⟨h64, h60⟩
      · obtain ⟨r65, h66, h60⟩ := bnd_e h60
        obtain ⟨r67, h68, h60⟩ := bnd_e h60
        obtain ⟨h71, h60⟩ := grd_e h60
        rcases opt_e h60 with ⟨v69, h70, h60⟩ | ⟨h70, h60⟩
        · obtain ⟨r72, h73, h60⟩ := bnd_e h60
          have h60 := Option.some.inj h60
          subst h60
          exact Runs.path XTok PGmix [.d [([], []), ([], []), ([4, 3], [.kp, .call [(0, 4), (1, 3)] [iT 1, .v (.ptr 0 0)] [(0, .cells 98 [.rt 1]), (1, .map (keys PG 3) (encM kv_i64 dv_sl_Pin u38))] (iA r62) [(0, .cells 98 [.rt 1]), (1, .map (keys PG 3) (encM kv_i64 dv_sl_Pin u38))]]), ([], []), ([], []), ([], [.b true]), ([], [.b true, .eq 89 (iA (u37.length : Int))]), ([], [.b true]), ([4, 3], [.b true, .kp, .call [(0, 4), (1, 3)] [iT 3, .v (.ptr 0 0)] [(0, .cells 98 [.rt 1]), (1, .map (keys PG 3) (encM kv_i64 dv_sl_Pin u38))] (iA r65) [(0, .cells 98 [.rt 1]), (1, .map (keys PG 3) (encM kv_i64 dv_sl_Pin u38))]]), ([], [.b true]), ([], [.b true]), ([4, 3], [.b true, .kp, .call [(0, 4), (1, 3)] [iT 6, .v (.ptr 0 0)] [(0, .cells 98 [.rt 1]), (1, .map (keys PG 3) (encM kv_i64 dv_sl_Pin u38))] (iA r67) [(0, .cells 98 [.rt 1]), (1, .map (keys PG 3) (encM kv_i64 dv_sl_Pin u38))]]), ([], [.b true]), ([], [.b true]), ([], [.b true]), ([4], []), ([3], [.look (some (dv_sl_Pin v69))]), ([0, 5], [.call [(0, 0), (1, 5), (2, 6)] [bT ((w64 ((w64 ((u37.length : Int) + r65)) + r67)) == 0), iT 2, lT 2 (List.map e_Pin v69), .v (.ptr 0 0), .v (.c (.ptr (e_Net x6)))] [(0, .cells 39 [.rt 1]), (1, .row 102 3 (List.map e_Finding v41))] (.tup []) [(0, .cells 39 [.rt 2]), (2, .row 102 3 (List.map e_Finding r72))]])]] [] (an (an (nl_Findings_2_ok 1 u38 r62 h63) (an (Eq.refl ([iT 1, .v (.ptr 4 0)] : List TV)) (Eq.refl (renH (asg [(0, 4), (1, 3)]) [(0, .cells 98 [.rt 1]), (1, .map (keys PG 3) (encM kv_i64 dv_sl_Pin u38))])))) (an (Eq.refl ([(4, .cells 98 [.rt 3]), (3, .map (keys PG 3) (encM kv_i64 dv_sl_Pin u38))] : Hp)) (an h64 (an h64 (an (leni_eq e_Pin u37) (an h64 (an h64 (an (an (nl_Findings_2_ok 3 u38 r65 h66) (an (Eq.refl ([iT 3, .v (.ptr 4 0)] : List TV)) (Eq.refl (renH (asg [(0, 4), (1, 3)]) [(0, .cells 98 [.rt 1]), (1, .map (keys PG 3) (encM kv_i64 dv_sl_Pin u38))])))) (an (Eq.refl ([(4, .cells 98 [.rt 3]), (3, .map (keys PG 3) (encM kv_i64 dv_sl_Pin u38))] : Hp)) (an h64 (an h64 (an h64 (an (an (nl_Findings_2_ok 6 u38 r67 h68) (an (Eq.refl ([iT 6, .v (.ptr 4 0)] : List TV)) (Eq.refl (renH (asg [(0, 4), (1, 3)]) [(0, .cells 98 [.rt 1]), (1, .map (keys PG 3) (encM kv_i64 dv_sl_Pin u38))])))) (an (Eq.refl ([(4, .cells 98 [.rt 3]), (3, .map (keys PG 3) (encM kv_i64 dv_sl_Pin u38))] : Hp)) (an h64 (an h64 (an h64 (an (an kd_i64 (an (Eq.refl (keys PG 3)) (an (kf_i64 1 h71) (tl_some dv_sl_Pin ki_i64 h70)))) (an (nl_Findings_3_ok ((w64 ((w64 ((u37.length : Int) + r65)) + r67)) == 0) 2 v69 v41 x6 r72 h73) (an (Eq.refl ([bT ((w64 ((w64 ((u37.length : Int) + r65)) + r67)) == 0), iT 2, lT 2 (List.map e_Pin v69), .v (.ptr 0 0), .v (.c (.ptr (e_Net x6)))] : List TV)) (Eq.refl (renH (asg [(0, 0), (1, 5), (2, 6)]) [(0, .cells 39 [.rt 1]), (1, .row 102 3 (List.map e_Finding v41))])))))))))))))))))))))) (by kernel_rfl)
        · obtain ⟨r74, h75, h60⟩ := bnd_e h60
          have h60 := Option.some.inj h60
          subst h60
          exact Runs.path XTok PGmix [.d [([], []), ([], []), ([4, 3], [.kp, .call [(0, 4), (1, 3)] [iT 1, .v (.ptr 0 0)] [(0, .cells 98 [.rt 1]), (1, .map (keys PG 3) (encM kv_i64 dv_sl_Pin u38))] (iA r62) [(0, .cells 98 [.rt 1]), (1, .map (keys PG 3) (encM kv_i64 dv_sl_Pin u38))]]), ([], []), ([], []), ([], [.b true]), ([], [.b true, .eq 89 (iA (u37.length : Int))]), ([], [.b true]), ([4, 3], [.b true, .kp, .call [(0, 4), (1, 3)] [iT 3, .v (.ptr 0 0)] [(0, .cells 98 [.rt 1]), (1, .map (keys PG 3) (encM kv_i64 dv_sl_Pin u38))] (iA r65) [(0, .cells 98 [.rt 1]), (1, .map (keys PG 3) (encM kv_i64 dv_sl_Pin u38))]]), ([], [.b true]), ([], [.b true]), ([4, 3], [.b true, .kp, .call [(0, 4), (1, 3)] [iT 6, .v (.ptr 0 0)] [(0, .cells 98 [.rt 1]), (1, .map (keys PG 3) (encM kv_i64 dv_sl_Pin u38))] (iA r67) [(0, .cells 98 [.rt 1]), (1, .map (keys PG 3) (encM kv_i64 dv_sl_Pin u38))]]), ([], [.b true]), ([], [.b true]), ([], [.b true]), ([4], []), ([3], [.look (none)]), ([0, 5], [.call [(0, 0), (1, 5), (2, 6)] [bT ((w64 ((w64 ((u37.length : Int) + r65)) + r67)) == 0), iT 2, .v (.c (.nil)), .v (.ptr 0 0), .v (.c (.ptr (e_Net x6)))] [(0, .cells 39 [.rt 1]), (1, .row 102 3 (List.map e_Finding v41))] (.tup []) [(0, .cells 39 [.rt 2]), (2, .row 102 3 (List.map e_Finding r74))]])]] [] (an (an (nl_Findings_2_ok 1 u38 r62 h63) (an (Eq.refl ([iT 1, .v (.ptr 4 0)] : List TV)) (Eq.refl (renH (asg [(0, 4), (1, 3)]) [(0, .cells 98 [.rt 1]), (1, .map (keys PG 3) (encM kv_i64 dv_sl_Pin u38))])))) (an (Eq.refl ([(4, .cells 98 [.rt 3]), (3, .map (keys PG 3) (encM kv_i64 dv_sl_Pin u38))] : Hp)) (an h64 (an h64 (an (leni_eq e_Pin u37) (an h64 (an h64 (an (an (nl_Findings_2_ok 3 u38 r65 h66) (an (Eq.refl ([iT 3, .v (.ptr 4 0)] : List TV)) (Eq.refl (renH (asg [(0, 4), (1, 3)]) [(0, .cells 98 [.rt 1]), (1, .map (keys PG 3) (encM kv_i64 dv_sl_Pin u38))])))) (an (Eq.refl ([(4, .cells 98 [.rt 3]), (3, .map (keys PG 3) (encM kv_i64 dv_sl_Pin u38))] : Hp)) (an h64 (an h64 (an h64 (an (an (nl_Findings_2_ok 6 u38 r67 h68) (an (Eq.refl ([iT 6, .v (.ptr 4 0)] : List TV)) (Eq.refl (renH (asg [(0, 4), (1, 3)]) [(0, .cells 98 [.rt 1]), (1, .map (keys PG 3) (encM kv_i64 dv_sl_Pin u38))])))) (an (Eq.refl ([(4, .cells 98 [.rt 3]), (3, .map (keys PG 3) (encM kv_i64 dv_sl_Pin u38))] : Hp)) (an h64 (an h64 (an h64 (an (an kd_i64 (an (Eq.refl (keys PG 3)) (an (kf_i64 1 h71) (tl_none dv_sl_Pin ki_i64 h70)))) (an (Spec.fit (nl_Findings_3_ok ((w64 ((w64 ((u37.length : Int) + r65)) + r67)) == 0) 2 [] v41 x6 r74 h75) (.cons (FitT.v (FitC.same _)) (.cons (FitT.v (FitC.same _)) (.cons (FitT.v (FitC.nil 2)) (.cons (FitT.v (FitC.same _)) (.cons (FitT.v (FitC.same _)) .nil)))))) (an (Eq.refl ([bT ((w64 ((w64 ((u37.length : Int) + r65)) + r67)) == 0), iT 2, .v (.c (.nil)), .v (.ptr 0 0), .v (.c (.ptr (e_Net x6)))] : List TV)) (Eq.refl (renH (asg [(0, 0), (1, 5), (2, 6)]) [(0, .cells 39 [.rt 1]), (1, .row 102 3 (List.map e_Finding v41))])))))))))))))))))))))) (by kernel_rfl)
      · obtain ⟨h78, h60⟩ := grd_e h60
        rcases opt_e h60 with ⟨v76, h77, h60⟩ | ⟨h77, h60⟩
        · obtain ⟨r79, h80, h60⟩ := bnd_e h60
          have h60 := Option.some.inj h60
          subst h60
          exact Runs.path XTok PGmix [.d [([], []), ([], []), ([4, 3], [.kp, .call [(0, 4), (1, 3)] [iT 1, .v (.ptr 0 0)] [(0, .cells 98 [.rt 1]), (1, .map (keys PG 3) (encM kv_i64 dv_sl_Pin u38))] (iA r62) [(0, .cells 98 [.rt 1]), (1, .map (keys PG 3) (encM kv_i64 dv_sl_Pin u38))]]), ([], []), ([], []), ([], [.b false]), ([], [.b false]), ([], [.b false]), ([], [.b false]), ([], [.b false]), ([], [.b false]), ([], [.b false]), ([], [.b false]), ([], [.b false]), ([], [.b false]), ([4], []), ([3], [.look (some (dv_sl_Pin v76))]), ([0, 5], [.call [(0, 0), (1, 5), (2, 6)] [bT false, iT 2, lT 2 (List.map e_Pin v76), .v (.ptr 0 0), .v (.c (.ptr (e_Net x6)))] [(0, .cells 39 [.rt 1]), (1, .row 102 3 (List.map e_Finding v41))] (.tup []) [(0, .cells 39 [.rt 2]), (2, .row 102 3 (List.map e_Finding r79))]])]] [] (an (an (nl_Findings_2_ok 1 u38 r62 h63) (an (Eq.refl ([iT 1, .v (.ptr 4 0)] : List TV)) (Eq.refl (renH (asg [(0, 4), (1, 3)]) [(0, .cells 98 [.rt 1]), (1, .map (keys PG 3) (encM kv_i64 dv_sl_Pin u38))])))) (an (Eq.refl ([(4, .cells 98 [.rt 3]), (3, .map (keys PG 3) (encM kv_i64 dv_sl_Pin u38))] : Hp)) (an h64 (an h64 (an h64 (an h64 (an h64 (an h64 (an h64 (an h64 (an h64 (an h64 (an (an kd_i64 (an (Eq.refl (keys PG 3)) (an (kf_i64 1 h78) (tl_some dv_sl_Pin ki_i64 h77)))) (an (nl_Findings_3_ok false 2 v76 v41 x6 r79 h80) (an (Eq.refl ([bT false, iT 2, lT 2 (List.map e_Pin v76), .v (.ptr 0 0), .v (.c (.ptr (e_Net x6)))] : List TV)) (Eq.refl (renH (asg [(0, 0), (1, 5), (2, 6)]) [(0, .cells 39 [.rt 1]), (1, .row 102 3 (List.map e_Finding v41))]))))))))))))))))) (by kernel_rfl)
        · obtain ⟨r81, h82, h60⟩ := bnd_e h60
          have h60 := Option.some.inj h60
          subst h60
          exact Runs.path XTok PGmix [.d [([], []), ([], []), ([4, 3], [.kp, .call [(0, 4), (1, 3)] [iT 1, .v (.ptr 0 0)] [(0, .cells 98 [.rt 1]), (1, .map (keys PG 3) (encM kv_i64 dv_sl_Pin u38))] (iA r62) [(0, .cells 98 [.rt 1]), (1, .map (keys PG 3) (encM kv_i64 dv_sl_Pin u38))]]), ([], []), ([], []), ([], [.b false]), ([], [.b false]), ([], [.b false]), ([], [.b false]), ([], [.b false]), ([], [.b false]), ([], [.b false]), ([], [.b false]), ([], [.b false]), ([], [.b false]), ([4], []), ([3], [.look (none)]), ([0, 5], [.call [(0, 0), (1, 5), (2, 6)] [bT false, iT 2, .v (.c (.nil)), .v (.ptr 0 0), .v (.c (.ptr (e_Net x6)))] [(0, .cells 39 [.rt 1]), (1, .row 102 3 (List.map e_Finding v41))] (.tup []) [(0, .cells 39 [.rt 2]), (2, .row 102 3 (List.map e_Finding r81))]])]] [] (an (an (nl_Findings_2_ok 1 u38 r62 h63) (an (Eq.refl ([iT 1, .v (.ptr 4 0)] : List TV)) (Eq.refl (renH (asg [(0, 4), (1, 3)]) [(0, .cells 98 [.rt 1]), (1, .map (keys PG 3) (encM kv_i64 dv_sl_Pin u38))])))) (an (Eq.refl ([(4, .cells 98 [.rt 3]), (3, .map (keys PG 3) (encM kv_i64 dv_sl_Pin u38))] : Hp)) (an h64 (an h64 (an h64 (an h64 (an h64 (an h64 (an h64 (an h64 (an h64 (an h64 (an (an kd_i64 (an (Eq.refl (keys PG 3)) (an (kf_i64 1 h78) (tl_none dv_sl_Pin ki_i64 h77)))) (an (Spec.fit (nl_Findings_3_ok false 2 [] v41 x6 r81 h82) (.cons (FitT.v (FitC.same _)) (.cons (FitT.v (FitC.same _)) (.cons (FitT.v (FitC.nil 2)) (.cons (FitT.v (FitC.same _)) (.cons (FitT.v (FitC.same _)) .nil)))))) (an (Eq.refl ([bT false, iT 2, .v (.c (.nil)), .v (.ptr 0 0), .v (.c (.ptr (e_Net x6)))] : List TV)) (Eq.refl (renH (asg [(0, 0), (1, 5), (2, 6)]) [(0, .cells 39 [.rt 1]), (1, .row 102 3 (List.map e_Finding v41))]))))))))))))))))) (by kernel_rfl)
    obtain ⟨v84, h85, h⟩ := bnd1_e h
    let q106_f : Fr := [(2, .t (.v (.c (.ptr [.sl 2 (List.map e_PartType a0)])))), (3, .t (.v (.c (.ptr (e_Netlist a1))))), (7, .t (.v (.c (.fn 56 [.ptr [.sl 2 (List.map e_PartType a0)], .ptr (e_Netlist a1)])))), (8, .t (.v (.ptr 0 0))), (10, .t (.v (.c (.ptr (e_Net x6))))), (11, .t (.v (.ptr 4 0))), (16, .t (.v (.fn 60 [.own 4]))), (17, .t (.v (.fn 61 [.own 0, .c (.ptr (e_Net x6))]))), (29, lA 3 (List.map e_Net a1.Nets)), (30, iA (a1.Nets.length : Int)), (31, iA (i4 : Int))]
    let q106_g : Hp := [(0, .cells 39 [.rt 6]), (6, .row 102 3 (List.map e_Finding v59)), (3, .map (keys PG 3) (encM kv_i64 dv_sl_Pin u38)), (4, .cells 98 [.rt 3])]
    let q106_f' : Fr := [(2, .t (.v (.c (.ptr [.sl 2 (List.map e_PartType a0)])))), (3, .t (.v (.c (.ptr (e_Netlist a1))))), (7, .t (.v (.c (.fn 56 [.ptr [.sl 2 (List.map e_PartType a0)], .ptr (e_Netlist a1)])))), (8, .t (.v (.ptr 0 0))), (10, .t (.v (.c (.ptr (e_Net x6))))), (11, .t (.v (.ptr 4 0))), (16, .t (.v (.fn 60 [.own 4]))), (17, .t (.v (.fn 61 [.own 0, .c (.ptr (e_Net x6))]))), (29, lA 3 (List.map e_Net a1.Nets)), (30, iA (a1.Nets.length : Int)), (31, iA (i4 : Int))]
    let q106_g' : Hp := [(0, .cells 39 [.rt 7]), (7, .row 102 3 (List.map e_Finding v84)), (3, .map (keys PG 3) (encM kv_i64 dv_sl_Pin u38)), (4, .cells 98 [.rt 3])]
    have R86 : Runs PG 159 0 (cL (cR (cR (cR (cR (cR (cR (cR (cR (cL (cL (cR (cR nl_Findings_c0))))))))))))) q106_f q106_g (.nor q106_f' q106_g') := by
      obtain ⟨r87, h88, h85⟩ := bnd_e h85
      rcases cnd_e h85 with ⟨h89, h85⟩ | ⟨h89, h85⟩
      · obtain ⟨r90, h91, h85⟩ := bnd_e h85
        obtain ⟨h94, h85⟩ := grd_e h85
        rcases opt_e h85 with ⟨v92, h93, h85⟩ | ⟨h93, h85⟩
        · obtain ⟨r95, h96, h85⟩ := bnd_e h85
          have h85 := Option.some.inj h85
          subst h85
          exact Runs.path XTok PGmix [.d [([], []), ([], []), ([4, 3], [.kp, .call [(0, 4), (1, 3)] [iT 4, .v (.ptr 0 0)] [(0, .cells 98 [.rt 1]), (1, .map (keys PG 3) (encM kv_i64 dv_sl_Pin u38))] (iA r87) [(0, .cells 98 [.rt 1]), (1, .map (keys PG 3) (encM kv_i64 dv_sl_Pin u38))]]), ([], []), ([], []), ([], [.b true]), ([4, 3], [.b true, .kp, .call [(0, 4), (1, 3)] [iT 5, .v (.ptr 0 0)] [(0, .cells 98 [.rt 1]), (1, .map (keys PG 3) (encM kv_i64 dv_sl_Pin u38))] (iA r90) [(0, .cells 98 [.rt 1]), (1, .map (keys PG 3) (encM kv_i64 dv_sl_Pin u38))]]), ([], [.b true]), ([], [.b true]), ([4], []), ([3], [.look (some (dv_sl_Pin v92))]), ([0, 6], [.call [(0, 0), (1, 6), (2, 7)] [bT (r90 == 0), iT 3, lT 2 (List.map e_Pin v92), .v (.ptr 0 0), .v (.c (.ptr (e_Net x6)))] [(0, .cells 39 [.rt 1]), (1, .row 102 3 (List.map e_Finding v59))] (.tup []) [(0, .cells 39 [.rt 2]), (2, .row 102 3 (List.map e_Finding r95))]])]] [] (an (an (nl_Findings_2_ok 4 u38 r87 h88) (an (Eq.refl ([iT 4, .v (.ptr 4 0)] : List TV)) (Eq.refl (renH (asg [(0, 4), (1, 3)]) [(0, .cells 98 [.rt 1]), (1, .map (keys PG 3) (encM kv_i64 dv_sl_Pin u38))])))) (an (Eq.refl ([(4, .cells 98 [.rt 3]), (3, .map (keys PG 3) (encM kv_i64 dv_sl_Pin u38))] : Hp)) (an h89 (an h89 (an (an (nl_Findings_2_ok 5 u38 r90 h91) (an (Eq.refl ([iT 5, .v (.ptr 4 0)] : List TV)) (Eq.refl (renH (asg [(0, 4), (1, 3)]) [(0, .cells 98 [.rt 1]), (1, .map (keys PG 3) (encM kv_i64 dv_sl_Pin u38))])))) (an (Eq.refl ([(4, .cells 98 [.rt 3]), (3, .map (keys PG 3) (encM kv_i64 dv_sl_Pin u38))] : Hp)) (an h89 (an h89 (an (an kd_i64 (an (Eq.refl (keys PG 3)) (an (kf_i64 4 h94) (tl_some dv_sl_Pin ki_i64 h93)))) (an (nl_Findings_3_ok (r90 == 0) 3 v92 v59 x6 r95 h96) (an (Eq.refl ([bT (r90 == 0), iT 3, lT 2 (List.map e_Pin v92), .v (.ptr 0 0), .v (.c (.ptr (e_Net x6)))] : List TV)) (Eq.refl (renH (asg [(0, 0), (1, 6), (2, 7)]) [(0, .cells 39 [.rt 1]), (1, .row 102 3 (List.map e_Finding v59))]))))))))))))) (by kernel_rfl)
        · obtain ⟨r97, h98, h85⟩ := bnd_e h85
          have h85 := Option.some.inj h85
          subst h85
          exact Runs.path XTok PGmix [.d [([], []), ([], []), ([4, 3], [.kp, .call [(0, 4), (1, 3)] [iT 4, .v (.ptr 0 0)] [(0, .cells 98 [.rt 1]), (1, .map (keys PG 3) (encM kv_i64 dv_sl_Pin u38))] (iA r87) [(0, .cells 98 [.rt 1]), (1, .map (keys PG 3) (encM kv_i64 dv_sl_Pin u38))]]), ([], []), ([], []), ([], [.b true]), ([4, 3], [.b true, .kp, .call [(0, 4), (1, 3)] [iT 5, .v (.ptr 0 0)] [(0, .cells 98 [.rt 1]), (1, .map (keys PG 3) (encM kv_i64 dv_sl_Pin u38))] (iA r90) [(0, .cells 98 [.rt 1]), (1, .map (keys PG 3) (encM kv_i64 dv_sl_Pin u38))]]), ([], [.b true]), ([], [.b true]), ([4], []), ([3], [.look (none)]), ([0, 6], [.call [(0, 0), (1, 6), (2, 7)] [bT (r90 == 0), iT 3, .v (.c (.nil)), .v (.ptr 0 0), .v (.c (.ptr (e_Net x6)))] [(0, .cells 39 [.rt 1]), (1, .row 102 3 (List.map e_Finding v59))] (.tup []) [(0, .cells 39 [.rt 2]), (2, .row 102 3 (List.map e_Finding r97))]])]] [] (an (an (nl_Findings_2_ok 4 u38 r87 h88) (an (Eq.refl ([iT 4, .v (.ptr 4 0)] : List TV)) (Eq.refl (renH (asg [(0, 4), (1, 3)]) [(0, .cells 98 [.rt 1]), (1, .map (keys PG 3) (encM kv_i64 dv_sl_Pin u38))])))) (an (Eq.refl ([(4, .cells 98 [.rt 3]), (3, .map (keys PG 3) (encM kv_i64 dv_sl_Pin u38))] : Hp)) (an h89 (an h89 (an (an (nl_Findings_2_ok 5 u38 r90 h91) (an (Eq.refl ([iT 5, .v (.ptr 4 0)] : List TV)) (Eq.refl (renH (asg [(0, 4), (1, 3)]) [(0, .cells 98 [.rt 1]), (1, .map (keys PG 3) (encM kv_i64 dv_sl_Pin u38))])))) (an (Eq.refl ([(4, .cells 98 [.rt 3]), (3, .map (keys PG 3) (encM kv_i64 dv_sl_Pin u38))] : Hp)) (an h89 (an h89 (an (an kd_i64 (an (Eq.refl (keys PG 3)) (an (kf_i64 4 h94) (tl_none dv_sl_Pin ki_i64 h93)))) (an (Spec.fit (nl_Findings_3_ok (r90 == 0) 3 [] v59 x6 r97 h98) (.cons (FitT.v (FitC.same _)) (.cons (FitT.v (FitC.same _)) (.cons (FitT.v (FitC.nil 2)) (.cons (FitT.v (FitC.same _)) (.cons (FitT.v (FitC.same _)) .nil)))))) (an (Eq.refl ([bT (r90 == 0), iT 3, .v (.c (.nil)), .v (.ptr 0 0), .v (.c (.ptr (e_Net x6)))] : List TV)) (Eq.refl (renH (asg [(0, 0), (1, 6), (2, 7)]) [(0, .cells 39 [.rt 1]), (1, .row 102 3 (List.map e_Finding v59))]))))))))))))) (by kernel_rfl)
      · obtain ⟨h101, h85⟩ := grd_e h85
        rcases opt_e h85 with ⟨v99, h100, h85⟩ | ⟨h100, h85⟩
        · obtain ⟨r102, h103, h85⟩ := bnd_e h85
          have h85 := Option.some.inj h85
          subst h85
          exact Runs.path XTok PGmix [.d [([], []), ([], []), ([4, 3], [.kp, .call [(0, 4), (1, 3)] [iT 4, .v (.ptr 0 0)] [(0, .cells 98 [.rt 1]), (1, .map (keys PG 3) (encM kv_i64 dv_sl_Pin u38))] (iA r87) [(0, .cells 98 [.rt 1]), (1, .map (keys PG 3) (encM kv_i64 dv_sl_Pin u38))]]), ([], []), ([], []), ([], [.b false]), ([], [.b false]), ([], [.b false]), ([], [.b false]), ([4], []), ([3], [.look (some (dv_sl_Pin v99))]), ([0, 6], [.call [(0, 0), (1, 6), (2, 7)] [bT false, iT 3, lT 2 (List.map e_Pin v99), .v (.ptr 0 0), .v (.c (.ptr (e_Net x6)))] [(0, .cells 39 [.rt 1]), (1, .row 102 3 (List.map e_Finding v59))] (.tup []) [(0, .cells 39 [.rt 2]), (2, .row 102 3 (List.map e_Finding r102))]])]] [] (an (an (nl_Findings_2_ok 4 u38 r87 h88) (an (Eq.refl ([iT 4, .v (.ptr 4 0)] : List TV)) (Eq.refl (renH (asg [(0, 4), (1, 3)]) [(0, .cells 98 [.rt 1]), (1, .map (keys PG 3) (encM kv_i64 dv_sl_Pin u38))])))) (an (Eq.refl ([(4, .cells 98 [.rt 3]), (3, .map (keys PG 3) (encM kv_i64 dv_sl_Pin u38))] : Hp)) (an h89 (an h89 (an h89 (an h89 (an (an kd_i64 (an (Eq.refl (keys PG 3)) (an (kf_i64 4 h101) (tl_some dv_sl_Pin ki_i64 h100)))) (an (nl_Findings_3_ok false 3 v99 v59 x6 r102 h103) (an (Eq.refl ([bT false, iT 3, lT 2 (List.map e_Pin v99), .v (.ptr 0 0), .v (.c (.ptr (e_Net x6)))] : List TV)) (Eq.refl (renH (asg [(0, 0), (1, 6), (2, 7)]) [(0, .cells 39 [.rt 1]), (1, .row 102 3 (List.map e_Finding v59))]))))))))))) (by kernel_rfl)
        · obtain ⟨r104, h105, h85⟩ := bnd_e h85
          have h85 := Option.some.inj h85
          subst h85
          exact Runs.path XTok PGmix [.d [([], []), ([], []), ([4, 3], [.kp, .call [(0, 4), (1, 3)] [iT 4, .v (.ptr 0 0)] [(0, .cells 98 [.rt 1]), (1, .map (keys PG 3) (encM kv_i64 dv_sl_Pin u38))] (iA r87) [(0, .cells 98 [.rt 1]), (1, .map (keys PG 3) (encM kv_i64 dv_sl_Pin u38))]]), ([], []), ([], []), ([], [.b false]), ([], [.b false]), ([], [.b false]), ([], [.b false]), ([4], []), ([3], [.look (none)]), ([0, 6], [.call [(0, 0), (1, 6), (2, 7)] [bT false, iT 3, .v (.c (.nil)), .v (.ptr 0 0), .v (.c (.ptr (e_Net x6)))] [(0, .cells 39 [.rt 1]), (1, .row 102 3 (List.map e_Finding v59))] (.tup []) [(0, .cells 39 [.rt 2]), (2, .row 102 3 (List.map e_Finding r104))]])]] [] (an (an (nl_Findings_2_ok 4 u38 r87 h88) (an (Eq.refl ([iT 4, .v (.ptr 4 0)] : List TV)) (Eq.refl (renH (asg [(0, 4), (1, 3)]) [(0, .cells 98 [.rt 1]), (1, .map (keys PG 3) (encM kv_i64 dv_sl_Pin u38))])))) (an (Eq.refl ([(4, .cells 98 [.rt 3]), (3, .map (keys PG 3) (encM kv_i64 dv_sl_Pin u38))] : Hp)) (an h89 (an h89 (an h89 (an h89 (an (an kd_i64 (an (Eq.refl (keys PG 3)) (an (kf_i64 4 h101) (tl_none dv_sl_Pin ki_i64 h100)))) (an (Spec.fit (nl_Findings_3_ok false 3 [] v59 x6 r104 h105) (.cons (FitT.v (FitC.same _)) (.cons (FitT.v (FitC.same _)) (.cons (FitT.v (FitC.nil 2)) (.cons (FitT.v (FitC.same _)) (.cons (FitT.v (FitC.same _)) .nil)))))) (an (Eq.refl ([bT false, iT 3, .v (.c (.nil)), .v (.ptr 0 0), .v (.c (.ptr (e_Net x6)))] : List TV)) (Eq.refl (renH (asg [(0, 0), (1, 6), (2, 7)]) [(0, .cells 39 [.rt 1]), (1, .row 102 3 (List.map e_Finding v59))]))))))))))) (by kernel_rfl)
    obtain ⟨v107, h108, h⟩ := bnd1_e h
    let q119_f : Fr := [(2, .t (.v (.c (.ptr [.sl 2 (List.map e_PartType a0)])))), (3, .t (.v (.c (.ptr (e_Netlist a1))))), (7, .t (.v (.c (.fn 56 [.ptr [.sl 2 (List.map e_PartType a0)], .ptr (e_Netlist a1)])))), (8, .t (.v (.ptr 0 0))), (10, .t (.v (.c (.ptr (e_Net x6))))), (11, .t (.v (.ptr 4 0))), (16, .t (.v (.fn 60 [.own 4]))), (17, .t (.v (.fn 61 [.own 0, .c (.ptr (e_Net x6))]))), (29, lA 3 (List.map e_Net a1.Nets)), (30, iA (a1.Nets.length : Int)), (31, iA (i4 : Int))]
    let q119_g : Hp := [(0, .cells 39 [.rt 7]), (7, .row 102 3 (List.map e_Finding v84)), (3, .map (keys PG 3) (encM kv_i64 dv_sl_Pin u38)), (4, .cells 98 [.rt 3])]
    let q119_f' : Fr := [(2, .t (.v (.c (.ptr [.sl 2 (List.map e_PartType a0)])))), (3, .t (.v (.c (.ptr (e_Netlist a1))))), (7, .t (.v (.c (.fn 56 [.ptr [.sl 2 (List.map e_PartType a0)], .ptr (e_Netlist a1)])))), (8, .t (.v (.ptr 0 0))), (10, .t (.v (.c (.ptr (e_Net x6))))), (16, .t (.v (.fn 60 [.own 4]))), (17, .t (.v (.fn 61 [.own 0, .c (.ptr (e_Net x6))]))), (29, lA 3 (List.map e_Net a1.Nets)), (30, iA (a1.Nets.length : Int)), (31, iA (i4 : Int))]
    let q119_g' : Hp := [(0, .cells 39 [.rt 8]), (8, .row 102 3 (List.map e_Finding v107)), (3, .map (keys PG 3) (encM kv_i64 dv_sl_Pin u38)), (4, .cells 98 [.rt 3])]
    have R109 : Runs PG 159 0 (cL (cR (cR (cR (cR (cR (cR (cR (cR (cR (cL (cL (cR (cR nl_Findings_c0)))))))))))))) q119_f q119_g (.nor q119_f' q119_g') := by
      obtain ⟨r110, h111, h108⟩ := bnd_e h108
      obtain ⟨h114, h108⟩ := grd_e h108
      rcases opt_e h108 with ⟨v112, h113, h108⟩ | ⟨h113, h108⟩
      · obtain ⟨r115, h116, h108⟩ := bnd_e h108
        have h108 := Option.some.inj h108
        subst h108
        exact Runs.path XTok PGmix [.d [([], []), ([], []), ([4, 3], [.kp, .call [(0, 4), (1, 3)] [iT 7, .v (.ptr 0 0)] [(0, .cells 98 [.rt 1]), (1, .map (keys PG 3) (encM kv_i64 dv_sl_Pin u38))] (iA r110) [(0, .cells 98 [.rt 1]), (1, .map (keys PG 3) (encM kv_i64 dv_sl_Pin u38))]]), ([], []), ([4], []), ([3], [.look (some (dv_sl_Pin v112))]), ([0, 7], [.call [(0, 0), (1, 7), (2, 8)] [bT (decide (r110 > 0)), iT 4, lT 2 (List.map e_Pin v112), .v (.ptr 0 0), .v (.c (.ptr (e_Net x6)))] [(0, .cells 39 [.rt 1]), (1, .row 102 3 (List.map e_Finding v84))] (.tup []) [(0, .cells 39 [.rt 2]), (2, .row 102 3 (List.map e_Finding r115))]])]] [] (an (an (nl_Findings_2_ok 7 u38 r110 h111) (an (Eq.refl ([iT 7, .v (.ptr 4 0)] : List TV)) (Eq.refl (renH (asg [(0, 4), (1, 3)]) [(0, .cells 98 [.rt 1]), (1, .map (keys PG 3) (encM kv_i64 dv_sl_Pin u38))])))) (an (Eq.refl ([(4, .cells 98 [.rt 3]), (3, .map (keys PG 3) (encM kv_i64 dv_sl_Pin u38))] : Hp)) (an (an kd_i64 (an (Eq.refl (keys PG 3)) (an (kf_i64 7 h114) (tl_some dv_sl_Pin ki_i64 h113)))) (an (nl_Findings_3_ok (decide (r110 > 0)) 4 v112 v84 x6 r115 h116) (an (Eq.refl ([bT (decide (r110 > 0)), iT 4, lT 2 (List.map e_Pin v112), .v (.ptr 0 0), .v (.c (.ptr (e_Net x6)))] : List TV)) (Eq.refl (renH (asg [(0, 0), (1, 7), (2, 8)]) [(0, .cells 39 [.rt 1]), (1, .row 102 3 (List.map e_Finding v84))]))))))) (by kernel_rfl)
      · obtain ⟨r117, h118, h108⟩ := bnd_e h108
        have h108 := Option.some.inj h108
        subst h108
        exact Runs.path XTok PGmix [.d [([], []), ([], []), ([4, 3], [.kp, .call [(0, 4), (1, 3)] [iT 7, .v (.ptr 0 0)] [(0, .cells 98 [.rt 1]), (1, .map (keys PG 3) (encM kv_i64 dv_sl_Pin u38))] (iA r110) [(0, .cells 98 [.rt 1]), (1, .map (keys PG 3) (encM kv_i64 dv_sl_Pin u38))]]), ([], []), ([4], []), ([3], [.look (none)]), ([0, 7], [.call [(0, 0), (1, 7), (2, 8)] [bT (decide (r110 > 0)), iT 4, .v (.c (.nil)), .v (.ptr 0 0), .v (.c (.ptr (e_Net x6)))] [(0, .cells 39 [.rt 1]), (1, .row 102 3 (List.map e_Finding v84))] (.tup []) [(0, .cells 39 [.rt 2]), (2, .row 102 3 (List.map e_Finding r117))]])]] [] (an (an (nl_Findings_2_ok 7 u38 r110 h111) (an (Eq.refl ([iT 7, .v (.ptr 4 0)] : List TV)) (Eq.refl (renH (asg [(0, 4), (1, 3)]) [(0, .cells 98 [.rt 1]), (1, .map (keys PG 3) (encM kv_i64 dv_sl_Pin u38))])))) (an (Eq.refl ([(4, .cells 98 [.rt 3]), (3, .map (keys PG 3) (encM kv_i64 dv_sl_Pin u38))] : Hp)) (an (an kd_i64 (an (Eq.refl (keys PG 3)) (an (kf_i64 7 h114) (tl_none dv_sl_Pin ki_i64 h113)))) (an (Spec.fit (nl_Findings_3_ok (decide (r110 > 0)) 4 [] v84 x6 r117 h118) (.cons (FitT.v (FitC.same _)) (.cons (FitT.v (FitC.same _)) (.cons (FitT.v (FitC.nil 2)) (.cons (FitT.v (FitC.same _)) (.cons (FitT.v (FitC.same _)) .nil)))))) (an (Eq.refl ([bT (decide (r110 > 0)), iT 4, .v (.c (.nil)), .v (.ptr 0 0), .v (.c (.ptr (e_Net x6)))] : List TV)) (Eq.refl (renH (asg [(0, 0), (1, 7), (2, 8)]) [(0, .cells 39 [.rt 1]), (1, .row 102 3 (List.map e_Finding v84))]))))))) (by kernel_rfl)
    obtain ⟨v120, h121, h⟩ := bnd1_e h
    let q130_f : Fr := [(2, .t (.v (.c (.ptr [.sl 2 (List.map e_PartType a0)])))), (3, .t (.v (.c (.ptr (e_Netlist a1))))), (7, .t (.v (.c (.fn 56 [.ptr [.sl 2 (List.map e_PartType a0)], .ptr (e_Netlist a1)])))), (8, .t (.v (.ptr 0 0))), (10, .t (.v (.c (.ptr (e_Net x6))))), (16, .t (.v (.fn 60 [.own 4]))), (17, .t (.v (.fn 61 [.own 0, .c (.ptr (e_Net x6))]))), (29, lA 3 (List.map e_Net a1.Nets)), (30, iA (a1.Nets.length : Int)), (31, iA (i4 : Int))]
    let q130_g : Hp := [(0, .cells 39 [.rt 8]), (8, .row 102 3 (List.map e_Finding v107)), (3, .map (keys PG 3) (encM kv_i64 dv_sl_Pin u38)), (4, .cells 98 [.rt 3])]
    let q130_f' : Fr := [(2, .t (.v (.c (.ptr [.sl 2 (List.map e_PartType a0)])))), (3, .t (.v (.c (.ptr (e_Netlist a1))))), (7, .t (.v (.c (.fn 56 [.ptr [.sl 2 (List.map e_PartType a0)], .ptr (e_Netlist a1)])))), (8, .t (.v (.ptr 0 0))), (29, lA 3 (List.map e_Net a1.Nets)), (30, iA (a1.Nets.length : Int)), (31, iA (i4 : Int))]
    let q130_g' : Hp := [(0, .cells 39 [.rt 9]), (9, .row 102 3 (List.map e_Finding v120))]
    have R122 : Runs PG 159 0 (cR (cR (cR (cR (cR (cR (cR (cR (cR (cR (cL (cL (cR (cR nl_Findings_c0)))))))))))))) q130_f q130_g (.nor q130_f' q130_g') := by
      rcases cnd_e h121 with ⟨h123, h121⟩ | ⟨h123, h121⟩
      · obtain ⟨r124, h125, h121⟩ := bnd_e h121
        obtain ⟨r126, h127, h121⟩ := bnd_e h121
        have h121 := Option.some.inj h121
        subst h121
        exact Runs.path XTok PGmix [.d [([], []), ([], []), ([], []), ([], [.eq 123 (iA (x6.Pins.length : Int))]), ([], []), ([], []), ([], [.b true]), ([4, 3], [.b true, .kp, .call [(0, 4), (1, 3)] [iT 7, .v (.ptr 0 0)] [(0, .cells 98 [.rt 1]), (1, .map (keys PG 3) (encM kv_i64 dv_sl_Pin u38))] (iA r124) [(0, .cells 98 [.rt 1]), (1, .map (keys PG 3) (encM kv_i64 dv_sl_Pin u38))]]), ([], [.b true]), ([], [.b true]), ([], []), ([], []), ([0, 8], [.call [(0, 0), (1, 8), (2, 9)] [bT (r124 == 0), iT 5, lT 2 (List.map e_Pin x6.Pins), .v (.ptr 0 0), .v (.c (.ptr (e_Net x6)))] [(0, .cells 39 [.rt 1]), (1, .row 102 3 (List.map e_Finding v107))] (.tup []) [(0, .cells 39 [.rt 2]), (2, .row 102 3 (List.map e_Finding r126))]])]] [] (an (leni_eq e_Pin x6.Pins) (an h123 (an h123 (an (an (nl_Findings_2_ok 7 u38 r124 h125) (an (Eq.refl ([iT 7, .v (.ptr 4 0)] : List TV)) (Eq.refl (renH (asg [(0, 4), (1, 3)]) [(0, .cells 98 [.rt 1]), (1, .map (keys PG 3) (encM kv_i64 dv_sl_Pin u38))])))) (an (Eq.refl ([(4, .cells 98 [.rt 3]), (3, .map (keys PG 3) (encM kv_i64 dv_sl_Pin u38))] : Hp)) (an h123 (an h123 (an (nl_Findings_3_ok (r124 == 0) 5 x6.Pins v107 x6 r126 h127) (an (Eq.refl ([bT (r124 == 0), iT 5, lT 2 (List.map e_Pin x6.Pins), .v (.ptr 0 0), .v (.c (.ptr (e_Net x6)))] : List TV)) (Eq.refl (renH (asg [(0, 0), (1, 8), (2, 9)]) [(0, .cells 39 [.rt 1]), (1, .row 102 3 (List.map e_Finding v107))]))))))))))) (by kernel_rfl)
      · obtain ⟨r128, h129, h121⟩ := bnd_e h121
        have h121 := Option.some.inj h121
        subst h121
        exact Runs.path XTok PGmix [.d [([], []), ([], []), ([], []), ([], [.eq 123 (iA (x6.Pins.length : Int))]), ([], []), ([], []), ([], [.b false]), ([], [.b false]), ([], [.b false]), ([], [.b false]), ([], []), ([], []), ([0, 8], [.call [(0, 0), (1, 8), (2, 9)] [bT false, iT 5, lT 2 (List.map e_Pin x6.Pins), .v (.ptr 0 0), .v (.c (.ptr (e_Net x6)))] [(0, .cells 39 [.rt 1]), (1, .row 102 3 (List.map e_Finding v107))] (.tup []) [(0, .cells 39 [.rt 2]), (2, .row 102 3 (List.map e_Finding r128))]])]] [] (an (leni_eq e_Pin x6.Pins) (an h123 (an h123 (an h123 (an h123 (an (nl_Findings_3_ok false 5 x6.Pins v107 x6 r128 h129) (an (Eq.refl ([bT false, iT 5, lT 2 (List.map e_Pin x6.Pins), .v (.ptr 0 0), .v (.c (.ptr (e_Net x6)))] : List TV)) (Eq.refl (renH (asg [(0, 0), (1, 8), (2, 9)]) [(0, .cells 39 [.rt 1]), (1, .row 102 3 (List.map e_Finding v107))]))))))))) (by kernel_rfl)
    have h := Option.some.inj h
    subst h
    exact Runs.path XTok PGmix [.r [], .b true, .r [.el (e_Net x6), .id 2], .r [.id 3, .id 4], .g (.mw 3 28 2), .r [.mk 5 28 2], .r [.eq 38 (iA (x6.Pins.length : Int))], .s (nl_Findings_F1 a0 a1 i4 y5 x6 0 [] []) (nl_Findings_H1 a0 a1 i4 y5 x6 0 [] []) [] (nl_Findings_B1 a0 a1 i4 y5 x6 (u37, u38)), .g (.mz 3), .r [], .fb 2, .r [], .s q58_f q58_g [] (.nor q58_f' q58_g'), .s q83_f q83_g [] (.nor q83_f' q83_g'), .s q106_f q106_g [] (.nor q106_f' q106_g'), .s q119_f q119_g [] (.nor q119_f' q119_g'), .s q130_f q130_g [] (.nor q130_f' q130_g'), .r [.eq 133 (iA ((i4 + 1 : Nat) : Int))]] [(1, 9)] (an (lt_true hi) (an (idx_ok e_Net h7) (an (leni_eq e_Pin x6.Pins) (an (nl_Findings_l1 a0 a1 i4 y5 x6 [] [] (.fin (u37, u38)) h39) (an R43 (an R61 (an R86 (an R109 (an R122 (wrap_eq hi hM)))))))))) (by kernel_rfl)
  · have h := Option.some.inj h
    subst h
    exact Runs.path XTok PGmix [.r [], .b true, .r [.el (e_Net x6), .id 2], .r [.id 3, .id 4], .g (.mw 3 28 2), .r [.mk 5 28 2], .r [.eq 38 (iA (x6.Pins.length : Int))], .s (nl_Findings_F1 a0 a1 i4 y5 x6 0 [] []) (nl_Findings_H1 a0 a1 i4 y5 x6 0 [] []) [] (nl_Findings_R r40)] [] (an (lt_true hi) (an (idx_ok e_Net h7) (an (leni_eq e_Pin x6.Pins) (nl_Findings_l1 a0 a1 i4 y5 x6 [] [] (.ret r40) h39)))) (by kernel_rfl)
theorem nl_Findings_b0_e (a0 : List PartType) (a1 : Netlist) (y5 : List Finding) : Runs PG 159 0 nl_Findings_c0 (nl_Findings_F0 a0 a1 (a1.Nets.length) y5) (nl_Findings_H0 a0 a1 (a1.Nets.length) y5) (nl_Findings_B0 a0 a1 y5) := by
  exact Runs.path XTok PGmix [.r [], .b false] [] (lt_false (a1.Nets.length)) (by kernel_rfl)
theorem nl_Findings_l0 (a0 : List PartType) (a1 : Netlist) (y5 : List Finding) (r : Fin' (List Finding) (List Finding × Int)) (h : forN (fun i4 s => nl_Findings_b0 a0 a1 i4 s) (a1.Nets.length) 0 y5 = some r) : Runs PG 159 0 (cL (cR (cL (cR (cR (cR (cR nl_Findings_c))))))) (nl_Findings_F0 a0 a1 0 y5) (nl_Findings_H0 a0 a1 0 y5) (finOc (nl_Findings_B0 a0 a1) nl_Findings_R r) :=
  Runs.loop' (by kernel_rfl) (forN_rounds (σ := (List Finding)) (ρ := (List Finding × Int)) (body := fun i4 s => nl_Findings_b0 a0 a1 i4 s) (F := fun i4 s => nl_Findings_F0 a0 a1 i4 s) (H := fun i4 s => nl_Findings_H0 a0 a1 i4 s) (B := nl_Findings_B0 a0 a1) (R := nl_Findings_R) (M := a1.Nets.length) (fun _ => rfl) (fun _ => rfl) (fun s => nl_Findings_b0_e a0 a1 s) (fun i s o hi h => nl_Findings_b0_r a0 a1 i s o hi h) _ 0 _ r (Nat.zero_add _) h)
noncomputable def nl_Findings_c2 : Code := cL (cL (cR (cL (cR (cR (cR (cR (cR nl_Findings_c))))))))
noncomputable def nl_Findings_F2 (a0 : List PartType) (a1 : Netlist) (r134 : List Pin) (i136 : Nat) (y137 : List Finding) : Fr := [(7, .t (.v (.c (.fn 56 [.ptr [.sl 2 (List.map e_PartType a0)], .ptr (e_Netlist a1)])))), (8, .t (.v (.ptr 0 0))), (136, lA 2 (List.map e_Pin r134)), (137, iA (r134.length : Int)), (138, iA (i136 : Int))]
noncomputable def nl_Findings_H2 (a0 : List PartType) (a1 : Netlist) (r134 : List Pin) (i136 : Nat) (y137 : List Finding) : Hp := [(0, .cells 39 [.rt 1]), (1, .row 102 3 (List.map e_Finding y137))]
noncomputable def nl_Findings_B2 (a0 : List PartType) (a1 : Netlist) (r134 : List Pin) (s : List Finding) : Oc := .ex 4 [(8, .t (.v (.ptr 0 0)))] [(0, .cells 39 [.rt 1]), (1, .row 102 3 (List.map e_Finding s))]
noncomputable def nl_Findings_b2 (a0 : List PartType) (a1 : Netlist) (r134 : List Pin) (i136 : Nat) (y137 : List Finding) : Option (Stp (List Finding) (List Finding × Int)) :=
 bnd (atI r134 (i136 : Int)) fun x138 =>
 bnd (nl_Findings_1 x138 a0 a1) fun r140 =>
 bnd1 (cnd (r140 != 7) (some (r140 != 6)) (some false)) fun v142 =>
 bnd1 (cnd v142 (grd (y137.length + ([(⟨6, (⟨#[]⟩ : ByteArray), [x138]⟩ : Finding)]).length ≤ lim) <|
 some (y137 ++ ([(⟨6, (⟨#[]⟩ : ByteArray), [x138]⟩ : Finding)]))) (some y137)) fun v147 =>
 some (.go v147)
theorem nl_Findings_b2_r (a0 : List PartType) (a1 : Netlist) (r134 : List Pin) (i136 : Nat) (y137 : List Finding) (o : Stp (List Finding) (List Finding × Int)) (hi : i136 < r134.length) (h : nl_Findings_b2 a0 a1 r134 i136 y137 = some o) :
    Runs PG 159 0 nl_Findings_c2 (nl_Findings_F2 a0 a1 r134 i136 y137) (nl_Findings_H2 a0 a1 r134 i136 y137) (stpOc (fun s' => .nor (nl_Findings_F2 a0 a1 r134 (i136 + 1) s') (nl_Findings_H2 a0 a1 r134 (i136 + 1) s')) (nl_Findings_B2 a0 a1 r134) nl_Findings_R o) := by
  unfold nl_Findings_b2 at h
  refine Runs.len (s := 136) (sz := 2) (xs := List.map e_Pin r134) (by kernel_rfl) fun hl => ?_
  have hM : r134.length ≤ lim := len_of hl
  obtain ⟨x138, h139, h⟩ := bnd_e h
  obtain ⟨r140, h141, h⟩ := bnd_e h
  obtain ⟨v142, h143, h⟩ := bnd1_e h
  let q146_f : Fr := [(7, .t (.v (.c (.fn 56 [.ptr [.sl 2 (List.map e_PartType a0)], .ptr (e_Netlist a1)])))), (8, .t (.v (.ptr 0 0))), (19, .t (.v (.ptr 2 0))), (20, iA r140), (136, lA 2 (List.map e_Pin r134)), (137, iA (r134.length : Int)), (138, iA (i136 : Int))]
  let q146_g : Hp := [(0, .cells 39 [.rt 1]), (1, .row 102 3 (List.map e_Finding y137)), (2, .cells 28 [.c (sC x138.Part), .c (sC x138.Pin)])]
  let q146_f' : Fr := [(7, .t (.v (.c (.fn 56 [.ptr [.sl 2 (List.map e_PartType a0)], .ptr (e_Netlist a1)])))), (8, .t (.v (.ptr 0 0))), (19, .t (.v (.ptr 2 0))), (136, lA 2 (List.map e_Pin r134)), (137, iA (r134.length : Int)), (138, iA (i136 : Int)), (150, bA v142)]
  let q146_g' : Hp := [(0, .cells 39 [.rt 1]), (1, .row 102 3 (List.map e_Finding y137)), (2, .cells 28 [.c (sC x138.Part), .c (sC x138.Pin)])]
  have R144 : Runs PG 159 0 (cL (cR (cR (cL (cL (cR (cR nl_Findings_c2))))))) q146_f q146_g (.nor q146_f' q146_g') := by
    rcases cnd_e h143 with ⟨h145, h143⟩ | ⟨h145, h143⟩
    · have h143 := Option.some.inj h143
      subst h143
      exact Runs.path XTok PGmix [.r [.b true, .b true, .b true]] [] (an h145 (an h145 h145)) (by kernel_rfl)
    · have h143 := Option.some.inj h143
      subst h143
      exact Runs.path XTok PGmix [.r [.b false, .b false, .b false]] [] (an h145 (an h145 h145)) (by kernel_rfl)
  obtain ⟨v147, h148, h⟩ := bnd1_e h
  let q152_f : Fr := [(7, .t (.v (.c (.fn 56 [.ptr [.sl 2 (List.map e_PartType a0)], .ptr (e_Netlist a1)])))), (8, .t (.v (.ptr 0 0))), (19, .t (.v (.ptr 2 0))), (136, lA 2 (List.map e_Pin r134)), (137, iA (r134.length : Int)), (138, iA (i136 : Int)), (150, bA v142)]
  let q152_g : Hp := [(0, .cells 39 [.rt 1]), (1, .row 102 3 (List.map e_Finding y137)), (2, .cells 28 [.c (sC x138.Part), .c (sC x138.Pin)])]
  let q152_f' : Fr := [(7, .t (.v (.c (.fn 56 [.ptr [.sl 2 (List.map e_PartType a0)], .ptr (e_Netlist a1)])))), (8, .t (.v (.ptr 0 0))), (136, lA 2 (List.map e_Pin r134)), (137, iA (r134.length : Int)), (138, iA (i136 : Int))]
  let q152_g' : Hp := [(0, .cells 39 [.rt 4]), (4, .row 102 3 (List.map e_Finding v147))]
  have R149 : Runs PG 159 0 (cR (cR (cR (cL (cL (cR (cR nl_Findings_c2))))))) q152_f q152_g (.nor q152_f' q152_g') := by
    rcases cnd_e h148 with ⟨h150, h148⟩ | ⟨h150, h148⟩
    · obtain ⟨h151, h148⟩ := grd_e h148
      have h148 := Option.some.inj h148
      subst h148
      exact Runs.path XTok PGmix [.b true, .r [.id 3, .row (List.map e_Pin [x138]), .fz 3, .id 3, .row (List.map e_Finding [(⟨6, (⟨#[]⟩ : ByteArray), [x138]⟩ : Finding)]), .id 4, .row (List.map e_Finding (y137 ++ ([(⟨6, (⟨#[]⟩ : ByteArray), [x138]⟩ : Finding)])))]] [] (an h150 (an (Eq.refl (List.flatten (List.map e_Pin [x138]))) (an (Eq.refl (List.flatten (List.map e_Finding [(⟨6, (⟨#[]⟩ : ByteArray), [x138]⟩ : Finding)]))) (app_ok e_Finding h151)))) (by kernel_rfl)
    · have h148 := Option.some.inj h148
      subst h148
      exact Runs.path XTok PGmix [.b false] [(4, 1)] h150 (by kernel_rfl)
  have h := Option.some.inj h
  subst h
  exact Runs.path XTok PGmix [.r [], .b true, .r [.el (e_Pin x138), .id 2], .r [.val (iA r140)], .s q146_f q146_g [] (.nor q146_f' q146_g'), .s q152_f q152_g [] (.nor q152_f' q152_g'), .r [.eq 157 (iA ((i136 + 1 : Nat) : Int))]] [(1, 4)] (an (lt_true hi) (an (idx_ok e_Pin h139) (an (nl_Findings_1_ok x138 a0 a1 r140 h141) (an R144 (an R149 (wrap_eq hi hM)))))) (by kernel_rfl)
theorem nl_Findings_b2_e (a0 : List PartType) (a1 : Netlist) (r134 : List Pin) (y137 : List Finding) : Runs PG 159 0 nl_Findings_c2 (nl_Findings_F2 a0 a1 r134 (r134.length) y137) (nl_Findings_H2 a0 a1 r134 (r134.length) y137) (nl_Findings_B2 a0 a1 r134 y137) := by
  exact Runs.path XTok PGmix [.r [], .b false] [] (lt_false (r134.length)) (by kernel_rfl)
theorem nl_Findings_l2 (a0 : List PartType) (a1 : Netlist) (r134 : List Pin) (y137 : List Finding) (r : Fin' (List Finding) (List Finding × Int)) (h : forN (fun i136 s => nl_Findings_b2 a0 a1 r134 i136 s) (r134.length) 0 y137 = some r) : Runs PG 159 0 (cL (cR (cL (cR (cR (cR (cR (cR nl_Findings_c)))))))) (nl_Findings_F2 a0 a1 r134 0 y137) (nl_Findings_H2 a0 a1 r134 0 y137) (finOc (nl_Findings_B2 a0 a1 r134) nl_Findings_R r) :=
  Runs.loop' (by kernel_rfl) (forN_rounds (σ := (List Finding)) (ρ := (List Finding × Int)) (body := fun i136 s => nl_Findings_b2 a0 a1 r134 i136 s) (F := fun i136 s => nl_Findings_F2 a0 a1 r134 i136 s) (H := fun i136 s => nl_Findings_H2 a0 a1 r134 i136 s) (B := nl_Findings_B2 a0 a1 r134) (R := nl_Findings_R) (M := r134.length) (fun _ => rfl) (fun _ => rfl) (fun s => nl_Findings_b2_e a0 a1 r134 s) (fun i s o hi h => nl_Findings_b2_r a0 a1 r134 i s o hi h) _ 0 _ r (Nat.zero_add _) h)
noncomputable def nl_Findings (a0 : List PartType) (a1 : Netlist) : Option (List Finding × Int) :=
 bnd (nl_CheckList a0 a1) fun r1 =>
 cnd (r1 != 0) (some ([], r1)) (aft1 (forN (fun i4 s => nl_Findings_b0 a0 a1 i4 s) (a1.Nets.length) 0 []) (fun u131 =>
 bnd (nl_LooseOf a0 a1) fun r134 =>
 aft1 (forN (fun i136 s => nl_Findings_b2 a0 a1 r134 i136 s) (r134.length) 0 u131) (fun u153 =>
 some (u153, 0))
 (fun r155 =>
 some r155))
 (fun r133 =>
 some r133))
theorem nl_Findings_ok (a0 : List PartType) (a1 : Netlist) (r : List Finding × Int) (h : nl_Findings a0 a1 = some r) : Spec PG 21 [lT 2 (List.map e_PartType a0), gT (e_Netlist a1)] [] (.tup [lT 3 (List.map e_Finding r.1), iT r.2]) [] := by
  unfold nl_Findings at h
  obtain ⟨r1, h2, h⟩ := bnd_e h
  rcases cnd_e h with ⟨h3, h⟩ | ⟨h3, h⟩
  · have h := Option.some.inj h
    subst h
    exact Spec.path XTok PGmix nl_Findings_fn 0 [.r [.id 0, .id 1, .nl 3], .r [.val (iA r1)], .r [], .b true, .r [.nl 3]] (an (nl_CheckList_ok a0 a1 r1 h2) h3) (by kernel_rfl)
  · rcases aft1_e h with ⟨u131, h132, h⟩ | ⟨r133, h132, h⟩
    · obtain ⟨r134, h135, h⟩ := bnd_e h
      rcases aft1_e h with ⟨u153, h154, h⟩ | ⟨r155, h154, h⟩
      · have h := Option.some.inj h
        subst h
        exact Spec.path XTok PGmix nl_Findings_fn 0 [.r [.id 0, .id 1, .nl 3], .r [.val (iA r1)], .r [], .b false, .fb 0, .fb 1, .r [], .r [.id 0], .r [.eq 30 (iA (a1.Nets.length : Int))], .o 0 0 1 102 3, .s (nl_Findings_F0 a0 a1 0 []) (nl_Findings_H0 a0 a1 0 []) [] (nl_Findings_B0 a0 a1 u131), .r [.val (lA 2 (List.map e_Pin r134)), .eq 137 (iA (r134.length : Int))], .s (nl_Findings_F2 a0 a1 r134 0 u131) (nl_Findings_H2 a0 a1 r134 0 u131) [] (nl_Findings_B2 a0 a1 r134 u153), .r [], .f 1] (an (nl_CheckList_ok a0 a1 r1 h2) (an h3 (an (leni_eq e_Net a1.Nets) (an (nl_Findings_l0 a0 a1 [] (.fin u131) h132) (an (nl_LooseOf_ok a0 a1 r134 h135) (an (leni_eq e_Pin r134) (nl_Findings_l2 a0 a1 r134 u131 (.fin u153) h154))))))) (by kernel_rfl)
      · have h := Option.some.inj h
        subst h
        exact Spec.path XTok PGmix nl_Findings_fn 0 [.r [.id 0, .id 1, .nl 3], .r [.val (iA r1)], .r [], .b false, .fb 0, .fb 1, .r [], .r [.id 0], .r [.eq 30 (iA (a1.Nets.length : Int))], .o 0 0 1 102 3, .s (nl_Findings_F0 a0 a1 0 []) (nl_Findings_H0 a0 a1 0 []) [] (nl_Findings_B0 a0 a1 u131), .r [.val (lA 2 (List.map e_Pin r134)), .eq 137 (iA (r134.length : Int))], .s (nl_Findings_F2 a0 a1 r134 0 u131) (nl_Findings_H2 a0 a1 r134 0 u131) [] (nl_Findings_R r155)] (an (nl_CheckList_ok a0 a1 r1 h2) (an h3 (an (leni_eq e_Net a1.Nets) (an (nl_Findings_l0 a0 a1 [] (.fin u131) h132) (an (nl_LooseOf_ok a0 a1 r134 h135) (an (leni_eq e_Pin r134) (nl_Findings_l2 a0 a1 r134 u131 (.ret r155) h154))))))) (by kernel_rfl)
    · have h := Option.some.inj h
      subst h
      exact Spec.path XTok PGmix nl_Findings_fn 0 [.r [.id 0, .id 1, .nl 3], .r [.val (iA r1)], .r [], .b false, .fb 0, .fb 1, .r [], .r [.id 0], .r [.eq 30 (iA (a1.Nets.length : Int))], .o 0 0 1 102 3, .s (nl_Findings_F0 a0 a1 0 []) (nl_Findings_H0 a0 a1 0 []) [] (nl_Findings_R r133)] (an (nl_CheckList_ok a0 a1 r1 h2) (an h3 (an (leni_eq e_Net a1.Nets) (nl_Findings_l0 a0 a1 [] (.ret r133) h132)))) (by kernel_rfl)

noncomputable def ref_netOf_c : Code := (Go.Proofs.Tryd.f46.body).getD .skip
theorem ref_netOf_fn : FnOk PG 46 ref_netOf_c 21 [.tmp 4] := ⟨⟨Go.Proofs.Tryd.f46, by kernel_rfl, by kernel_rfl, by kernel_rfl, by kernel_rfl, by kernel_rfl⟩⟩
noncomputable def ref_netOf_c0 : Code := cL (cL (cR (cL (cR ref_netOf_c))))
noncomputable def ref_netOf_R (r : Int) : Oc := .ret [(4, iA r)] []
noncomputable def ref_netOf_F0 (a0 : Netlist) (a1 : Pin) (i1 : Nat) : Fr := [(3, .t (.v (.ptr 1 0))), (8, lA 3 (List.map e_Net a0.Nets)), (9, iA (a0.Nets.length : Int)), (10, iA (i1 : Int))]
noncomputable def ref_netOf_H0 (a0 : Netlist) (a1 : Pin) (i1 : Nat) : Hp := [(1, .cells 28 [.c (sC a1.Part), .c (sC a1.Pin)])]
noncomputable def ref_netOf_B0 (a0 : Netlist) (a1 : Pin) (s : Unit) : Oc := .ex 0 [] []
noncomputable def ref_netOf_b0 (a0 : Netlist) (a1 : Pin) (i1 : Nat) : Option (Stp Unit Int) :=
 bnd (atI a0.Nets (i1 : Int)) fun x2 =>
 bnd (slices_Contains_api_Pin_api_Pin x2.Pins a1) fun r4 =>
 cnd r4 (some (.ret (i1 : Int))) (some (.go ()))
theorem ref_netOf_b0_r (a0 : Netlist) (a1 : Pin) (i1 : Nat) (o : Stp Unit Int) (hi : i1 < a0.Nets.length) (h : ref_netOf_b0 a0 a1 i1 = some o) :
    Runs PG 21 0 ref_netOf_c0 (ref_netOf_F0 a0 a1 i1 ) (ref_netOf_H0 a0 a1 i1 ) (stpOc (fun s' => .nor (ref_netOf_F0 a0 a1 (i1 + 1) ) (ref_netOf_H0 a0 a1 (i1 + 1) )) (ref_netOf_B0 a0 a1) ref_netOf_R o) := by
  unfold ref_netOf_b0 at h
  refine Runs.len (s := 8) (sz := 3) (xs := List.map e_Net a0.Nets) (by kernel_rfl) fun hl => ?_
  have hM : a0.Nets.length ≤ lim := len_of hl
  obtain ⟨x2, h3, h⟩ := bnd_e h
  obtain ⟨r4, h5, h⟩ := bnd_e h
  rcases cnd_e h with ⟨h6, h⟩ | ⟨h6, h⟩
  · have h := Option.some.inj h
    subst h
    exact Runs.path XTok PGmix [.r [], .b true, .r [.el (e_Net x2), .id 2], .r [.val (bA r4)], .b true, .r []] [] (an (lt_true hi) (an (idx_ok e_Net h3) (an (slices_Contains_api_Pin_api_Pin_ok x2.Pins a1 r4 h5) h6))) (by kernel_rfl)
  · have h := Option.some.inj h
    subst h
    exact Runs.path XTok PGmix [.r [], .b true, .r [.el (e_Net x2), .id 2], .r [.val (bA r4)], .b false, .r [.eq 20 (iA ((i1 + 1 : Nat) : Int))]] [] (an (lt_true hi) (an (idx_ok e_Net h3) (an (slices_Contains_api_Pin_api_Pin_ok x2.Pins a1 r4 h5) (an h6 (wrap_eq hi hM))))) (by kernel_rfl)
theorem ref_netOf_b0_e (a0 : Netlist) (a1 : Pin) : Runs PG 21 0 ref_netOf_c0 (ref_netOf_F0 a0 a1 (a0.Nets.length) ) (ref_netOf_H0 a0 a1 (a0.Nets.length) ) (ref_netOf_B0 a0 a1 ()) := by
  exact Runs.path XTok PGmix [.r [], .b false] [] (lt_false (a0.Nets.length)) (by kernel_rfl)
theorem ref_netOf_l0 (a0 : Netlist) (a1 : Pin) (r : Fin' Unit Int) (h : forN (fun i1 s => ref_netOf_b0 a0 a1 i1 ) (a0.Nets.length) 0 () = some r) : Runs PG 21 0 (cL (cR (cL (cR ref_netOf_c)))) (ref_netOf_F0 a0 a1 0 ) (ref_netOf_H0 a0 a1 0 ) (finOc (ref_netOf_B0 a0 a1) ref_netOf_R r) :=
  Runs.loop' (by kernel_rfl) (forN_rounds (σ := Unit) (ρ := Int) (body := fun i1 s => ref_netOf_b0 a0 a1 i1 ) (F := fun i1 s => ref_netOf_F0 a0 a1 i1 ) (H := fun i1 s => ref_netOf_H0 a0 a1 i1 ) (B := ref_netOf_B0 a0 a1) (R := ref_netOf_R) (M := a0.Nets.length) (fun _ => rfl) (fun _ => rfl) (fun s => ref_netOf_b0_e a0 a1 ) (fun i s o hi h => ref_netOf_b0_r a0 a1 i o hi h) _ 0 _ r (Nat.zero_add _) h)
noncomputable def ref_netOf (a0 : Netlist) (a1 : Pin) : Option Int :=
 aft0 (forN (fun i1 s => ref_netOf_b0 a0 a1 i1 ) (a0.Nets.length) 0 ()) (
 some (-1))
 (fun r8 =>
 some r8)
theorem ref_netOf_ok (a0 : Netlist) (a1 : Pin) (r : Int) (h : ref_netOf a0 a1 = some r) : Spec PG 46 [gT (e_Netlist a0), gT (e_Pin a1)] [] (iA r) [] := by
  unfold ref_netOf at h
  rcases aft0_e h with ⟨h7, h⟩ | ⟨r8, h7, h⟩
  · have h := Option.some.inj h
    subst h
    exact Spec.path XTok PGmix ref_netOf_fn 0 [.r [.id 0, .id 1], .r [.eq 9 (iA (a0.Nets.length : Int))], .s (ref_netOf_F0 a0 a1 0 ) (ref_netOf_H0 a0 a1 0 ) [] (ref_netOf_B0 a0 a1 ()), .r []] (an (leni_eq e_Net a0.Nets) (ref_netOf_l0 a0 a1 (.fin ()) h7)) (by kernel_rfl)
  · have h := Option.some.inj h
    subst h
    exact Spec.path XTok PGmix ref_netOf_fn 0 [.r [.id 0, .id 1], .r [.eq 9 (iA (a0.Nets.length : Int))], .s (ref_netOf_F0 a0 a1 0 ) (ref_netOf_H0 a0 a1 0 ) [] (ref_netOf_R r8)] (an (leni_eq e_Net a0.Nets) (ref_netOf_l0 a0 a1 (.ret r8) h7)) (by kernel_rfl)
end Go.Proofs.YtlbndchfmdogeaaDoor.Sym
