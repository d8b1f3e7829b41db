/- Printed by gen2.py: the plain forms of functions, and that calling them gives what these give. Conditions: none. -/
import Derived.Test.YtlbndchfmdogeaaDoorVf1
set_option linter.unusedVariables false
set_option maxHeartbeats 4000000
namespace Go.Proofs.YtlbndchfmdogeaaDoor.Sym
open Go Go.RowKit
noncomputable def nl_CheckList_1_c : Code := (Go.Proofs.Tryd.f51.body).getD .skip
theorem nl_CheckList_1_fn : FnOk PG 51 nl_CheckList_1_c 10 [.tmp 4] := ⟨⟨Go.Proofs.Tryd.f51, by kernel_rfl, by kernel_rfl, by kernel_rfl, by kernel_rfl, by kernel_rfl⟩⟩
noncomputable def nl_CheckList_1 (a0 : Pin) (a1 : List PartType) (a2 : Netlist) : Option Bool :=
 bnd (nl_hasPin a1 a2.Parts a0) fun r1 =>
 some r1
theorem nl_CheckList_1_ok (a0 : Pin) (a1 : List PartType) (a2 : Netlist) (r : Bool) (h : nl_CheckList_1 a0 a1 a2 = some r) : Spec PG 51 [gT (e_Pin a0), .v (.c (.ptr [.sl 2 (List.map e_PartType a1)])), .v (.c (.ptr (e_Netlist a2)))] [] (bA r) [] := by
  unfold nl_CheckList_1 at h
  obtain ⟨r1, h2, h⟩ := bnd_e h
  have h := Option.some.inj h
  subst h
  exact Spec.path XTok PGmix nl_CheckList_1_fn 0 [.r [.id 0], .r [.val (bA r1)]] (nl_hasPin_ok a1 a2.Parts a0 r1 h2) (by kernel_rfl)

noncomputable def nl_CheckList_c : Code := (Go.Proofs.Tryd.f15.body).getD .skip
theorem nl_CheckList_fn : FnOk PG 15 nl_CheckList_c 71 [.tmp 4] := ⟨⟨Go.Proofs.Tryd.f15, by kernel_rfl, by kernel_rfl, by kernel_rfl, by kernel_rfl, by kernel_rfl⟩⟩
noncomputable def nl_CheckList_c0 : Code := cL (cL (cR (cL (cR (cR (cR (cR (cR nl_CheckList_c))))))))
noncomputable def nl_CheckList_R (r : Int) : Oc := .ret [(4, iA r)] []
noncomputable def nl_CheckList_F0 (a0 : List PartType) (a1 : Netlist) (i8 : Nat) (y9 : List (Pin × Bool)) : Fr := [(2, .t (.v (.c (.ptr [.sl 2 (List.map e_PartType a0)])))), (3, .t (.v (.c (.ptr (e_Netlist a1))))), (7, .t (.v (.rt 2))), (29, lA 3 (List.map e_Net a1.Nets)), (30, iA (a1.Nets.length : Int)), (31, iA (i8 : Int))]
noncomputable def nl_CheckList_H0 (a0 : List PartType) (a1 : Netlist) (i8 : Nat) (y9 : List (Pin × Bool)) : Hp := [(2, .map (keys PG 28) (encM kv_Pin dv_bool y9))]
noncomputable def nl_CheckList_B0 (a0 : List PartType) (a1 : Netlist) (s : (List (Pin × Bool))) : Oc := .ex 0 [] []
noncomputable def nl_CheckList_b0 (a0 : List PartType) (a1 : Netlist) (i8 : Nat) (y9 : List (Pin × Bool)) : Option (Stp (List (Pin × Bool)) Int) :=
 bnd (atI a1.Nets (i8 : Int)) fun x10 =>
 bnd (nl_IsPath x10.Name) fun r12 =>
 cnd (!r12) (some (.ret 5)) (cnd ((x10.Pins.length : Int) == 0) (some (.ret 9)) (bnd (nl_checkNetPins x10.Pins (fun z0 => nl_CheckList_1 z0 a0 a1) y9) fun r16 =>
 cnd (r16.1 != 0) (some (.ret r16.1)) (cnd (decide ((x10.Ports.length : Int) > 0)) (some (.ret 3)) (bnd1 (cnd (decide ((i8 : Int) > 0)) (bnd (atI a1.Nets (w64 ((i8 : Int) - 1))) fun x24 =>
 some (sLe x10.Name x24.Name)) (some false)) fun v20 =>
 cnd v20 (some (.ret 8)) (some (.go r16.2))))))
theorem nl_CheckList_b0_r (a0 : List PartType) (a1 : Netlist) (i8 : Nat) (y9 : List (Pin × Bool)) (o : Stp (List (Pin × Bool)) Int) (hi : i8 < a1.Nets.length) (h : nl_CheckList_b0 a0 a1 i8 y9 = some o) :
    Runs PG 71 0 nl_CheckList_c0 (nl_CheckList_F0 a0 a1 i8 y9) (nl_CheckList_H0 a0 a1 i8 y9) (stpOc (fun s' => .nor (nl_CheckList_F0 a0 a1 (i8 + 1) s') (nl_CheckList_H0 a0 a1 (i8 + 1) s')) (nl_CheckList_B0 a0 a1) nl_CheckList_R o) := by
  unfold nl_CheckList_b0 at h
  refine Runs.len (s := 29) (sz := 3) (xs := List.map e_Net a1.Nets) (by kernel_rfl) fun hl => ?_
  have hM : a1.Nets.length ≤ lim := len_of hl
  obtain ⟨x10, h11, h⟩ := bnd_e h
  obtain ⟨r12, h13, h⟩ := bnd_e h
  rcases cnd_e h with ⟨h14, h⟩ | ⟨h14, h⟩
  · have h := Option.some.inj h
    subst h
    exact Runs.path XTok PGmix [.r [], .b true, .r [.el (e_Net x10), .id 3], .r [.val (bA r12)], .b true, .r []] [] (an (lt_true hi) (an (idx_ok e_Net h11) (an (nl_IsPath_ok x10.Name r12 h13) h14))) (by kernel_rfl)
  · rcases cnd_e h with ⟨h15, h⟩ | ⟨h15, h⟩
    · have h := Option.some.inj h
      subst h
      exact Runs.path XTok PGmix [.r [], .b true, .r [.el (e_Net x10), .id 3], .r [.val (bA r12)], .b false, .r [.eq 42 (iA (x10.Pins.length : Int))], .b true, .r []] [] (an (lt_true hi) (an (idx_ok e_Net h11) (an (nl_IsPath_ok x10.Name r12 h13) (an h14 (an (leni_eq e_Pin x10.Pins) h15))))) (by kernel_rfl)
    · obtain ⟨r16, h17, h⟩ := bnd_e h
      rcases cnd_e h with ⟨h18, h⟩ | ⟨h18, h⟩
      · have h := Option.some.inj h
        subst h
        exact Runs.path XTok PGmix [.r [], .b true, .r [.el (e_Net x10), .id 3], .r [.val (bA r12)], .b false, .r [.eq 42 (iA (x10.Pins.length : Int))], .b false, .r [.call [(0, 2)] [lT 2 (List.map e_Pin x10.Pins), .v (.c (.fn 51 [.ptr [.sl 2 (List.map e_PartType a0)], .ptr (e_Netlist a1)])), .v (.rt 0)] [(0, .map (keys PG 28) (encM kv_Pin dv_bool y9))] (iA r16.1) [(0, .map (keys PG 28) (encM kv_Pin dv_bool r16.2))]], .r [], .b true, .r []] [] (an (lt_true hi) (an (idx_ok e_Net h11) (an (nl_IsPath_ok x10.Name r12 h13) (an h14 (an (leni_eq e_Pin x10.Pins) (an h15 (an (an (nl_checkNetPins_ok x10.Pins 51 [.ptr [.sl 2 (List.map e_PartType a0)], .ptr (e_Netlist a1)] (fun z0 => nl_CheckList_1 z0 a0 a1) (fun z0 r h => nl_CheckList_1_ok z0 a0 a1 r h) y9 r16 h17) (an (Eq.refl ([lT 2 (List.map e_Pin x10.Pins), .v (.c (.fn 51 [.ptr [.sl 2 (List.map e_PartType a0)], .ptr (e_Netlist a1)])), .v (.rt 2)] : List TV)) (Eq.refl (renH (asg [(0, 2)]) [(0, .map (keys PG 28) (encM kv_Pin dv_bool y9))])))) h18))))))) (by kernel_rfl)
      · rcases cnd_e h with ⟨h19, h⟩ | ⟨h19, h⟩
        · have h := Option.some.inj h
          subst h
          exact Runs.path XTok PGmix [.r [], .b true, .r [.el (e_Net x10), .id 3], .r [.val (bA r12)], .b false, .r [.eq 42 (iA (x10.Pins.length : Int))], .b false, .r [.call [(0, 2)] [lT 2 (List.map e_Pin x10.Pins), .v (.c (.fn 51 [.ptr [.sl 2 (List.map e_PartType a0)], .ptr (e_Netlist a1)])), .v (.rt 0)] [(0, .map (keys PG 28) (encM kv_Pin dv_bool y9))] (iA r16.1) [(0, .map (keys PG 28) (encM kv_Pin dv_bool r16.2))]], .r [], .b false, .r [.eq 54 (iA (x10.Ports.length : Int))], .b true, .r []] [] (an (lt_true hi) (an (idx_ok e_Net h11) (an (nl_IsPath_ok x10.Name r12 h13) (an h14 (an (leni_eq e_Pin x10.Pins) (an h15 (an (an (nl_checkNetPins_ok x10.Pins 51 [.ptr [.sl 2 (List.map e_PartType a0)], .ptr (e_Netlist a1)] (fun z0 => nl_CheckList_1 z0 a0 a1) (fun z0 r h => nl_CheckList_1_ok z0 a0 a1 r h) y9 r16 h17) (an (Eq.refl ([lT 2 (List.map e_Pin x10.Pins), .v (.c (.fn 51 [.ptr [.sl 2 (List.map e_PartType a0)], .ptr (e_Netlist a1)])), .v (.rt 2)] : List TV)) (Eq.refl (renH (asg [(0, 2)]) [(0, .map (keys PG 28) (encM kv_Pin dv_bool y9))])))) (an h18 (an (leni_eq e_str x10.Ports) h19))))))))) (by kernel_rfl)
        · obtain ⟨v20, h21, h⟩ := bnd1_e h
          let q26_f : Fr := [(2, .t (.v (.c (.ptr [.sl 2 (List.map e_PartType a0)])))), (3, .t (.v (.c (.ptr (e_Netlist a1))))), (7, .t (.v (.rt 2))), (8, iA (i8 : Int)), (9, .t (.v (.ptr 3 0))), (29, lA 3 (List.map e_Net a1.Nets)), (30, iA (a1.Nets.length : Int)), (31, iA (i8 : Int))]
          let q26_g : Hp := [(2, .map (keys PG 28) (encM kv_Pin dv_bool r16.2)), (3, .cells 64 [.c (sC x10.Name), .c (.sl 2 (List.map e_Pin x10.Pins)), .c (.sl 1 (List.map e_str x10.Ports))])]
          let q26_f' : Fr := [(2, .t (.v (.c (.ptr [.sl 2 (List.map e_PartType a0)])))), (3, .t (.v (.c (.ptr (e_Netlist a1))))), (7, .t (.v (.rt 2))), (29, lA 3 (List.map e_Net a1.Nets)), (30, iA (a1.Nets.length : Int)), (31, iA (i8 : Int)), (69, bA v20)]
          let q26_g' : Hp := [(2, .map (keys PG 28) (encM kv_Pin dv_bool r16.2))]
          have R22 : Runs PG 71 0 (cL (cR (cR (cR (cR (cR (cL (cL (cR (cR nl_CheckList_c0)))))))))) q26_f q26_g (.nor q26_f' q26_g') := by
            rcases cnd_e h21 with ⟨h23, h21⟩ | ⟨h23, h21⟩
            · obtain ⟨x24, h25, h21⟩ := bnd_e h21
              have h21 := Option.some.inj h21
              subst h21
              exact Runs.path XTok PGmix [.d [([], []), ([], []), ([], []), ([], [.b true]), ([3], [.b true]), ([], [.b true]), ([], [.b true]), ([], [.b true]), ([], [.b true]), ([], [.b true, .el (e_Net x24)]), ([], [.b true]), ([], [.b true]), ([], [.b true]), ([], [.b true])]] [] (an h23 (an h23 (an h23 (an h23 (an h23 (an h23 (an h23 (an (idx_ok e_Net h25) (an h23 (an h23 (an h23 h23))))))))))) (by kernel_rfl)
            · have h21 := Option.some.inj h21
              subst h21
              exact Runs.path XTok PGmix [.d [([], []), ([], []), ([], []), ([], [.b false]), ([], [.b false]), ([], [.b false]), ([], [.b false]), ([], [.b false]), ([], [.b false]), ([], [.b false]), ([], [.b false]), ([], [.b false]), ([], [.b false]), ([], [.b false])]] [] (an h23 (an h23 (an h23 (an h23 (an h23 (an h23 (an h23 (an h23 (an h23 (an h23 h23)))))))))) (by kernel_rfl)
          rcases cnd_e h with ⟨h27, h⟩ | ⟨h27, h⟩
          · have h := Option.some.inj h
            subst h
            exact Runs.path XTok PGmix [.r [], .b true, .r [.el (e_Net x10), .id 3], .r [.val (bA r12)], .b false, .r [.eq 42 (iA (x10.Pins.length : Int))], .b false, .r [.call [(0, 2)] [lT 2 (List.map e_Pin x10.Pins), .v (.c (.fn 51 [.ptr [.sl 2 (List.map e_PartType a0)], .ptr (e_Netlist a1)])), .v (.rt 0)] [(0, .map (keys PG 28) (encM kv_Pin dv_bool y9))] (iA r16.1) [(0, .map (keys PG 28) (encM kv_Pin dv_bool r16.2))]], .r [], .b false, .r [.eq 54 (iA (x10.Ports.length : Int))], .b false, .s q26_f q26_g [] (.nor q26_f' q26_g'), .b true, .r []] [] (an (lt_true hi) (an (idx_ok e_Net h11) (an (nl_IsPath_ok x10.Name r12 h13) (an h14 (an (leni_eq e_Pin x10.Pins) (an h15 (an (an (nl_checkNetPins_ok x10.Pins 51 [.ptr [.sl 2 (List.map e_PartType a0)], .ptr (e_Netlist a1)] (fun z0 => nl_CheckList_1 z0 a0 a1) (fun z0 r h => nl_CheckList_1_ok z0 a0 a1 r h) y9 r16 h17) (an (Eq.refl ([lT 2 (List.map e_Pin x10.Pins), .v (.c (.fn 51 [.ptr [.sl 2 (List.map e_PartType a0)], .ptr (e_Netlist a1)])), .v (.rt 2)] : List TV)) (Eq.refl (renH (asg [(0, 2)]) [(0, .map (keys PG 28) (encM kv_Pin dv_bool y9))])))) (an h18 (an (leni_eq e_str x10.Ports) (an h19 (an R22 h27))))))))))) (by kernel_rfl)
          · have h := Option.some.inj h
            subst h
            exact Runs.path XTok PGmix [.r [], .b true, .r [.el (e_Net x10), .id 3], .r [.val (bA r12)], .b false, .r [.eq 42 (iA (x10.Pins.length : Int))], .b false, .r [.call [(0, 2)] [lT 2 (List.map e_Pin x10.Pins), .v (.c (.fn 51 [.ptr [.sl 2 (List.map e_PartType a0)], .ptr (e_Netlist a1)])), .v (.rt 0)] [(0, .map (keys PG 28) (encM kv_Pin dv_bool y9))] (iA r16.1) [(0, .map (keys PG 28) (encM kv_Pin dv_bool r16.2))]], .r [], .b false, .r [.eq 54 (iA (x10.Ports.length : Int))], .b false, .s q26_f q26_g [] (.nor q26_f' q26_g'), .b false, .r [.eq 70 (iA ((i8 + 1 : Nat) : Int))]] [] (an (lt_true hi) (an (idx_ok e_Net h11) (an (nl_IsPath_ok x10.Name r12 h13) (an h14 (an (leni_eq e_Pin x10.Pins) (an h15 (an (an (nl_checkNetPins_ok x10.Pins 51 [.ptr [.sl 2 (List.map e_PartType a0)], .ptr (e_Netlist a1)] (fun z0 => nl_CheckList_1 z0 a0 a1) (fun z0 r h => nl_CheckList_1_ok z0 a0 a1 r h) y9 r16 h17) (an (Eq.refl ([lT 2 (List.map e_Pin x10.Pins), .v (.c (.fn 51 [.ptr [.sl 2 (List.map e_PartType a0)], .ptr (e_Netlist a1)])), .v (.rt 2)] : List TV)) (Eq.refl (renH (asg [(0, 2)]) [(0, .map (keys PG 28) (encM kv_Pin dv_bool y9))])))) (an h18 (an (leni_eq e_str x10.Ports) (an h19 (an R22 (an h27 (wrap_eq hi hM))))))))))))) (by kernel_rfl)
theorem nl_CheckList_b0_e (a0 : List PartType) (a1 : Netlist) (y9 : List (Pin × Bool)) : Runs PG 71 0 nl_CheckList_c0 (nl_CheckList_F0 a0 a1 (a1.Nets.length) y9) (nl_CheckList_H0 a0 a1 (a1.Nets.length) y9) (nl_CheckList_B0 a0 a1 y9) := by
  exact Runs.path XTok PGmix [.r [], .b false] [] (lt_false (a1.Nets.length)) (by kernel_rfl)
theorem nl_CheckList_l0 (a0 : List PartType) (a1 : Netlist) (y9 : List (Pin × Bool)) (r : Fin' (List (Pin × Bool)) Int) (h : forN (fun i8 s => nl_CheckList_b0 a0 a1 i8 s) (a1.Nets.length) 0 y9 = some r) : Runs PG 71 0 (cL (cR (cL (cR (cR (cR (cR (cR nl_CheckList_c)))))))) (nl_CheckList_F0 a0 a1 0 y9) (nl_CheckList_H0 a0 a1 0 y9) (finOc (nl_CheckList_B0 a0 a1) nl_CheckList_R r) :=
  Runs.loop' (by kernel_rfl) (forN_rounds (σ := (List (Pin × Bool))) (ρ := Int) (body := fun i8 s => nl_CheckList_b0 a0 a1 i8 s) (F := fun i8 s => nl_CheckList_F0 a0 a1 i8 s) (H := fun i8 s => nl_CheckList_H0 a0 a1 i8 s) (B := nl_CheckList_B0 a0 a1) (R := nl_CheckList_R) (M := a1.Nets.length) (fun _ => rfl) (fun _ => rfl) (fun s => nl_CheckList_b0_e a0 a1 s) (fun i s o hi h => nl_CheckList_b0_r a0 a1 i s o hi h) _ 0 _ r (Nat.zero_add _) h)
noncomputable def nl_CheckList (a0 : List PartType) (a1 : Netlist) : Option Int :=
 bnd (nl_CheckTypes a0) fun r1 =>
 cnd (r1 != 0) (some r1) (bnd (nl_checkParts a0 a1.Parts (fun z0 => nl_IsPath z0)) fun r4 =>
 cnd (r4 != 0) (some r4) (cnd (decide ((a1.Nets.length : Int) > 1000)) (some 2) (aft1 (forN (fun i8 s => nl_CheckList_b0 a0 a1 i8 s) (a1.Nets.length) 0 []) (fun u28 =>
 some 0)
 (fun r30 =>
 some r30))))
theorem nl_CheckList_ok (a0 : List PartType) (a1 : Netlist) (r : Int) (h : nl_CheckList a0 a1 = some r) : Spec PG 15 [lT 2 (List.map e_PartType a0), gT (e_Netlist a1)] [] (iA r) [] := by
  unfold nl_CheckList at h
  obtain ⟨r1, h2, h⟩ := bnd_e h
  rcases cnd_e h with ⟨h3, h⟩ | ⟨h3, h⟩
  · have h := Option.some.inj h
    subst h
    exact Spec.path XTok PGmix nl_CheckList_fn 0 [.r [.id 0, .id 1], .r [.val (iA r1)], .r [], .b true, .r []] (an (nl_CheckTypes_ok a0 r1 h2) h3) (by kernel_rfl)
  · obtain ⟨r4, h5, h⟩ := bnd_e h
    rcases cnd_e h with ⟨h6, h⟩ | ⟨h6, h⟩
    · have h := Option.some.inj h
      subst h
      exact Spec.path XTok PGmix nl_CheckList_fn 0 [.r [.id 0, .id 1], .r [.val (iA r1)], .r [], .b false, .r [.val (iA r4)], .r [], .b true, .r []] (an (nl_CheckTypes_ok a0 r1 h2) (an h3 (an (nl_checkParts_ok a0 a1.Parts 49 [] (fun z0 => nl_IsPath z0) (fun z0 r h => nl_IsPath_ok z0 r h) r4 h5) h6))) (by kernel_rfl)
    · rcases cnd_e h with ⟨h7, h⟩ | ⟨h7, h⟩
      · have h := Option.some.inj h
        subst h
        exact Spec.path XTok PGmix nl_CheckList_fn 0 [.r [.id 0, .id 1], .r [.val (iA r1)], .r [], .b false, .r [.val (iA r4)], .r [], .b false, .r [.eq 25 (iA (a1.Nets.length : Int))], .b true, .r []] (an (nl_CheckTypes_ok a0 r1 h2) (an h3 (an (nl_checkParts_ok a0 a1.Parts 49 [] (fun z0 => nl_IsPath z0) (fun z0 r h => nl_IsPath_ok z0 r h) r4 h5) (an h6 (an (leni_eq e_Net a1.Nets) h7))))) (by kernel_rfl)
      · rcases aft1_e h with ⟨u28, h29, h⟩ | ⟨r30, h29, h⟩
        · have h := Option.some.inj h
          subst h
          exact Spec.path XTok PGmix nl_CheckList_fn 0 [.r [.id 0, .id 1], .r [.val (iA r1)], .r [], .b false, .r [.val (iA r4)], .r [], .b false, .r [.eq 25 (iA (a1.Nets.length : Int))], .b false, .r [.id 2], .r [.eq 30 (iA (a1.Nets.length : Int))], .fb 0, .fb 1, .s (nl_CheckList_F0 a0 a1 0 []) (nl_CheckList_H0 a0 a1 0 []) [] (nl_CheckList_B0 a0 a1 u28), .r []] (an (nl_CheckTypes_ok a0 r1 h2) (an h3 (an (nl_checkParts_ok a0 a1.Parts 49 [] (fun z0 => nl_IsPath z0) (fun z0 r h => nl_IsPath_ok z0 r h) r4 h5) (an h6 (an (leni_eq e_Net a1.Nets) (an h7 (an (leni_eq e_Net a1.Nets) (nl_CheckList_l0 a0 a1 [] (.fin u28) h29)))))))) (by kernel_rfl)
        · have h := Option.some.inj h
          subst h
          exact Spec.path XTok PGmix nl_CheckList_fn 0 [.r [.id 0, .id 1], .r [.val (iA r1)], .r [], .b false, .r [.val (iA r4)], .r [], .b false, .r [.eq 25 (iA (a1.Nets.length : Int))], .b false, .r [.id 2], .r [.eq 30 (iA (a1.Nets.length : Int))], .fb 0, .fb 1, .s (nl_CheckList_F0 a0 a1 0 []) (nl_CheckList_H0 a0 a1 0 []) [] (nl_CheckList_R r30)] (an (nl_CheckTypes_ok a0 r1 h2) (an h3 (an (nl_checkParts_ok a0 a1.Parts 49 [] (fun z0 => nl_IsPath z0) (fun z0 r h => nl_IsPath_ok z0 r h) r4 h5) (an h6 (an (leni_eq e_Net a1.Nets) (an h7 (an (leni_eq e_Net a1.Nets) (nl_CheckList_l0 a0 a1 [] (.ret r30) h29)))))))) (by kernel_rfl)

noncomputable def nl_Nets_c : Code := (Go.Proofs.Tryd.f44.body).getD .skip
theorem nl_Nets_fn : FnOk PG 44 nl_Nets_c 30 [.tmp 2] := ⟨⟨Go.Proofs.Tryd.f44, by kernel_rfl, by kernel_rfl, by kernel_rfl, by kernel_rfl, by kernel_rfl⟩⟩
noncomputable def nl_Nets_c0 : Code := cL (cL (cR (cL (cR (cR nl_Nets_c)))))
noncomputable def nl_Nets_R (r : (List (Pin × Int))) : Oc := .ret [(2, .t (.v (.rt 0)))] [(0, .map (keys PG 28) (encM kv_Pin dv_i64 r))]
noncomputable def nl_Nets_c1 : Code := cL (cL (cR (cR (cL (cL (cR (cR nl_Nets_c0)))))))
noncomputable def nl_Nets_F1 (a0 : Netlist) (i1 : Nat) (x3 : Net) (i5 : Nat) (y6 : List (Pin × Int)) : Fr := [(3, .t (.v (.rt 1))), (4, iA (i1 : Int)), (10, lA 3 (List.map e_Net a0.Nets)), (11, iA (a0.Nets.length : Int)), (12, iA (i1 : Int)), (18, lA 2 (List.map e_Pin x3.Pins)), (19, iA (x3.Pins.length : Int)), (20, iA (i5 : Int))]
noncomputable def nl_Nets_H1 (a0 : Netlist) (i1 : Nat) (x3 : Net) (i5 : Nat) (y6 : List (Pin × Int)) : Hp := [(1, .map (keys PG 28) (encM kv_Pin dv_i64 y6))]
noncomputable def nl_Nets_B1 (a0 : Netlist) (i1 : Nat) (x3 : Net) (s : (List (Pin × Int))) : Oc := .ex 2 [(3, .t (.v (.rt 1))), (10, lA 3 (List.map e_Net a0.Nets)), (11, iA (a0.Nets.length : Int)), (12, iA (i1 : Int))] [(1, .map (keys PG 28) (encM kv_Pin dv_i64 s))]
noncomputable def nl_Nets_b1 (a0 : Netlist) (i1 : Nat) (x3 : Net) (i5 : Nat) (y6 : List (Pin × Int)) : Option (Stp (List (Pin × Int)) (List (Pin × Int))) :=
 bnd (atI x3.Pins (i5 : Int)) fun x7 =>
 some (.go (tput y6 x7 (i1 : Int)))
theorem nl_Nets_b1_r (a0 : Netlist) (i1 : Nat) (x3 : Net) (i5 : Nat) (y6 : List (Pin × Int)) (o : Stp (List (Pin × Int)) (List (Pin × Int))) (hi : i5 < x3.Pins.length) (h : nl_Nets_b1 a0 i1 x3 i5 y6 = some o) :
    Runs PG 30 0 nl_Nets_c1 (nl_Nets_F1 a0 i1 x3 i5 y6) (nl_Nets_H1 a0 i1 x3 i5 y6) (stpOc (fun s' => .nor (nl_Nets_F1 a0 i1 x3 (i5 + 1) s') (nl_Nets_H1 a0 i1 x3 (i5 + 1) s')) (nl_Nets_B1 a0 i1 x3) nl_Nets_R o) := by
  unfold nl_Nets_b1 at h
  refine Runs.len (s := 18) (sz := 2) (xs := List.map e_Pin x3.Pins) (by kernel_rfl) fun hl => ?_
  have hM : x3.Pins.length ≤ lim := len_of hl
  obtain ⟨x7, h8, h⟩ := bnd_e h
  have h := Option.some.inj h
  subst h
  exact Runs.path XTok PGmix [.r [], .b true, .r [.el (e_Pin x7), .id 2], .r [.es (encM kv_Pin dv_i64 (tput y6 x7 (i1 : Int)))], .r [.eq 27 (iA ((i5 + 1 : Nat) : Int))]] [] (an (lt_true hi) (an (idx_ok e_Pin h8) (an (an kd_Pin (an (Eq.refl (keys PG 28)) (an (kf_Pin x7) (put_ok dv_i64 ki_Pin y6 x7 (i1 : Int))))) (wrap_eq hi hM)))) (by kernel_rfl)
theorem nl_Nets_b1_e (a0 : Netlist) (i1 : Nat) (x3 : Net) (y6 : List (Pin × Int)) : Runs PG 30 0 nl_Nets_c1 (nl_Nets_F1 a0 i1 x3 (x3.Pins.length) y6) (nl_Nets_H1 a0 i1 x3 (x3.Pins.length) y6) (nl_Nets_B1 a0 i1 x3 y6) := by
  exact Runs.path XTok PGmix [.r [], .b false] [] (lt_false (x3.Pins.length)) (by kernel_rfl)
theorem nl_Nets_l1 (a0 : Netlist) (i1 : Nat) (x3 : Net) (y6 : List (Pin × Int)) (r : Fin' (List (Pin × Int)) (List (Pin × Int))) (h : forN (fun i5 s => nl_Nets_b1 a0 i1 x3 i5 s) (x3.Pins.length) 0 y6 = some r) : Runs PG 30 0 (cL (cR (cR (cL (cL (cR (cR nl_Nets_c0))))))) (nl_Nets_F1 a0 i1 x3 0 y6) (nl_Nets_H1 a0 i1 x3 0 y6) (finOc (nl_Nets_B1 a0 i1 x3) nl_Nets_R r) :=
  Runs.loop' (by kernel_rfl) (forN_rounds (σ := (List (Pin × Int))) (ρ := (List (Pin × Int))) (body := fun i5 s => nl_Nets_b1 a0 i1 x3 i5 s) (F := fun i5 s => nl_Nets_F1 a0 i1 x3 i5 s) (H := fun i5 s => nl_Nets_H1 a0 i1 x3 i5 s) (B := nl_Nets_B1 a0 i1 x3) (R := nl_Nets_R) (M := x3.Pins.length) (fun _ => rfl) (fun _ => rfl) (fun s => nl_Nets_b1_e a0 i1 x3 s) (fun i s o hi h => nl_Nets_b1_r a0 i1 x3 i s o hi h) _ 0 _ r (Nat.zero_add _) h)
noncomputable def nl_Nets_F0 (a0 : Netlist) (i1 : Nat) (y2 : List (Pin × Int)) : Fr := [(3, .t (.v (.rt 1))), (10, lA 3 (List.map e_Net a0.Nets)), (11, iA (a0.Nets.length : Int)), (12, iA (i1 : Int))]
noncomputable def nl_Nets_H0 (a0 : Netlist) (i1 : Nat) (y2 : List (Pin × Int)) : Hp := [(1, .map (keys PG 28) (encM kv_Pin dv_i64 y2))]
noncomputable def nl_Nets_B0 (a0 : Netlist) (s : (List (Pin × Int))) : Oc := .ex 0 [(3, .t (.v (.rt 1)))] [(1, .map (keys PG 28) (encM kv_Pin dv_i64 s))]
noncomputable def nl_Nets_b0 (a0 : Netlist) (i1 : Nat) (y2 : List (Pin × Int)) : Option (Stp (List (Pin × Int)) (List (Pin × Int))) :=
 bnd (atI a0.Nets (i1 : Int)) fun x3 =>
 aft1 (forN (fun i5 s => nl_Nets_b1 a0 i1 x3 i5 s) (x3.Pins.length) 0 y2) (fun u9 =>
 some (.go u9))
 (fun r11 =>
 some (.ret r11))
theorem nl_Nets_b0_r (a0 : Netlist) (i1 : Nat) (y2 : List (Pin × Int)) (o : Stp (List (Pin × Int)) (List (Pin × Int))) (hi : i1 < a0.Nets.length) (h : nl_Nets_b0 a0 i1 y2 = some o) :
    Runs PG 30 0 nl_Nets_c0 (nl_Nets_F0 a0 i1 y2) (nl_Nets_H0 a0 i1 y2) (stpOc (fun s' => .nor (nl_Nets_F0 a0 (i1 + 1) s') (nl_Nets_H0 a0 (i1 + 1) s')) (nl_Nets_B0 a0) nl_Nets_R o) := by
  unfold nl_Nets_b0 at h
  refine Runs.len (s := 10) (sz := 3) (xs := List.map e_Net a0.Nets) (by kernel_rfl) fun hl => ?_
  have hM : a0.Nets.length ≤ lim := len_of hl
  obtain ⟨x3, h4, h⟩ := bnd_e h
  rcases aft1_e h with ⟨u9, h10, h⟩ | ⟨r11, h10, h⟩
  · have h := Option.some.inj h
    subst h
    exact Runs.path XTok PGmix [.r [], .b true, .r [.el (e_Net x3), .id 2], .r [.eq 19 (iA (x3.Pins.length : Int))], .s (nl_Nets_F1 a0 i1 x3 0 y2) (nl_Nets_H1 a0 i1 x3 0 y2) [] (nl_Nets_B1 a0 i1 x3 u9), .r [.eq 28 (iA ((i1 + 1 : Nat) : Int))]] [] (an (lt_true hi) (an (idx_ok e_Net h4) (an (leni_eq e_Pin x3.Pins) (an (nl_Nets_l1 a0 i1 x3 y2 (.fin u9) h10) (wrap_eq hi hM))))) (by kernel_rfl)
  · have h := Option.some.inj h
    subst h
    exact Runs.path XTok PGmix [.r [], .b true, .r [.el (e_Net x3), .id 2], .r [.eq 19 (iA (x3.Pins.length : Int))], .s (nl_Nets_F1 a0 i1 x3 0 y2) (nl_Nets_H1 a0 i1 x3 0 y2) [] (nl_Nets_R r11)] [] (an (lt_true hi) (an (idx_ok e_Net h4) (an (leni_eq e_Pin x3.Pins) (nl_Nets_l1 a0 i1 x3 y2 (.ret r11) h10)))) (by kernel_rfl)
theorem nl_Nets_b0_e (a0 : Netlist) (y2 : List (Pin × Int)) : Runs PG 30 0 nl_Nets_c0 (nl_Nets_F0 a0 (a0.Nets.length) y2) (nl_Nets_H0 a0 (a0.Nets.length) y2) (nl_Nets_B0 a0 y2) := by
  exact Runs.path XTok PGmix [.r [], .b false] [] (lt_false (a0.Nets.length)) (by kernel_rfl)
theorem nl_Nets_l0 (a0 : Netlist) (y2 : List (Pin × Int)) (r : Fin' (List (Pin × Int)) (List (Pin × Int))) (h : forN (fun i1 s => nl_Nets_b0 a0 i1 s) (a0.Nets.length) 0 y2 = some r) : Runs PG 30 0 (cL (cR (cL (cR (cR nl_Nets_c))))) (nl_Nets_F0 a0 0 y2) (nl_Nets_H0 a0 0 y2) (finOc (nl_Nets_B0 a0) nl_Nets_R r) :=
  Runs.loop' (by kernel_rfl) (forN_rounds (σ := (List (Pin × Int))) (ρ := (List (Pin × Int))) (body := fun i1 s => nl_Nets_b0 a0 i1 s) (F := fun i1 s => nl_Nets_F0 a0 i1 s) (H := fun i1 s => nl_Nets_H0 a0 i1 s) (B := nl_Nets_B0 a0) (R := nl_Nets_R) (M := a0.Nets.length) (fun _ => rfl) (fun _ => rfl) (fun s => nl_Nets_b0_e a0 s) (fun i s o hi h => nl_Nets_b0_r a0 i s o hi h) _ 0 _ r (Nat.zero_add _) h)
noncomputable def nl_Nets (a0 : Netlist) : Option ((List (Pin × Int))) :=
 aft1 (forN (fun i1 s => nl_Nets_b0 a0 i1 s) (a0.Nets.length) 0 []) (fun u12 =>
 some u12)
 (fun r14 =>
 some r14)
theorem nl_Nets_ok (a0 : Netlist) (r : (List (Pin × Int))) (h : nl_Nets a0 = some r) : Spec PG 44 [gT (e_Netlist a0)] [] (.t (.v (.rt 0))) [(0, .map (keys PG 28) (encM kv_Pin dv_i64 r))] := by
  unfold nl_Nets at h
  rcases aft1_e h with ⟨u12, h13, h⟩ | ⟨r14, h13, h⟩
  · have h := Option.some.inj h
    subst h
    exact Spec.path XTok PGmix nl_Nets_fn 0 [.r [.id 0], .r [.id 1], .r [.eq 11 (iA (a0.Nets.length : Int))], .s (nl_Nets_F0 a0 0 []) (nl_Nets_H0 a0 0 []) [] (nl_Nets_B0 a0 u12), .r [], .w [(2, .t (.v (.rt 0)))] [(0, .map (keys PG 28) (encM kv_Pin dv_i64 u12))] [(0, 1)]] (an (leni_eq e_Net a0.Nets) (nl_Nets_l0 a0 [] (.fin u12) h13)) (by kernel_rfl)
  · have h := Option.some.inj h
    subst h
    exact Spec.path XTok PGmix nl_Nets_fn 0 [.r [.id 0], .r [.id 1], .r [.eq 11 (iA (a0.Nets.length : Int))], .s (nl_Nets_F0 a0 0 []) (nl_Nets_H0 a0 0 []) [] (nl_Nets_R r14)] (an (leni_eq e_Net a0.Nets) (nl_Nets_l0 a0 [] (.ret r14) h13)) (by kernel_rfl)

noncomputable def nl_pinsOf_c : Code := (Go.Proofs.Tryd.f74.body).getD .skip
theorem nl_pinsOf_fn : FnOk PG 74 nl_pinsOf_c 31 [.tmp 4] := ⟨⟨Go.Proofs.Tryd.f74, by kernel_rfl, by kernel_rfl, by kernel_rfl, by kernel_rfl, by kernel_rfl⟩⟩
noncomputable def nl_pinsOf_c0 : Code := cL (cL (cR (cL (cR (cR nl_pinsOf_c)))))
noncomputable def nl_pinsOf_R (r : List Pin) : Oc := .ret [(4, lA 2 (List.map e_Pin r))] []
noncomputable def nl_pinsOf_F0 (a1 : Part) (x3 : PartType) (i5 : Nat) (y6 : List Pin) : Fr := [(3, .t (.v (.ptr 0 0))), (5, .t (.v (.rt 1))), (15, lA 3 (List.map e_PinType x3.Pins)), (16, iA (x3.Pins.length : Int)), (17, iA (i5 : Int))]
noncomputable def nl_pinsOf_H0 (a1 : Part) (x3 : PartType) (i5 : Nat) (y6 : List Pin) : Hp := [(0, .cells 73 [.c (sC a1.Name), .c (sC a1.Type_)]), (1, .row 28 2 (List.map e_Pin y6))]
noncomputable def nl_pinsOf_B0 (a1 : Part) (x3 : PartType) (s : List Pin) : Oc := .ex 0 [(5, .t (.v (.rt 1)))] [(1, .row 28 2 (List.map e_Pin s))]
noncomputable def nl_pinsOf_b0 (a1 : Part) (x3 : PartType) (i5 : Nat) (y6 : List Pin) : Option (Stp (List Pin) (List Pin)) :=
 bnd (atI x3.Pins (i5 : Int)) fun x7 =>
 grd (y6.length + [(⟨a1.Name, x7.Name⟩ : Pin)].length ≤ lim) <|
 some (.go (y6 ++ [(⟨a1.Name, x7.Name⟩ : Pin)]))
theorem nl_pinsOf_b0_r (a1 : Part) (x3 : PartType) (i5 : Nat) (y6 : List Pin) (o : Stp (List Pin) (List Pin)) (hi : i5 < x3.Pins.length) (h : nl_pinsOf_b0 a1 x3 i5 y6 = some o) :
    Runs PG 31 0 nl_pinsOf_c0 (nl_pinsOf_F0 a1 x3 i5 y6) (nl_pinsOf_H0 a1 x3 i5 y6) (stpOc (fun s' => .nor (nl_pinsOf_F0 a1 x3 (i5 + 1) s') (nl_pinsOf_H0 a1 x3 (i5 + 1) s')) (nl_pinsOf_B0 a1 x3) nl_pinsOf_R o) := by
  unfold nl_pinsOf_b0 at h
  refine Runs.len (s := 15) (sz := 3) (xs := List.map e_PinType x3.Pins) (by kernel_rfl) fun hl => ?_
  have hM : x3.Pins.length ≤ lim := len_of hl
  obtain ⟨x7, h8, h⟩ := bnd_e h
  obtain ⟨h9, h⟩ := grd_e h
  have h := Option.some.inj h
  subst h
  exact Runs.path XTok PGmix [.r [], .b true, .r [.el (e_PinType x7), .id 2], .r [.id 3, .row (List.map e_Pin [(⟨a1.Name, x7.Name⟩ : Pin)]), .id 4, .row (List.map e_Pin (y6 ++ [(⟨a1.Name, x7.Name⟩ : Pin)]))], .r [.eq 29 (iA ((i5 + 1 : Nat) : Int))]] [(1, 4)] (an (lt_true hi) (an (idx_ok e_PinType h8) (an (Eq.refl (List.flatten (List.map e_Pin [(⟨a1.Name, x7.Name⟩ : Pin)]))) (an (app_ok e_Pin h9) (wrap_eq hi hM))))) (by kernel_rfl)
theorem nl_pinsOf_b0_e (a1 : Part) (x3 : PartType) (y6 : List Pin) : Runs PG 31 0 nl_pinsOf_c0 (nl_pinsOf_F0 a1 x3 (x3.Pins.length) y6) (nl_pinsOf_H0 a1 x3 (x3.Pins.length) y6) (nl_pinsOf_B0 a1 x3 y6) := by
  exact Runs.path XTok PGmix [.r [], .b false] [] (lt_false (x3.Pins.length)) (by kernel_rfl)
theorem nl_pinsOf_l0 (a1 : Part) (x3 : PartType) (y6 : List Pin) (r : Fin' (List Pin) (List Pin)) (h : forN (fun i5 s => nl_pinsOf_b0 a1 x3 i5 s) (x3.Pins.length) 0 y6 = some r) : Runs PG 31 0 (cL (cR (cL (cR (cR nl_pinsOf_c))))) (nl_pinsOf_F0 a1 x3 0 y6) (nl_pinsOf_H0 a1 x3 0 y6) (finOc (nl_pinsOf_B0 a1 x3) nl_pinsOf_R r) :=
  Runs.loop' (by kernel_rfl) (forN_rounds (σ := (List Pin)) (ρ := (List Pin)) (body := fun i5 s => nl_pinsOf_b0 a1 x3 i5 s) (F := fun i5 s => nl_pinsOf_F0 a1 x3 i5 s) (H := fun i5 s => nl_pinsOf_H0 a1 x3 i5 s) (B := nl_pinsOf_B0 a1 x3) (R := nl_pinsOf_R) (M := x3.Pins.length) (fun _ => rfl) (fun _ => rfl) (fun s => nl_pinsOf_b0_e a1 x3 s) (fun i s o hi h => nl_pinsOf_b0_r a1 x3 i s o hi h) _ 0 _ r (Nat.zero_add _) h)
noncomputable def nl_pinsOf (a0 : List PartType) (a1 : Part) : Option (List Pin) :=
 bnd (nl_TypeAt a0 a1.Type_) fun r1 =>
 bnd (atI a0 r1) fun x3 =>
 aft1 (forN (fun i5 s => nl_pinsOf_b0 a1 x3 i5 s) (x3.Pins.length) 0 []) (fun u10 =>
 some u10)
 (fun r12 =>
 some r12)
theorem nl_pinsOf_ok (a0 : List PartType) (a1 : Part) (r : List Pin) (h : nl_pinsOf a0 a1 = some r) : Spec PG 74 [lT 2 (List.map e_PartType a0), gT (e_Part a1)] [] (lA 2 (List.map e_Pin r)) [] := by
  unfold nl_pinsOf at h
  obtain ⟨r1, h2, h⟩ := bnd_e h
  obtain ⟨x3, h4, h⟩ := bnd_e h
  rcases aft1_e h with ⟨u10, h11, h⟩ | ⟨r12, h11, h⟩
  · have h := Option.some.inj h
    subst h
    exact Spec.path XTok PGmix nl_pinsOf_fn 0 [.r [.id 0, .nl 2], .r [.mk 1 28 2], .r [.val (iA r1), .el (e_PartType x3), .eq 16 (iA (x3.Pins.length : Int))], .s (nl_pinsOf_F0 a1 x3 0 []) (nl_pinsOf_H0 a1 x3 0 []) [] (nl_pinsOf_B0 a1 x3 u10), .r [], .f 1] (an (nl_TypeAt_ok a0 a1.Type_ r1 h2) (an (idx_ok e_PartType h4) (an (leni_eq e_PinType x3.Pins) (nl_pinsOf_l0 a1 x3 [] (.fin u10) h11)))) (by kernel_rfl)
  · have h := Option.some.inj h
    subst h
    exact Spec.path XTok PGmix nl_pinsOf_fn 0 [.r [.id 0, .nl 2], .r [.mk 1 28 2], .r [.val (iA r1), .el (e_PartType x3), .eq 16 (iA (x3.Pins.length : Int))], .s (nl_pinsOf_F0 a1 x3 0 []) (nl_pinsOf_H0 a1 x3 0 []) [] (nl_pinsOf_R r12)] (an (nl_TypeAt_ok a0 a1.Type_ r1 h2) (an (idx_ok e_PartType h4) (an (leni_eq e_PinType x3.Pins) (nl_pinsOf_l0 a1 x3 [] (.ret r12) h11)))) (by kernel_rfl)

noncomputable def nl_LooseOf_c : Code := (Go.Proofs.Tryd.f54.body).getD .skip
theorem nl_LooseOf_fn : FnOk PG 54 nl_LooseOf_c 45 [.tmp 4] := ⟨⟨Go.Proofs.Tryd.f54, by kernel_rfl, by kernel_rfl, by kernel_rfl, by kernel_rfl, by kernel_rfl⟩⟩
noncomputable def nl_LooseOf_c0 : Code := cL (cL (cR (cL (cR (cR (cR nl_LooseOf_c))))))
noncomputable def nl_LooseOf_R (r : List Pin) : Oc := .ret [(4, lA 2 (List.map e_Pin r))] []
noncomputable def nl_LooseOf_c1 : Code := cL (cL (cR (cR (cL (cL (cR (cR nl_LooseOf_c0)))))))
noncomputable def nl_LooseOf_F1 (a0 : List PartType) (a1 : Netlist) (r1 : (List (Pin × Int))) (i3 : Nat) (r7 : List Pin) (i9 : Nat) (y10 : List Pin) : Fr := [(0, lA 2 (List.map e_PartType a0)), (5, .t (.v (.rt 1))), (6, .t (.v (.rt 2))), (16, lA 2 (List.map e_Part a1.Parts)), (17, iA (a1.Parts.length : Int)), (18, iA (i3 : Int)), (24, lA 2 (List.map e_Pin r7)), (25, iA (r7.length : Int)), (26, iA (i9 : Int))]
noncomputable def nl_LooseOf_H1 (a0 : List PartType) (a1 : Netlist) (r1 : (List (Pin × Int))) (i3 : Nat) (r7 : List Pin) (i9 : Nat) (y10 : List Pin) : Hp := [(1, .map (keys PG 28) (encM kv_Pin dv_i64 r1)), (2, .row 28 2 (List.map e_Pin y10))]
noncomputable def nl_LooseOf_B1 (a0 : List PartType) (a1 : Netlist) (r1 : (List (Pin × Int))) (i3 : Nat) (r7 : List Pin) (s : List Pin) : Oc := .ex 2 [(0, lA 2 (List.map e_PartType a0)), (5, .t (.v (.rt 1))), (6, .t (.v (.rt 2))), (16, lA 2 (List.map e_Part a1.Parts)), (17, iA (a1.Parts.length : Int)), (18, iA (i3 : Int))] [(1, .map (keys PG 28) (encM kv_Pin dv_i64 r1)), (2, .row 28 2 (List.map e_Pin s))]
noncomputable def nl_LooseOf_b1 (a0 : List PartType) (a1 : Netlist) (r1 : (List (Pin × Int))) (i3 : Nat) (r7 : List Pin) (i9 : Nat) (y10 : List Pin) : Option (Stp (List Pin) (List Pin)) :=
 bnd (atI r7 (i9 : Int)) fun x11 =>
 bnd1 (opt (tlook r1 x11) (fun v16 =>
 some true) (some false)) fun v13 =>
 bnd1 (cnd (!v13) (grd (y10.length + [x11].length ≤ lim) <|
 some (y10 ++ [x11])) (some y10)) fun v19 =>
 some (.go v19)
theorem nl_LooseOf_b1_r (a0 : List PartType) (a1 : Netlist) (r1 : (List (Pin × Int))) (i3 : Nat) (r7 : List Pin) (i9 : Nat) (y10 : List Pin) (o : Stp (List Pin) (List Pin)) (hi : i9 < r7.length) (h : nl_LooseOf_b1 a0 a1 r1 i3 r7 i9 y10 = some o) :
    Runs PG 45 0 nl_LooseOf_c1 (nl_LooseOf_F1 a0 a1 r1 i3 r7 i9 y10) (nl_LooseOf_H1 a0 a1 r1 i3 r7 i9 y10) (stpOc (fun s' => .nor (nl_LooseOf_F1 a0 a1 r1 i3 r7 (i9 + 1) s') (nl_LooseOf_H1 a0 a1 r1 i3 r7 (i9 + 1) s')) (nl_LooseOf_B1 a0 a1 r1 i3 r7) nl_LooseOf_R o) := by
  unfold nl_LooseOf_b1 at h
  refine Runs.len (s := 24) (sz := 2) (xs := List.map e_Pin r7) (by kernel_rfl) fun hl => ?_
  have hM : r7.length ≤ lim := len_of hl
  obtain ⟨x11, h12, h⟩ := bnd_e h
  obtain ⟨v13, h14, h⟩ := bnd1_e h
  let q18_f : Fr := [(0, lA 2 (List.map e_PartType a0)), (5, .t (.v (.rt 1))), (6, .t (.v (.rt 2))), (10, .t (.v (.ptr 3 0))), (16, lA 2 (List.map e_Part a1.Parts)), (17, iA (a1.Parts.length : Int)), (18, iA (i3 : Int)), (24, lA 2 (List.map e_Pin r7)), (25, iA (r7.length : Int)), (26, iA (i9 : Int))]
  let q18_g : Hp := [(1, .map (keys PG 28) (encM kv_Pin dv_i64 r1)), (2, .row 28 2 (List.map e_Pin y10)), (3, .cells 28 [.c (sC x11.Part), .c (sC x11.Pin)])]
  let q18_f' : Fr := [(0, lA 2 (List.map e_PartType a0)), (5, .t (.v (.rt 1))), (6, .t (.v (.rt 2))), (10, .t (.v (.ptr 3 0))), (16, lA 2 (List.map e_Part a1.Parts)), (17, iA (a1.Parts.length : Int)), (18, iA (i3 : Int)), (24, lA 2 (List.map e_Pin r7)), (25, iA (r7.length : Int)), (26, iA (i9 : Int)), (12, bA v13)]
  let q18_g' : Hp := [(1, .map (keys PG 28) (encM kv_Pin dv_i64 r1)), (2, .row 28 2 (List.map e_Pin y10)), (3, .cells 28 [.c (sC x11.Part), .c (sC x11.Pin)])]
  have R15 : Runs PG 45 0 (cL (cR (cL (cL (cR (cR nl_LooseOf_c1)))))) q18_f q18_g (.nor q18_f' q18_g') := by
    rcases opt_e h14 with ⟨v16, h17, h14⟩ | ⟨h17, h14⟩
    · have h14 := Option.some.inj h14
      subst h14
      exact Runs.path XTok PGmix [.r [.look (some (dv_i64 v16))]] [] (an kd_Pin (an (Eq.refl (keys PG 28)) (an (kf_Pin x11) (tl_some dv_i64 ki_Pin h17)))) (by kernel_rfl)
    · have h14 := Option.some.inj h14
      subst h14
      exact Runs.path XTok PGmix [.r [.look (none)]] [] (an kd_Pin (an (Eq.refl (keys PG 28)) (an (kf_Pin x11) (tl_none dv_i64 ki_Pin h17)))) (by kernel_rfl)
  obtain ⟨v19, h20, h⟩ := bnd1_e h
  let q24_f : Fr := [(0, lA 2 (List.map e_PartType a0)), (5, .t (.v (.rt 1))), (6, .t (.v (.rt 2))), (10, .t (.v (.ptr 3 0))), (16, lA 2 (List.map e_Part a1.Parts)), (17, iA (a1.Parts.length : Int)), (18, iA (i3 : Int)), (24, lA 2 (List.map e_Pin r7)), (25, iA (r7.length : Int)), (26, iA (i9 : Int)), (37, bA (!v13))]
  let q24_g : Hp := [(1, .map (keys PG 28) (encM kv_Pin dv_i64 r1)), (2, .row 28 2 (List.map e_Pin y10)), (3, .cells 28 [.c (sC x11.Part), .c (sC x11.Pin)])]
  let q24_f' : Fr := [(0, lA 2 (List.map e_PartType a0)), (5, .t (.v (.rt 1))), (6, .t (.v (.rt 5))), (16, lA 2 (List.map e_Part a1.Parts)), (17, iA (a1.Parts.length : Int)), (18, iA (i3 : Int)), (24, lA 2 (List.map e_Pin r7)), (25, iA (r7.length : Int)), (26, iA (i9 : Int))]
  let q24_g' : Hp := [(1, .map (keys PG 28) (encM kv_Pin dv_i64 r1)), (5, .row 28 2 (List.map e_Pin v19))]
  have R21 : Runs PG 45 0 (cR (cR (cR (cL (cL (cR (cR nl_LooseOf_c1))))))) q24_f q24_g (.nor q24_f' q24_g') := by
    rcases cnd_e h20 with ⟨h22, h20⟩ | ⟨h22, h20⟩
    · obtain ⟨h23, h20⟩ := grd_e h20
      have h20 := Option.some.inj h20
      subst h20
      exact Runs.path XTok PGmix [.b true, .r [.id 4, .row (List.map e_Pin [x11]), .id 5, .row (List.map e_Pin (y10 ++ [x11]))]] [] (an h22 (an (Eq.refl (List.flatten (List.map e_Pin [x11]))) (app_ok e_Pin h23))) (by kernel_rfl)
    · have h20 := Option.some.inj h20
      subst h20
      exact Runs.path XTok PGmix [.b false] [(5, 2)] h22 (by kernel_rfl)
  have h := Option.some.inj h
  subst h
  exact Runs.path XTok PGmix [.r [], .b true, .r [.el (e_Pin x11), .id 3], .s q18_f q18_g [] (.nor q18_f' q18_g'), .r [], .s q24_f q24_g [] (.nor q24_f' q24_g'), .r [.eq 42 (iA ((i9 + 1 : Nat) : Int))]] [(2, 5)] (an (lt_true hi) (an (idx_ok e_Pin h12) (an R15 (an R21 (wrap_eq hi hM))))) (by kernel_rfl)
theorem nl_LooseOf_b1_e (a0 : List PartType) (a1 : Netlist) (r1 : (List (Pin × Int))) (i3 : Nat) (r7 : List Pin) (y10 : List Pin) : Runs PG 45 0 nl_LooseOf_c1 (nl_LooseOf_F1 a0 a1 r1 i3 r7 (r7.length) y10) (nl_LooseOf_H1 a0 a1 r1 i3 r7 (r7.length) y10) (nl_LooseOf_B1 a0 a1 r1 i3 r7 y10) := by
  exact Runs.path XTok PGmix [.r [], .b false] [] (lt_false (r7.length)) (by kernel_rfl)
theorem nl_LooseOf_l1 (a0 : List PartType) (a1 : Netlist) (r1 : (List (Pin × Int))) (i3 : Nat) (r7 : List Pin) (y10 : List Pin) (r : Fin' (List Pin) (List Pin)) (h : forN (fun i9 s => nl_LooseOf_b1 a0 a1 r1 i3 r7 i9 s) (r7.length) 0 y10 = some r) : Runs PG 45 0 (cL (cR (cR (cL (cL (cR (cR nl_LooseOf_c0))))))) (nl_LooseOf_F1 a0 a1 r1 i3 r7 0 y10) (nl_LooseOf_H1 a0 a1 r1 i3 r7 0 y10) (finOc (nl_LooseOf_B1 a0 a1 r1 i3 r7) nl_LooseOf_R r) :=
  Runs.loop' (by kernel_rfl) (forN_rounds (σ := (List Pin)) (ρ := (List Pin)) (body := fun i9 s => nl_LooseOf_b1 a0 a1 r1 i3 r7 i9 s) (F := fun i9 s => nl_LooseOf_F1 a0 a1 r1 i3 r7 i9 s) (H := fun i9 s => nl_LooseOf_H1 a0 a1 r1 i3 r7 i9 s) (B := nl_LooseOf_B1 a0 a1 r1 i3 r7) (R := nl_LooseOf_R) (M := r7.length) (fun _ => rfl) (fun _ => rfl) (fun s => nl_LooseOf_b1_e a0 a1 r1 i3 r7 s) (fun i s o hi h => nl_LooseOf_b1_r a0 a1 r1 i3 r7 i s o hi h) _ 0 _ r (Nat.zero_add _) h)
noncomputable def nl_LooseOf_F0 (a0 : List PartType) (a1 : Netlist) (r1 : (List (Pin × Int))) (i3 : Nat) (y4 : List Pin) : Fr := [(0, lA 2 (List.map e_PartType a0)), (5, .t (.v (.rt 1))), (6, .t (.v (.rt 2))), (16, lA 2 (List.map e_Part a1.Parts)), (17, iA (a1.Parts.length : Int)), (18, iA (i3 : Int))]
noncomputable def nl_LooseOf_H0 (a0 : List PartType) (a1 : Netlist) (r1 : (List (Pin × Int))) (i3 : Nat) (y4 : List Pin) : Hp := [(1, .map (keys PG 28) (encM kv_Pin dv_i64 r1)), (2, .row 28 2 (List.map e_Pin y4))]
noncomputable def nl_LooseOf_B0 (a0 : List PartType) (a1 : Netlist) (r1 : (List (Pin × Int))) (s : List Pin) : Oc := .ex 0 [(6, .t (.v (.rt 2)))] [(2, .row 28 2 (List.map e_Pin s))]
noncomputable def nl_LooseOf_b0 (a0 : List PartType) (a1 : Netlist) (r1 : (List (Pin × Int))) (i3 : Nat) (y4 : List Pin) : Option (Stp (List Pin) (List Pin)) :=
 bnd (atI a1.Parts (i3 : Int)) fun x5 =>
 bnd (nl_pinsOf a0 x5) fun r7 =>
 aft1 (forN (fun i9 s => nl_LooseOf_b1 a0 a1 r1 i3 r7 i9 s) (r7.length) 0 y4) (fun u25 =>
 some (.go u25))
 (fun r27 =>
 some (.ret r27))
theorem nl_LooseOf_b0_r (a0 : List PartType) (a1 : Netlist) (r1 : (List (Pin × Int))) (i3 : Nat) (y4 : List Pin) (o : Stp (List Pin) (List Pin)) (hi : i3 < a1.Parts.length) (h : nl_LooseOf_b0 a0 a1 r1 i3 y4 = some o) :
    Runs PG 45 0 nl_LooseOf_c0 (nl_LooseOf_F0 a0 a1 r1 i3 y4) (nl_LooseOf_H0 a0 a1 r1 i3 y4) (stpOc (fun s' => .nor (nl_LooseOf_F0 a0 a1 r1 (i3 + 1) s') (nl_LooseOf_H0 a0 a1 r1 (i3 + 1) s')) (nl_LooseOf_B0 a0 a1 r1) nl_LooseOf_R o) := by
  unfold nl_LooseOf_b0 at h
  refine Runs.len (s := 16) (sz := 2) (xs := List.map e_Part a1.Parts) (by kernel_rfl) fun hl => ?_
  have hM : a1.Parts.length ≤ lim := len_of hl
  obtain ⟨x5, h6, h⟩ := bnd_e h
  obtain ⟨r7, h8, h⟩ := bnd_e h
  rcases aft1_e h with ⟨u25, h26, h⟩ | ⟨r27, h26, h⟩
  · have h := Option.some.inj h
    subst h
    exact Runs.path XTok PGmix [.r [], .b true, .r [.el (e_Part x5), .id 3], .r [.val (lA 2 (List.map e_Pin r7)), .eq 25 (iA (r7.length : Int))], .s (nl_LooseOf_F1 a0 a1 r1 i3 r7 0 y4) (nl_LooseOf_H1 a0 a1 r1 i3 r7 0 y4) [] (nl_LooseOf_B1 a0 a1 r1 i3 r7 u25), .r [.eq 43 (iA ((i3 + 1 : Nat) : Int))]] [] (an (lt_true hi) (an (idx_ok e_Part h6) (an (nl_pinsOf_ok a0 x5 r7 h8) (an (leni_eq e_Pin r7) (an (nl_LooseOf_l1 a0 a1 r1 i3 r7 y4 (.fin u25) h26) (wrap_eq hi hM)))))) (by kernel_rfl)
  · have h := Option.some.inj h
    subst h
    exact Runs.path XTok PGmix [.r [], .b true, .r [.el (e_Part x5), .id 3], .r [.val (lA 2 (List.map e_Pin r7)), .eq 25 (iA (r7.length : Int))], .s (nl_LooseOf_F1 a0 a1 r1 i3 r7 0 y4) (nl_LooseOf_H1 a0 a1 r1 i3 r7 0 y4) [] (nl_LooseOf_R r27)] [] (an (lt_true hi) (an (idx_ok e_Part h6) (an (nl_pinsOf_ok a0 x5 r7 h8) (an (leni_eq e_Pin r7) (nl_LooseOf_l1 a0 a1 r1 i3 r7 y4 (.ret r27) h26))))) (by kernel_rfl)
theorem nl_LooseOf_b0_e (a0 : List PartType) (a1 : Netlist) (r1 : (List (Pin × Int))) (y4 : List Pin) : Runs PG 45 0 nl_LooseOf_c0 (nl_LooseOf_F0 a0 a1 r1 (a1.Parts.length) y4) (nl_LooseOf_H0 a0 a1 r1 (a1.Parts.length) y4) (nl_LooseOf_B0 a0 a1 r1 y4) := by
  exact Runs.path XTok PGmix [.r [], .b false] [] (lt_false (a1.Parts.length)) (by kernel_rfl)
theorem nl_LooseOf_l0 (a0 : List PartType) (a1 : Netlist) (r1 : (List (Pin × Int))) (y4 : List Pin) (r : Fin' (List Pin) (List Pin)) (h : forN (fun i3 s => nl_LooseOf_b0 a0 a1 r1 i3 s) (a1.Parts.length) 0 y4 = some r) : Runs PG 45 0 (cL (cR (cL (cR (cR (cR nl_LooseOf_c)))))) (nl_LooseOf_F0 a0 a1 r1 0 y4) (nl_LooseOf_H0 a0 a1 r1 0 y4) (finOc (nl_LooseOf_B0 a0 a1 r1) nl_LooseOf_R r) :=
  Runs.loop' (by kernel_rfl) (forN_rounds (σ := (List Pin)) (ρ := (List Pin)) (body := fun i3 s => nl_LooseOf_b0 a0 a1 r1 i3 s) (F := fun i3 s => nl_LooseOf_F0 a0 a1 r1 i3 s) (H := fun i3 s => nl_LooseOf_H0 a0 a1 r1 i3 s) (B := nl_LooseOf_B0 a0 a1 r1) (R := nl_LooseOf_R) (M := a1.Parts.length) (fun _ => rfl) (fun _ => rfl) (fun s => nl_LooseOf_b0_e a0 a1 r1 s) (fun i s o hi h => nl_LooseOf_b0_r a0 a1 r1 i s o hi h) _ 0 _ r (Nat.zero_add _) h)
noncomputable def nl_LooseOf (a0 : List PartType) (a1 : Netlist) : Option (List Pin) :=
 bnd (nl_Nets a1) fun r1 =>
 aft1 (forN (fun i3 s => nl_LooseOf_b0 a0 a1 r1 i3 s) (a1.Parts.length) 0 []) (fun u28 =>
 some u28)
 (fun r30 =>
 some r30)
theorem nl_LooseOf_ok (a0 : List PartType) (a1 : Netlist) (r : List Pin) (h : nl_LooseOf a0 a1 = some r) : Spec PG 54 [lT 2 (List.map e_PartType a0), gT (e_Netlist a1)] [] (lA 2 (List.map e_Pin r)) [] := by
  unfold nl_LooseOf at h
  obtain ⟨r1, h2, h⟩ := bnd_e h
  rcases aft1_e h with ⟨u28, h29, h⟩ | ⟨r30, h29, h⟩
  · have h := Option.some.inj h
    subst h
    exact Spec.path XTok PGmix nl_LooseOf_fn 0 [.r [.id 0, .nl 2], .r [.call [(0, 1)] [gT (e_Netlist a1)] [] (.t (.v (.rt 0))) [(0, .map (keys PG 28) (encM kv_Pin dv_i64 r1))]], .r [.mk 2 28 2], .r [.eq 17 (iA (a1.Parts.length : Int))], .s (nl_LooseOf_F0 a0 a1 r1 0 []) (nl_LooseOf_H0 a0 a1 r1 0 []) [] (nl_LooseOf_B0 a0 a1 r1 u28), .r [], .f 2] (an (an (nl_Nets_ok a1 r1 h2) (an (Eq.refl ([gT (e_Netlist a1)] : List TV)) (Eq.refl (renH (asg [(0, 1)]) [])))) (an (leni_eq e_Part a1.Parts) (nl_LooseOf_l0 a0 a1 r1 [] (.fin u28) h29))) (by kernel_rfl)
  · have h := Option.some.inj h
    subst h
    exact Spec.path XTok PGmix nl_LooseOf_fn 0 [.r [.id 0, .nl 2], .r [.call [(0, 1)] [gT (e_Netlist a1)] [] (.t (.v (.rt 0))) [(0, .map (keys PG 28) (encM kv_Pin dv_i64 r1))]], .r [.mk 2 28 2], .r [.eq 17 (iA (a1.Parts.length : Int))], .s (nl_LooseOf_F0 a0 a1 r1 0 []) (nl_LooseOf_H0 a0 a1 r1 0 []) [] (nl_LooseOf_R r30)] (an (an (nl_Nets_ok a1 r1 h2) (an (Eq.refl ([gT (e_Netlist a1)] : List TV)) (Eq.refl (renH (asg [(0, 1)]) [])))) (an (leni_eq e_Part a1.Parts) (nl_LooseOf_l0 a0 a1 r1 [] (.ret r30) h29))) (by kernel_rfl)

noncomputable def nl_Loose_c : Code := (Go.Proofs.Tryd.f17.body).getD .skip
theorem nl_Loose_fn : FnOk PG 17 nl_Loose_c 16 [.tmp 4, .tmp 5] := ⟨⟨Go.Proofs.Tryd.f17, by kernel_rfl, by kernel_rfl, by kernel_rfl, by kernel_rfl, by kernel_rfl⟩⟩
noncomputable def nl_Loose (a0 : List PartType) (a1 : Netlist) : Option (List Pin × Int) :=
 bnd (nl_CheckList a0 a1) fun r1 =>
 cnd (r1 != 0) (some ([], r1)) (bnd (nl_LooseOf a0 a1) fun r4 =>
 some (r4, 0))
theorem nl_Loose_ok (a0 : List PartType) (a1 : Netlist) (r : List Pin × Int) (h : nl_Loose a0 a1 = some r) : Spec PG 17 [lT 2 (List.map e_PartType a0), gT (e_Netlist a1)] [] (.tup [lT 2 (List.map e_Pin r.1), iT r.2]) [] := by
  unfold nl_Loose at h
  obtain ⟨r1, h2, h⟩ := bnd_e h
  rcases cnd_e h with ⟨h3, h⟩ | ⟨h3, h⟩
  · have h := Option.some.inj h
    subst h
    exact Spec.path XTok PGmix nl_Loose_fn 0 [.r [.id 0, .nl 2], .r [.val (iA r1)], .r [], .b true, .r [.nl 2]] (an (nl_CheckList_ok a0 a1 r1 h2) h3) (by kernel_rfl)
  · obtain ⟨r4, h5, h⟩ := bnd_e h
    have h := Option.some.inj h
    subst h
    exact Spec.path XTok PGmix nl_Loose_fn 0 [.r [.id 0, .nl 2], .r [.val (iA r1)], .r [], .b false, .r [.val (lA 2 (List.map e_Pin r4))]] (an (nl_CheckList_ok a0 a1 r1 h2) (an h3 (nl_LooseOf_ok a0 a1 r4 h5))) (by kernel_rfl)

noncomputable def law_awake_c : Code := (Go.Proofs.Tryd.f20.body).getD .skip
theorem law_awake_fn : FnOk PG 20 law_awake_c 30 [.tmp 0] := ⟨⟨Go.Proofs.Tryd.f20, by kernel_rfl, by kernel_rfl, by kernel_rfl, by kernel_rfl, by kernel_rfl⟩⟩
noncomputable def law_awake : Option Bool :=
 bnd (nl_Loose ([(⟨(⟨#[114]⟩ : ByteArray), [(⟨(⟨#[49]⟩ : ByteArray), 6, 0⟩ : PinType)]⟩ : PartType)]) (⟨[(⟨(⟨#[97]⟩ : ByteArray), (⟨#[114]⟩ : ByteArray)⟩ : Part)], []⟩ : Netlist)) fun r1 =>
 bnd1 (cnd (r1.2 == 0) (cnd ((r1.1.length : Int) == 1) (bnd (atI r1.1 0) fun x8 =>
 some (sEq x8.Part (⟨#[97]⟩ : ByteArray) && (sEq x8.Pin (⟨#[49]⟩ : ByteArray) && true))) (some false)) (some false)) fun v3 =>
 some v3
theorem law_awake_ok (r : Bool) (h : law_awake = some r) : Spec PG 20 [] [] (bA r) [] := by
  unfold law_awake at h
  obtain ⟨r1, h2, h⟩ := bnd_e h
  obtain ⟨v3, h4, h⟩ := bnd1_e h
  let q10_f : Fr := [(2, lA 2 (List.map e_Pin r1.1)), (3, iA r1.2)]
  let q10_g : Hp := []
  let q10_f' : Fr := [(0, bA v3)]
  let q10_g' : Hp := []
  have R5 : Runs PG 30 0 (cL (cR (cR (cR law_awake_c)))) q10_f q10_g (.nor q10_f' q10_g') := by
    rcases cnd_e h4 with ⟨h6, h4⟩ | ⟨h6, h4⟩
    · rcases cnd_e h4 with ⟨h7, h4⟩ | ⟨h7, h4⟩
      · obtain ⟨x8, h9, h4⟩ := bnd_e h4
        have h4 := Option.some.inj h4
        subst h4
        exact Runs.path XTok PGmix [.r [.b true, .b true, .eq 20 (iA (r1.1.length : Int)), .b true, .b true, .b true, .b true, .el (e_Pin x8), .b true, .b true, .b true, .b true]] [] (an h6 (an h6 (an (leni_eq e_Pin r1.1) (an h6 (an h6 (an h7 (an h7 (an (idx_ok e_Pin h9) (an h7 (an h7 (an h7 h7))))))))))) (by kernel_rfl)
      · have h4 := Option.some.inj h4
        subst h4
        exact Runs.path XTok PGmix [.r [.b true, .b true, .eq 20 (iA (r1.1.length : Int)), .b true, .b true, .b false, .b false, .b false, .b false, .b false, .b false]] [] (an h6 (an h6 (an (leni_eq e_Pin r1.1) (an h6 (an h6 (an h7 (an h7 (an h7 (an h7 (an h7 h7)))))))))) (by kernel_rfl)
    · have h4 := Option.some.inj h4
      subst h4
      exact Runs.path XTok PGmix [.r [.b false, .b false, .b false, .b false, .b false, .b false, .b false, .b false, .b false, .b false]] [] (an h6 (an h6 (an h6 (an h6 (an (Eq.refl false) (an (Eq.refl false) (an (Eq.refl false) (an (Eq.refl false) (an (Eq.refl false) (Eq.refl false)))))))))) (by kernel_rfl)
  have h := Option.some.inj h
  subst h
  exact Spec.path XTok PGmix law_awake_fn 0 [.r [], .r [.id 0, .row (List.map e_PinType [(⟨(⟨#[49]⟩ : ByteArray), 6, 0⟩ : PinType)]), .fz 0, .id 0, .row (List.map e_PartType [(⟨(⟨#[114]⟩ : ByteArray), [(⟨(⟨#[49]⟩ : ByteArray), 6, 0⟩ : PinType)]⟩ : PartType)])], .r [.id 1, .row (List.map e_Part [(⟨(⟨#[97]⟩ : ByteArray), (⟨#[114]⟩ : ByteArray)⟩ : Part)]), .fz 0, .fz 1, .val (.tup [lT 2 (List.map e_Pin r1.1), iT r1.2])], .s q10_f q10_g [] (.nor q10_f' q10_g')] (an (Eq.refl (List.flatten (List.map e_PinType [(⟨(⟨#[49]⟩ : ByteArray), 6, 0⟩ : PinType)]))) (an (Eq.refl (List.flatten (List.map e_PartType [(⟨(⟨#[114]⟩ : ByteArray), [(⟨(⟨#[49]⟩ : ByteArray), 6, 0⟩ : PinType)]⟩ : PartType)]))) (an (Eq.refl (List.flatten (List.map e_Part [(⟨(⟨#[97]⟩ : ByteArray), (⟨#[114]⟩ : ByteArray)⟩ : Part)]))) (an (Spec.fit (nl_Loose_ok ([(⟨(⟨#[114]⟩ : ByteArray), [(⟨(⟨#[49]⟩ : ByteArray), 6, 0⟩ : PinType)]⟩ : PartType)]) (⟨[(⟨(⟨#[97]⟩ : ByteArray), (⟨#[114]⟩ : ByteArray)⟩ : Part)], []⟩ : Netlist) r1 h2) (.cons (FitT.v (FitC.same _)) (.cons (FitT.agg (.cons (FitC.same _) (.cons (FitC.nil 3) .nil))) .nil))) R5)))) (by kernel_rfl)

noncomputable def slices_Equal_api_Pin_api_Pin_c : Code := (Go.Proofs.Tryd.f19.body).getD .skip
theorem slices_Equal_api_Pin_api_Pin_fn : FnOk PG 19 slices_Equal_api_Pin_api_Pin_c 26 [.tmp 4] := ⟨⟨Go.Proofs.Tryd.f19, by kernel_rfl, by kernel_rfl, by kernel_rfl, by kernel_rfl, by kernel_rfl⟩⟩
noncomputable def slices_Equal_api_Pin_api_Pin_c0 : Code := cL (cL (cR (cL (cR (cR slices_Equal_api_Pin_api_Pin_c)))))
noncomputable def slices_Equal_api_Pin_api_Pin_R (r : Bool) : Oc := .ret [(4, bA r)] []
noncomputable def slices_Equal_api_Pin_api_Pin_F0 (a0 : List Pin) (a1 : List Pin) (i2 : Nat) : Fr := [(0, lA 2 (List.map e_Pin a0)), (1, lA 2 (List.map e_Pin a1)), (11, lA 2 (List.map e_Pin a0)), (12, iA (a0.length : Int)), (13, iA (i2 : Int))]
noncomputable def slices_Equal_api_Pin_api_Pin_H0 (a0 : List Pin) (a1 : List Pin) (i2 : Nat) : Hp := []
noncomputable def slices_Equal_api_Pin_api_Pin_B0 (a0 : List Pin) (a1 : List Pin) (s : Unit) : Oc := .ex 0 [] []
noncomputable def slices_Equal_api_Pin_api_Pin_b0 (a0 : List Pin) (a1 : List Pin) (i2 : Nat) : Option (Stp Unit Bool) :=
 bnd (atI a0 (i2 : Int)) fun x3 =>
 bnd (atI a1 (i2 : Int)) fun x5 =>
 cnd (!(sEq x3.Part x5.Part && (sEq x3.Pin x5.Pin && true))) (some (.ret false)) (some (.go ()))
theorem slices_Equal_api_Pin_api_Pin_b0_r (a0 : List Pin) (a1 : List Pin) (i2 : Nat) (o : Stp Unit Bool) (hi : i2 < a0.length) (h : slices_Equal_api_Pin_api_Pin_b0 a0 a1 i2 = some o) :
    Runs PG 26 0 slices_Equal_api_Pin_api_Pin_c0 (slices_Equal_api_Pin_api_Pin_F0 a0 a1 i2 ) (slices_Equal_api_Pin_api_Pin_H0 a0 a1 i2 ) (stpOc (fun s' => .nor (slices_Equal_api_Pin_api_Pin_F0 a0 a1 (i2 + 1) ) (slices_Equal_api_Pin_api_Pin_H0 a0 a1 (i2 + 1) )) (slices_Equal_api_Pin_api_Pin_B0 a0 a1) slices_Equal_api_Pin_api_Pin_R o) := by
  unfold slices_Equal_api_Pin_api_Pin_b0 at h
  refine Runs.len (s := 11) (sz := 2) (xs := List.map e_Pin a0) (by kernel_rfl) fun hl => ?_
  have hM : a0.length ≤ lim := len_of hl
  obtain ⟨x3, h4, h⟩ := bnd_e h
  obtain ⟨x5, h6, h⟩ := bnd_e h
  rcases cnd_e h with ⟨h7, h⟩ | ⟨h7, h⟩
  · have h := Option.some.inj h
    subst h
    exact Runs.path XTok PGmix [.r [], .b true, .r [], .d [([], []), ([], []), ([], [.el (e_Pin x3)]), ([], []), ([], []), ([], []), ([], [.el (e_Pin x5)]), ([], []), ([], [])], .b true, .r []] [] (an (lt_true hi) (an (idx_ok e_Pin h4) (an (idx_ok e_Pin h6) h7))) (by kernel_rfl)
  · have h := Option.some.inj h
    subst h
    exact Runs.path XTok PGmix [.r [], .b true, .r [], .d [([], []), ([], []), ([], [.el (e_Pin x3)]), ([], []), ([], []), ([], []), ([], [.el (e_Pin x5)]), ([], []), ([], [])], .b false, .r [.eq 25 (iA ((i2 + 1 : Nat) : Int))]] [] (an (lt_true hi) (an (idx_ok e_Pin h4) (an (idx_ok e_Pin h6) (an h7 (wrap_eq hi hM))))) (by kernel_rfl)
theorem slices_Equal_api_Pin_api_Pin_b0_e (a0 : List Pin) (a1 : List Pin) : Runs PG 26 0 slices_Equal_api_Pin_api_Pin_c0 (slices_Equal_api_Pin_api_Pin_F0 a0 a1 (a0.length) ) (slices_Equal_api_Pin_api_Pin_H0 a0 a1 (a0.length) ) (slices_Equal_api_Pin_api_Pin_B0 a0 a1 ()) := by
  exact Runs.path XTok PGmix [.r [], .b false] [] (lt_false (a0.length)) (by kernel_rfl)
theorem slices_Equal_api_Pin_api_Pin_l0 (a0 : List Pin) (a1 : List Pin) (r : Fin' Unit Bool) (h : forN (fun i2 s => slices_Equal_api_Pin_api_Pin_b0 a0 a1 i2 ) (a0.length) 0 () = some r) : Runs PG 26 0 (cL (cR (cL (cR (cR slices_Equal_api_Pin_api_Pin_c))))) (slices_Equal_api_Pin_api_Pin_F0 a0 a1 0 ) (slices_Equal_api_Pin_api_Pin_H0 a0 a1 0 ) (finOc (slices_Equal_api_Pin_api_Pin_B0 a0 a1) slices_Equal_api_Pin_api_Pin_R r) :=
  Runs.loop' (by kernel_rfl) (forN_rounds (σ := Unit) (ρ := Bool) (body := fun i2 s => slices_Equal_api_Pin_api_Pin_b0 a0 a1 i2 ) (F := fun i2 s => slices_Equal_api_Pin_api_Pin_F0 a0 a1 i2 ) (H := fun i2 s => slices_Equal_api_Pin_api_Pin_H0 a0 a1 i2 ) (B := slices_Equal_api_Pin_api_Pin_B0 a0 a1) (R := slices_Equal_api_Pin_api_Pin_R) (M := a0.length) (fun _ => rfl) (fun _ => rfl) (fun s => slices_Equal_api_Pin_api_Pin_b0_e a0 a1 ) (fun i s o hi h => slices_Equal_api_Pin_api_Pin_b0_r a0 a1 i o hi h) _ 0 _ r (Nat.zero_add _) h)
noncomputable def slices_Equal_api_Pin_api_Pin (a0 : List Pin) (a1 : List Pin) : Option Bool :=
 cnd ((a0.length : Int) != (a1.length : Int)) (some false) (aft0 (forN (fun i2 s => slices_Equal_api_Pin_api_Pin_b0 a0 a1 i2 ) (a0.length) 0 ()) (
 some true)
 (fun r9 =>
 some r9))
theorem slices_Equal_api_Pin_api_Pin_ok (a0 : List Pin) (a1 : List Pin) (r : Bool) (h : slices_Equal_api_Pin_api_Pin a0 a1 = some r) : Spec PG 19 [lT 2 (List.map e_Pin a0), lT 2 (List.map e_Pin a1)] [] (bA r) [] := by
  unfold slices_Equal_api_Pin_api_Pin at h
  rcases cnd_e h with ⟨h1, h⟩ | ⟨h1, h⟩
  · have h := Option.some.inj h
    subst h
    exact Spec.path XTok PGmix slices_Equal_api_Pin_api_Pin_fn 0 [.r [], .r [.eq 7 (iA (a0.length : Int)), .eq 9 (iA (a1.length : Int))], .b true, .r []] (an (leni_eq e_Pin a0) (an (leni_eq e_Pin a1) h1)) (by kernel_rfl)
  · rcases aft0_e h with ⟨h8, h⟩ | ⟨r9, h8, h⟩
    · have h := Option.some.inj h
      subst h
      exact Spec.path XTok PGmix slices_Equal_api_Pin_api_Pin_fn 0 [.r [], .r [.eq 7 (iA (a0.length : Int)), .eq 9 (iA (a1.length : Int))], .b false, .r [.eq 12 (iA (a0.length : Int))], .s (slices_Equal_api_Pin_api_Pin_F0 a0 a1 0 ) (slices_Equal_api_Pin_api_Pin_H0 a0 a1 0 ) [] (slices_Equal_api_Pin_api_Pin_B0 a0 a1 ()), .r []] (an (leni_eq e_Pin a0) (an (leni_eq e_Pin a1) (an h1 (an (leni_eq e_Pin a0) (slices_Equal_api_Pin_api_Pin_l0 a0 a1 (.fin ()) h8))))) (by kernel_rfl)
    · have h := Option.some.inj h
      subst h
      exact Spec.path XTok PGmix slices_Equal_api_Pin_api_Pin_fn 0 [.r [], .r [.eq 7 (iA (a0.length : Int)), .eq 9 (iA (a1.length : Int))], .b false, .r [.eq 12 (iA (a0.length : Int))], .s (slices_Equal_api_Pin_api_Pin_F0 a0 a1 0 ) (slices_Equal_api_Pin_api_Pin_H0 a0 a1 0 ) [] (slices_Equal_api_Pin_api_Pin_R r9)] (an (leni_eq e_Pin a0) (an (leni_eq e_Pin a1) (an h1 (an (leni_eq e_Pin a0) (slices_Equal_api_Pin_api_Pin_l0 a0 a1 (.ret r9) h8))))) (by kernel_rfl)

noncomputable def slices_Equal_api_Part_api_Part_c : Code := (Go.Proofs.Tryd.f70.body).getD .skip
theorem slices_Equal_api_Part_api_Part_fn : FnOk PG 70 slices_Equal_api_Part_api_Part_c 26 [.tmp 4] := ⟨⟨Go.Proofs.Tryd.f70, by kernel_rfl, by kernel_rfl, by kernel_rfl, by kernel_rfl, by kernel_rfl⟩⟩
noncomputable def slices_Equal_api_Part_api_Part_c0 : Code := cL (cL (cR (cL (cR (cR slices_Equal_api_Part_api_Part_c)))))
noncomputable def slices_Equal_api_Part_api_Part_R (r : Bool) : Oc := .ret [(4, bA r)] []
noncomputable def slices_Equal_api_Part_api_Part_F0 (a0 : List Part) (a1 : List Part) (i2 : Nat) : Fr := [(0, lA 2 (List.map e_Part a0)), (1, lA 2 (List.map e_Part a1)), (11, lA 2 (List.map e_Part a0)), (12, iA (a0.length : Int)), (13, iA (i2 : Int))]
noncomputable def slices_Equal_api_Part_api_Part_H0 (a0 : List Part) (a1 : List Part) (i2 : Nat) : Hp := []
noncomputable def slices_Equal_api_Part_api_Part_B0 (a0 : List Part) (a1 : List Part) (s : Unit) : Oc := .ex 0 [] []
noncomputable def slices_Equal_api_Part_api_Part_b0 (a0 : List Part) (a1 : List Part) (i2 : Nat) : Option (Stp Unit Bool) :=
 bnd (atI a0 (i2 : Int)) fun x3 =>
 bnd (atI a1 (i2 : Int)) fun x5 =>
 cnd (!(sEq x3.Name x5.Name && (sEq x3.Type_ x5.Type_ && true))) (some (.ret false)) (some (.go ()))
theorem slices_Equal_api_Part_api_Part_b0_r (a0 : List Part) (a1 : List Part) (i2 : Nat) (o : Stp Unit Bool) (hi : i2 < a0.length) (h : slices_Equal_api_Part_api_Part_b0 a0 a1 i2 = some o) :
    Runs PG 26 0 slices_Equal_api_Part_api_Part_c0 (slices_Equal_api_Part_api_Part_F0 a0 a1 i2 ) (slices_Equal_api_Part_api_Part_H0 a0 a1 i2 ) (stpOc (fun s' => .nor (slices_Equal_api_Part_api_Part_F0 a0 a1 (i2 + 1) ) (slices_Equal_api_Part_api_Part_H0 a0 a1 (i2 + 1) )) (slices_Equal_api_Part_api_Part_B0 a0 a1) slices_Equal_api_Part_api_Part_R o) := by
  unfold slices_Equal_api_Part_api_Part_b0 at h
  refine Runs.len (s := 11) (sz := 2) (xs := List.map e_Part a0) (by kernel_rfl) fun hl => ?_
  have hM : a0.length ≤ lim := len_of hl
  obtain ⟨x3, h4, h⟩ := bnd_e h
  obtain ⟨x5, h6, h⟩ := bnd_e h
  rcases cnd_e h with ⟨h7, h⟩ | ⟨h7, h⟩
  · have h := Option.some.inj h
    subst h
    exact Runs.path XTok PGmix [.r [], .b true, .r [], .d [([], []), ([], []), ([], [.el (e_Part x3)]), ([], []), ([], []), ([], []), ([], [.el (e_Part x5)]), ([], []), ([], [])], .b true, .r []] [] (an (lt_true hi) (an (idx_ok e_Part h4) (an (idx_ok e_Part h6) h7))) (by kernel_rfl)
  · have h := Option.some.inj h
    subst h
    exact Runs.path XTok PGmix [.r [], .b true, .r [], .d [([], []), ([], []), ([], [.el (e_Part x3)]), ([], []), ([], []), ([], []), ([], [.el (e_Part x5)]), ([], []), ([], [])], .b false, .r [.eq 25 (iA ((i2 + 1 : Nat) : Int))]] [] (an (lt_true hi) (an (idx_ok e_Part h4) (an (idx_ok e_Part h6) (an h7 (wrap_eq hi hM))))) (by kernel_rfl)
theorem slices_Equal_api_Part_api_Part_b0_e (a0 : List Part) (a1 : List Part) : Runs PG 26 0 slices_Equal_api_Part_api_Part_c0 (slices_Equal_api_Part_api_Part_F0 a0 a1 (a0.length) ) (slices_Equal_api_Part_api_Part_H0 a0 a1 (a0.length) ) (slices_Equal_api_Part_api_Part_B0 a0 a1 ()) := by
  exact Runs.path XTok PGmix [.r [], .b false] [] (lt_false (a0.length)) (by kernel_rfl)
theorem slices_Equal_api_Part_api_Part_l0 (a0 : List Part) (a1 : List Part) (r : Fin' Unit Bool) (h : forN (fun i2 s => slices_Equal_api_Part_api_Part_b0 a0 a1 i2 ) (a0.length) 0 () = some r) : Runs PG 26 0 (cL (cR (cL (cR (cR slices_Equal_api_Part_api_Part_c))))) (slices_Equal_api_Part_api_Part_F0 a0 a1 0 ) (slices_Equal_api_Part_api_Part_H0 a0 a1 0 ) (finOc (slices_Equal_api_Part_api_Part_B0 a0 a1) slices_Equal_api_Part_api_Part_R r) :=
  Runs.loop' (by kernel_rfl) (forN_rounds (σ := Unit) (ρ := Bool) (body := fun i2 s => slices_Equal_api_Part_api_Part_b0 a0 a1 i2 ) (F := fun i2 s => slices_Equal_api_Part_api_Part_F0 a0 a1 i2 ) (H := fun i2 s => slices_Equal_api_Part_api_Part_H0 a0 a1 i2 ) (B := slices_Equal_api_Part_api_Part_B0 a0 a1) (R := slices_Equal_api_Part_api_Part_R) (M := a0.length) (fun _ => rfl) (fun _ => rfl) (fun s => slices_Equal_api_Part_api_Part_b0_e a0 a1 ) (fun i s o hi h => slices_Equal_api_Part_api_Part_b0_r a0 a1 i o hi h) _ 0 _ r (Nat.zero_add _) h)
noncomputable def slices_Equal_api_Part_api_Part (a0 : List Part) (a1 : List Part) : Option Bool :=
 cnd ((a0.length : Int) != (a1.length : Int)) (some false) (aft0 (forN (fun i2 s => slices_Equal_api_Part_api_Part_b0 a0 a1 i2 ) (a0.length) 0 ()) (
 some true)
 (fun r9 =>
 some r9))
theorem slices_Equal_api_Part_api_Part_ok (a0 : List Part) (a1 : List Part) (r : Bool) (h : slices_Equal_api_Part_api_Part a0 a1 = some r) : Spec PG 70 [lT 2 (List.map e_Part a0), lT 2 (List.map e_Part a1)] [] (bA r) [] := by
  unfold slices_Equal_api_Part_api_Part at h
  rcases cnd_e h with ⟨h1, h⟩ | ⟨h1, h⟩
  · have h := Option.some.inj h
    subst h
    exact Spec.path XTok PGmix slices_Equal_api_Part_api_Part_fn 0 [.r [], .r [.eq 7 (iA (a0.length : Int)), .eq 9 (iA (a1.length : Int))], .b true, .r []] (an (leni_eq e_Part a0) (an (leni_eq e_Part a1) h1)) (by kernel_rfl)
  · rcases aft0_e h with ⟨h8, h⟩ | ⟨r9, h8, h⟩
    · have h := Option.some.inj h
      subst h
      exact Spec.path XTok PGmix slices_Equal_api_Part_api_Part_fn 0 [.r [], .r [.eq 7 (iA (a0.length : Int)), .eq 9 (iA (a1.length : Int))], .b false, .r [.eq 12 (iA (a0.length : Int))], .s (slices_Equal_api_Part_api_Part_F0 a0 a1 0 ) (slices_Equal_api_Part_api_Part_H0 a0 a1 0 ) [] (slices_Equal_api_Part_api_Part_B0 a0 a1 ()), .r []] (an (leni_eq e_Part a0) (an (leni_eq e_Part a1) (an h1 (an (leni_eq e_Part a0) (slices_Equal_api_Part_api_Part_l0 a0 a1 (.fin ()) h8))))) (by kernel_rfl)
    · have h := Option.some.inj h
      subst h
      exact Spec.path XTok PGmix slices_Equal_api_Part_api_Part_fn 0 [.r [], .r [.eq 7 (iA (a0.length : Int)), .eq 9 (iA (a1.length : Int))], .b false, .r [.eq 12 (iA (a0.length : Int))], .s (slices_Equal_api_Part_api_Part_F0 a0 a1 0 ) (slices_Equal_api_Part_api_Part_H0 a0 a1 0 ) [] (slices_Equal_api_Part_api_Part_R r9)] (an (leni_eq e_Part a0) (an (leni_eq e_Part a1) (an h1 (an (leni_eq e_Part a0) (slices_Equal_api_Part_api_Part_l0 a0 a1 (.ret r9) h8))))) (by kernel_rfl)

noncomputable def slices_Equal_string_string_c : Code := (Go.Proofs.Tryd.f71.body).getD .skip
theorem slices_Equal_string_string_fn : FnOk PG 71 slices_Equal_string_string_c 26 [.tmp 4] := ⟨⟨Go.Proofs.Tryd.f71, by kernel_rfl, by kernel_rfl, by kernel_rfl, by kernel_rfl, by kernel_rfl⟩⟩
noncomputable def slices_Equal_string_string_c0 : Code := cL (cL (cR (cL (cR (cR slices_Equal_string_string_c)))))
noncomputable def slices_Equal_string_string_R (r : Bool) : Oc := .ret [(4, bA r)] []
noncomputable def slices_Equal_string_string_F0 (a0 : List ByteArray) (a1 : List ByteArray) (i2 : Nat) : Fr := [(0, lA 1 (List.map e_str a0)), (1, lA 1 (List.map e_str a1)), (11, lA 1 (List.map e_str a0)), (12, iA (a0.length : Int)), (13, iA (i2 : Int))]
noncomputable def slices_Equal_string_string_H0 (a0 : List ByteArray) (a1 : List ByteArray) (i2 : Nat) : Hp := []
noncomputable def slices_Equal_string_string_B0 (a0 : List ByteArray) (a1 : List ByteArray) (s : Unit) : Oc := .ex 0 [] []
noncomputable def slices_Equal_string_string_b0 (a0 : List ByteArray) (a1 : List ByteArray) (i2 : Nat) : Option (Stp Unit Bool) :=
 bnd (atI a0 (i2 : Int)) fun x3 =>
 bnd (atI a1 (i2 : Int)) fun x5 =>
 cnd (sNe x3 x5) (some (.ret false)) (some (.go ()))
theorem slices_Equal_string_string_b0_r (a0 : List ByteArray) (a1 : List ByteArray) (i2 : Nat) (o : Stp Unit Bool) (hi : i2 < a0.length) (h : slices_Equal_string_string_b0 a0 a1 i2 = some o) :
    Runs PG 26 0 slices_Equal_string_string_c0 (slices_Equal_string_string_F0 a0 a1 i2 ) (slices_Equal_string_string_H0 a0 a1 i2 ) (stpOc (fun s' => .nor (slices_Equal_string_string_F0 a0 a1 (i2 + 1) ) (slices_Equal_string_string_H0 a0 a1 (i2 + 1) )) (slices_Equal_string_string_B0 a0 a1) slices_Equal_string_string_R o) := by
  unfold slices_Equal_string_string_b0 at h
  refine Runs.len (s := 11) (sz := 1) (xs := List.map e_str a0) (by kernel_rfl) fun hl => ?_
  have hM : a0.length ≤ lim := len_of hl
  obtain ⟨x3, h4, h⟩ := bnd_e h
  obtain ⟨x5, h6, h⟩ := bnd_e h
  rcases cnd_e h with ⟨h7, h⟩ | ⟨h7, h⟩
  · have h := Option.some.inj h
    subst h
    exact Runs.path XTok PGmix [.r [], .b true, .r [], .d [([], []), ([], []), ([], [.el [sC x3]]), ([], []), ([], []), ([], []), ([], [.el [sC x5]]), ([], []), ([], [])], .b true, .r []] [] (an (lt_true hi) (an (idx_ok e_str h4) (an (idx_ok e_str h6) h7))) (by kernel_rfl)
  · have h := Option.some.inj h
    subst h
    exact Runs.path XTok PGmix [.r [], .b true, .r [], .d [([], []), ([], []), ([], [.el [sC x3]]), ([], []), ([], []), ([], []), ([], [.el [sC x5]]), ([], []), ([], [])], .b false, .r [.eq 25 (iA ((i2 + 1 : Nat) : Int))]] [] (an (lt_true hi) (an (idx_ok e_str h4) (an (idx_ok e_str h6) (an h7 (wrap_eq hi hM))))) (by kernel_rfl)
theorem slices_Equal_string_string_b0_e (a0 : List ByteArray) (a1 : List ByteArray) : Runs PG 26 0 slices_Equal_string_string_c0 (slices_Equal_string_string_F0 a0 a1 (a0.length) ) (slices_Equal_string_string_H0 a0 a1 (a0.length) ) (slices_Equal_string_string_B0 a0 a1 ()) := by
  exact Runs.path XTok PGmix [.r [], .b false] [] (lt_false (a0.length)) (by kernel_rfl)
theorem slices_Equal_string_string_l0 (a0 : List ByteArray) (a1 : List ByteArray) (r : Fin' Unit Bool) (h : forN (fun i2 s => slices_Equal_string_string_b0 a0 a1 i2 ) (a0.length) 0 () = some r) : Runs PG 26 0 (cL (cR (cL (cR (cR slices_Equal_string_string_c))))) (slices_Equal_string_string_F0 a0 a1 0 ) (slices_Equal_string_string_H0 a0 a1 0 ) (finOc (slices_Equal_string_string_B0 a0 a1) slices_Equal_string_string_R r) :=
  Runs.loop' (by kernel_rfl) (forN_rounds (σ := Unit) (ρ := Bool) (body := fun i2 s => slices_Equal_string_string_b0 a0 a1 i2 ) (F := fun i2 s => slices_Equal_string_string_F0 a0 a1 i2 ) (H := fun i2 s => slices_Equal_string_string_H0 a0 a1 i2 ) (B := slices_Equal_string_string_B0 a0 a1) (R := slices_Equal_string_string_R) (M := a0.length) (fun _ => rfl) (fun _ => rfl) (fun s => slices_Equal_string_string_b0_e a0 a1 ) (fun i s o hi h => slices_Equal_string_string_b0_r a0 a1 i o hi h) _ 0 _ r (Nat.zero_add _) h)
noncomputable def slices_Equal_string_string (a0 : List ByteArray) (a1 : List ByteArray) : Option Bool :=
 cnd ((a0.length : Int) != (a1.length : Int)) (some false) (aft0 (forN (fun i2 s => slices_Equal_string_string_b0 a0 a1 i2 ) (a0.length) 0 ()) (
 some true)
 (fun r9 =>
 some r9))
theorem slices_Equal_string_string_ok (a0 : List ByteArray) (a1 : List ByteArray) (r : Bool) (h : slices_Equal_string_string a0 a1 = some r) : Spec PG 71 [lT 1 (List.map e_str a0), lT 1 (List.map e_str a1)] [] (bA r) [] := by
  unfold slices_Equal_string_string at h
  rcases cnd_e h with ⟨h1, h⟩ | ⟨h1, h⟩
  · have h := Option.some.inj h
    subst h
    exact Spec.path XTok PGmix slices_Equal_string_string_fn 0 [.r [], .r [.eq 7 (iA (a0.length : Int)), .eq 9 (iA (a1.length : Int))], .b true, .r []] (an (leni_eq e_str a0) (an (leni_eq e_str a1) h1)) (by kernel_rfl)
  · rcases aft0_e h with ⟨h8, h⟩ | ⟨r9, h8, h⟩
    · have h := Option.some.inj h
      subst h
      exact Spec.path XTok PGmix slices_Equal_string_string_fn 0 [.r [], .r [.eq 7 (iA (a0.length : Int)), .eq 9 (iA (a1.length : Int))], .b false, .r [.eq 12 (iA (a0.length : Int))], .s (slices_Equal_string_string_F0 a0 a1 0 ) (slices_Equal_string_string_H0 a0 a1 0 ) [] (slices_Equal_string_string_B0 a0 a1 ()), .r []] (an (leni_eq e_str a0) (an (leni_eq e_str a1) (an h1 (an (leni_eq e_str a0) (slices_Equal_string_string_l0 a0 a1 (.fin ()) h8))))) (by kernel_rfl)
    · have h := Option.some.inj h
      subst h
      exact Spec.path XTok PGmix slices_Equal_string_string_fn 0 [.r [], .r [.eq 7 (iA (a0.length : Int)), .eq 9 (iA (a1.length : Int))], .b false, .r [.eq 12 (iA (a0.length : Int))], .s (slices_Equal_string_string_F0 a0 a1 0 ) (slices_Equal_string_string_H0 a0 a1 0 ) [] (slices_Equal_string_string_R r9)] (an (leni_eq e_str a0) (an (leni_eq e_str a1) (an h1 (an (leni_eq e_str a0) (slices_Equal_string_string_l0 a0 a1 (.ret r9) h8))))) (by kernel_rfl)

noncomputable def ref_Same_c : Code := (Go.Proofs.Tryd.f26.body).getD .skip
theorem ref_Same_fn : FnOk PG 26 ref_Same_c 64 [.tmp 4] := ⟨⟨Go.Proofs.Tryd.f26, by kernel_rfl, by kernel_rfl, by kernel_rfl, by kernel_rfl, by kernel_rfl⟩⟩
noncomputable def ref_Same_c0 : Code := cL (cL (cR (cL (cR (cR ref_Same_c)))))
noncomputable def ref_Same_R (r : Bool) : Oc := .ret [(4, bA r)] []
noncomputable def ref_Same_F0 (a0 : Netlist) (a1 : Netlist) (i9 : Nat) : Fr := [(3, .t (.v (.ptr 1 0))), (23, lA 3 (List.map e_Net a0.Nets)), (24, iA (a0.Nets.length : Int)), (25, iA (i9 : Int))]
noncomputable def ref_Same_H0 (a0 : Netlist) (a1 : Netlist) (i9 : Nat) : Hp := [(1, .cells 26 [.c (.sl 2 (List.map e_Part a1.Parts)), .c (.sl 3 (List.map e_Net a1.Nets))])]
noncomputable def ref_Same_B0 (a0 : Netlist) (a1 : Netlist) (s : Unit) : Oc := .ex 0 [] []
noncomputable def ref_Same_b0 (a0 : Netlist) (a1 : Netlist) (i9 : Nat) : Option (Stp Unit Bool) :=
 bnd (atI a0.Nets (i9 : Int)) fun x10 =>
 bnd1 (bnd (atI a1.Nets (i9 : Int)) fun x15 =>
 cnd (sNe x10.Name x15.Name) (some true) (bnd (atI a1.Nets (i9 : Int)) fun x18 =>
 bnd (slices_Equal_api_Pin_api_Pin x10.Pins x18.Pins) fun r20 =>
 cnd (!r20) (some true) (bnd (atI a1.Nets (i9 : Int)) fun x23 =>
 bnd (slices_Equal_string_string x10.Ports x23.Ports) fun r25 =>
 some (!r25)))) fun v12 =>
 cnd v12 (some (.ret false)) (some (.go ()))
theorem ref_Same_b0_r (a0 : Netlist) (a1 : Netlist) (i9 : Nat) (o : Stp Unit Bool) (hi : i9 < a0.Nets.length) (h : ref_Same_b0 a0 a1 i9 = some o) :
    Runs PG 64 0 ref_Same_c0 (ref_Same_F0 a0 a1 i9 ) (ref_Same_H0 a0 a1 i9 ) (stpOc (fun s' => .nor (ref_Same_F0 a0 a1 (i9 + 1) ) (ref_Same_H0 a0 a1 (i9 + 1) )) (ref_Same_B0 a0 a1) ref_Same_R o) := by
  unfold ref_Same_b0 at h
  refine Runs.len (s := 23) (sz := 3) (xs := List.map e_Net a0.Nets) (by kernel_rfl) fun hl => ?_
  have hM : a0.Nets.length ≤ lim := len_of hl
  obtain ⟨x10, h11, h⟩ := bnd_e h
  obtain ⟨v12, h13, h⟩ := bnd1_e h
  let q27_f : Fr := [(3, .t (.v (.ptr 1 0))), (5, iA (i9 : Int)), (6, .t (.v (.ptr 2 0))), (23, lA 3 (List.map e_Net a0.Nets)), (24, iA (a0.Nets.length : Int)), (25, iA (i9 : Int))]
  let q27_g : Hp := [(1, .cells 26 [.c (.sl 2 (List.map e_Part a1.Parts)), .c (.sl 3 (List.map e_Net a1.Nets))]), (2, .cells 64 [.c (sC x10.Name), .c (.sl 2 (List.map e_Pin x10.Pins)), .c (.sl 1 (List.map e_str x10.Ports))])]
  let q27_f' : Fr := [(3, .t (.v (.ptr 1 0))), (23, lA 3 (List.map e_Net a0.Nets)), (24, iA (a0.Nets.length : Int)), (25, iA (i9 : Int)), (62, bA v12)]
  let q27_g' : Hp := [(1, .cells 26 [.c (.sl 2 (List.map e_Part a1.Parts)), .c (.sl 3 (List.map e_Net a1.Nets))])]
  have R14 : Runs PG 64 0 (cL (cR (cL (cL (cR (cR ref_Same_c0)))))) q27_f q27_g (.nor q27_f' q27_g') := by
    obtain ⟨x15, h16, h13⟩ := bnd_e h13
    rcases cnd_e h13 with ⟨h17, h13⟩ | ⟨h17, h13⟩
    · have h13 := Option.some.inj h13
      subst h13
      exact Runs.path XTok PGmix [.d [([], []), ([2], []), ([], []), ([1], []), ([], []), ([], [.el (e_Net x15)]), ([], []), ([], []), ([], []), ([], []), ([], [.b true]), ([], [.b true]), ([], [.b true]), ([], [.b true]), ([], [.b true]), ([], [.b true]), ([], [.b true]), ([], [.b true]), ([], [.b true]), ([], [.b true]), ([], [.b true]), ([], []), ([], [.b true]), ([], [.b true]), ([], [.b true]), ([], [.b true]), ([], [.b true]), ([], [.b true]), ([], [.b true]), ([], [.b true]), ([], [.b true]), ([], [.b true]), ([], [.b true])]] [] (an (idx_ok e_Net h16) (an h17 (an h17 (an h17 (an h17 (an h17 (an h17 (an h17 (an h17 (an h17 (an h17 (an h17 (an (Eq.refl true) (an (Eq.refl true) (an (Eq.refl true) (an (Eq.refl true) (an (Eq.refl true) (an (Eq.refl true) (an (Eq.refl true) (an (Eq.refl true) (an (Eq.refl true) (an (Eq.refl true) (Eq.refl true))))))))))))))))))))))) (by kernel_rfl)
    · obtain ⟨x18, h19, h13⟩ := bnd_e h13
      obtain ⟨r20, h21, h13⟩ := bnd_e h13
      rcases cnd_e h13 with ⟨h22, h13⟩ | ⟨h22, h13⟩
      · have h13 := Option.some.inj h13
        subst h13
        exact Runs.path XTok PGmix [.d [([], []), ([2], []), ([], []), ([1], []), ([], []), ([], [.el (e_Net x15)]), ([], []), ([], []), ([], []), ([], []), ([], [.b false]), ([2], [.b false]), ([], [.b false]), ([1], [.b false]), ([], [.b false]), ([], [.b false, .el (e_Net x18)]), ([], [.b false]), ([], [.b false]), ([], [.b false, .val (bA r20)]), ([], [.b false]), ([], [.b false]), ([], []), ([], [.b true]), ([], [.b true]), ([], [.b true]), ([], [.b true]), ([], [.b true]), ([], [.b true]), ([], [.b true]), ([], [.b true]), ([], [.b true]), ([], [.b true]), ([], [.b true])]] [] (an (idx_ok e_Net h16) (an h17 (an h17 (an h17 (an h17 (an h17 (an h17 (an (idx_ok e_Net h19) (an h17 (an h17 (an h17 (an (slices_Equal_api_Pin_api_Pin_ok x10.Pins x18.Pins r20 h21) (an h17 (an h17 (an h22 (an h22 (an h22 (an h22 (an h22 (an h22 (an h22 (an h22 (an h22 (an h22 h22)))))))))))))))))))))))) (by kernel_rfl)
      · obtain ⟨x23, h24, h13⟩ := bnd_e h13
        obtain ⟨r25, h26, h13⟩ := bnd_e h13
        have h13 := Option.some.inj h13
        subst h13
        exact Runs.path XTok PGmix [.d [([], []), ([2], []), ([], []), ([1], []), ([], []), ([], [.el (e_Net x15)]), ([], []), ([], []), ([], []), ([], []), ([], [.b false]), ([2], [.b false]), ([], [.b false]), ([1], [.b false]), ([], [.b false]), ([], [.b false, .el (e_Net x18)]), ([], [.b false]), ([], [.b false]), ([], [.b false, .val (bA r20)]), ([], [.b false]), ([], [.b false]), ([], []), ([], [.b false]), ([2], [.b false]), ([], [.b false]), ([1], [.b false]), ([], [.b false]), ([], [.b false, .el (e_Net x23)]), ([], [.b false]), ([], [.b false]), ([], [.b false, .val (bA r25)]), ([], [.b false]), ([], [.b false])]] [] (an (idx_ok e_Net h16) (an h17 (an h17 (an h17 (an h17 (an h17 (an h17 (an (idx_ok e_Net h19) (an h17 (an h17 (an h17 (an (slices_Equal_api_Pin_api_Pin_ok x10.Pins x18.Pins r20 h21) (an h17 (an h17 (an h22 (an h22 (an h22 (an h22 (an h22 (an h22 (an (idx_ok e_Net h24) (an h22 (an h22 (an h22 (an (slices_Equal_string_string_ok x10.Ports x23.Ports r25 h26) (an h22 h22)))))))))))))))))))))))))) (by kernel_rfl)
  rcases cnd_e h with ⟨h28, h⟩ | ⟨h28, h⟩
  · have h := Option.some.inj h
    subst h
    exact Runs.path XTok PGmix [.r [], .b true, .r [.el (e_Net x10), .id 2], .s q27_f q27_g [] (.nor q27_f' q27_g'), .b true, .r []] [] (an (lt_true hi) (an (idx_ok e_Net h11) (an R14 h28))) (by kernel_rfl)
  · have h := Option.some.inj h
    subst h
    exact Runs.path XTok PGmix [.r [], .b true, .r [.el (e_Net x10), .id 2], .s q27_f q27_g [] (.nor q27_f' q27_g'), .b false, .r [.eq 63 (iA ((i9 + 1 : Nat) : Int))]] [] (an (lt_true hi) (an (idx_ok e_Net h11) (an R14 (an h28 (wrap_eq hi hM))))) (by kernel_rfl)
theorem ref_Same_b0_e (a0 : Netlist) (a1 : Netlist) : Runs PG 64 0 ref_Same_c0 (ref_Same_F0 a0 a1 (a0.Nets.length) ) (ref_Same_H0 a0 a1 (a0.Nets.length) ) (ref_Same_B0 a0 a1 ()) := by
  exact Runs.path XTok PGmix [.r [], .b false] [] (lt_false (a0.Nets.length)) (by kernel_rfl)
theorem ref_Same_l0 (a0 : Netlist) (a1 : Netlist) (r : Fin' Unit Bool) (h : forN (fun i9 s => ref_Same_b0 a0 a1 i9 ) (a0.Nets.length) 0 () = some r) : Runs PG 64 0 (cL (cR (cL (cR (cR ref_Same_c))))) (ref_Same_F0 a0 a1 0 ) (ref_Same_H0 a0 a1 0 ) (finOc (ref_Same_B0 a0 a1) ref_Same_R r) :=
  Runs.loop' (by kernel_rfl) (forN_rounds (σ := Unit) (ρ := Bool) (body := fun i9 s => ref_Same_b0 a0 a1 i9 ) (F := fun i9 s => ref_Same_F0 a0 a1 i9 ) (H := fun i9 s => ref_Same_H0 a0 a1 i9 ) (B := ref_Same_B0 a0 a1) (R := ref_Same_R) (M := a0.Nets.length) (fun _ => rfl) (fun _ => rfl) (fun s => ref_Same_b0_e a0 a1 ) (fun i s o hi h => ref_Same_b0_r a0 a1 i o hi h) _ 0 _ r (Nat.zero_add _) h)
noncomputable def ref_Same (a0 : Netlist) (a1 : Netlist) : Option Bool :=
 bnd1 (bnd (slices_Equal_api_Part_api_Part a0.Parts a1.Parts) fun r4 =>
 cnd (!r4) (some true) (some ((a0.Nets.length : Int) != (a1.Nets.length : Int)))) fun v1 =>
 cnd v1 (some false) (aft0 (forN (fun i9 s => ref_Same_b0 a0 a1 i9 ) (a0.Nets.length) 0 ()) (
 some true)
 (fun r30 =>
 some r30))
theorem ref_Same_ok (a0 : Netlist) (a1 : Netlist) (r : Bool) (h : ref_Same a0 a1 = some r) : Spec PG 26 [gT (e_Netlist a0), gT (e_Netlist a1)] [] (bA r) [] := by
  unfold ref_Same at h
  obtain ⟨v1, h2, h⟩ := bnd1_e h
  let q7_f : Fr := [(2, .t (.v (.ptr 0 0))), (3, .t (.v (.ptr 1 0)))]
  let q7_g : Hp := [(0, .cells 26 [.c (.sl 2 (List.map e_Part a0.Parts)), .c (.sl 3 (List.map e_Net a0.Nets))]), (1, .cells 26 [.c (.sl 2 (List.map e_Part a1.Parts)), .c (.sl 3 (List.map e_Net a1.Nets))])]
  let q7_f' : Fr := [(2, .t (.v (.ptr 0 0))), (3, .t (.v (.ptr 1 0))), (21, bA v1)]
  let q7_g' : Hp := [(0, .cells 26 [.c (.sl 2 (List.map e_Part a0.Parts)), .c (.sl 3 (List.map e_Net a0.Nets))]), (1, .cells 26 [.c (.sl 2 (List.map e_Part a1.Parts)), .c (.sl 3 (List.map e_Net a1.Nets))])]
  have R3 : Runs PG 64 0 (cL (cL (cR ref_Same_c))) q7_f q7_g (.nor q7_f' q7_g') := by
    obtain ⟨r4, h5, h2⟩ := bnd_e h2
    rcases cnd_e h2 with ⟨h6, h2⟩ | ⟨h6, h2⟩
    · have h2 := Option.some.inj h2
      subst h2
      exact Runs.path XTok PGmix [.r [.val (bA r4), .b true, .b true, .b true, .b true, .b true, .b true, .b true, .b true]] [] (an (slices_Equal_api_Part_api_Part_ok a0.Parts a1.Parts r4 h5) (an h6 (an h6 (an h6 (an h6 (an h6 (an h6 (an h6 h6)))))))) (by kernel_rfl)
    · have h2 := Option.some.inj h2
      subst h2
      exact Runs.path XTok PGmix [.r [.val (bA r4), .b false, .b false, .b false, .eq 16 (iA (a0.Nets.length : Int)), .b false, .b false, .b false, .eq 19 (iA (a1.Nets.length : Int)), .b false, .b false]] [] (an (slices_Equal_api_Part_api_Part_ok a0.Parts a1.Parts r4 h5) (an h6 (an h6 (an h6 (an (leni_eq e_Net a0.Nets) (an h6 (an h6 (an h6 (an (leni_eq e_Net a1.Nets) (an h6 h6)))))))))) (by kernel_rfl)
  rcases cnd_e h with ⟨h8, h⟩ | ⟨h8, h⟩
  · have h := Option.some.inj h
    subst h
    exact Spec.path XTok PGmix ref_Same_fn 0 [.r [.id 0, .id 1], .s q7_f q7_g [] (.nor q7_f' q7_g'), .b true, .r []] (an R3 h8) (by kernel_rfl)
  · rcases aft0_e h with ⟨h29, h⟩ | ⟨r30, h29, h⟩
    · have h := Option.some.inj h
      subst h
      exact Spec.path XTok PGmix ref_Same_fn 0 [.r [.id 0, .id 1], .s q7_f q7_g [] (.nor q7_f' q7_g'), .b false, .r [.eq 24 (iA (a0.Nets.length : Int))], .s (ref_Same_F0 a0 a1 0 ) (ref_Same_H0 a0 a1 0 ) [] (ref_Same_B0 a0 a1 ()), .r []] (an R3 (an h8 (an (leni_eq e_Net a0.Nets) (ref_Same_l0 a0 a1 (.fin ()) h29)))) (by kernel_rfl)
    · have h := Option.some.inj h
      subst h
      exact Spec.path XTok PGmix ref_Same_fn 0 [.r [.id 0, .id 1], .s q7_f q7_g [] (.nor q7_f' q7_g'), .b false, .r [.eq 24 (iA (a0.Nets.length : Int))], .s (ref_Same_F0 a0 a1 0 ) (ref_Same_H0 a0 a1 0 ) [] (ref_Same_R r30)] (an R3 (an h8 (an (leni_eq e_Net a0.Nets) (ref_Same_l0 a0 a1 (.ret r30) h29)))) (by kernel_rfl)

noncomputable def nl_checkNames_c : Code := (Go.Proofs.Tryd.f79.body).getD .skip
theorem nl_checkNames_fn : FnOk PG 79 nl_checkNames_c 36 [.tmp 6] := ⟨⟨Go.Proofs.Tryd.f79, by kernel_rfl, by kernel_rfl, by kernel_rfl, by kernel_rfl, by kernel_rfl⟩⟩
noncomputable def nl_checkNames_c0 : Code := cL (cL (cR (cL (cR (cR nl_checkNames_c)))))
noncomputable def nl_checkNames_R (r : Int) : Oc := .ret [(6, iA r)] []
noncomputable def nl_checkNames_F0 (a2_k : FuncId) (a2_c : List C) (a0 : List ByteArray) (i2 : Nat) : Fr := [(0, lA 1 (List.map e_str a0)), (2, .t (.v (.c (.fn a2_k a2_c)))), (13, lA 1 (List.map e_str a0)), (14, iA (a0.length : Int)), (15, iA (i2 : Int))]
noncomputable def nl_checkNames_H0 (a2_k : FuncId) (a2_c : List C) (a0 : List ByteArray) (i2 : Nat) : Hp := []
noncomputable def nl_checkNames_B0 (a2_k : FuncId) (a2_c : List C) (a0 : List ByteArray) (s : Unit) : Oc := .ex 0 [] []
noncomputable def nl_checkNames_b0 (a2 : ByteArray → Option Bool) (a0 : List ByteArray) (i2 : Nat) : Option (Stp Unit Int) :=
 bnd (atI a0 (i2 : Int)) fun x3 =>
 bnd (a2 x3) fun r5 =>
 cnd (!r5) (some (.ret 9)) (bnd1 (cnd (decide ((i2 : Int) > 0)) (bnd (atI a0 (w64 ((i2 : Int) - 1))) fun x12 =>
 some (sLe x3 x12)) (some false)) fun v8 =>
 cnd v8 (some (.ret 8)) (some (.go ())))
theorem nl_checkNames_b0_r (a2_k : FuncId) (a2_c : List C) (a2 : ByteArray → Option Bool) (a2_ok : ∀ (z0 : ByteArray) (r : Bool), a2 z0 = some r → Spec PG a2_k ([sT z0] ++ List.map (fun x => TV.v (CV.c x)) a2_c) [] (bA r) []) (a0 : List ByteArray) (i2 : Nat) (o : Stp Unit Int) (hi : i2 < a0.length) (h : nl_checkNames_b0 a2 a0 i2 = some o) :
    Runs PG 36 0 nl_checkNames_c0 (nl_checkNames_F0 a2_k a2_c a0 i2 ) (nl_checkNames_H0 a2_k a2_c a0 i2 ) (stpOc (fun s' => .nor (nl_checkNames_F0 a2_k a2_c a0 (i2 + 1) ) (nl_checkNames_H0 a2_k a2_c a0 (i2 + 1) )) (nl_checkNames_B0 a2_k a2_c a0) nl_checkNames_R o) := by
  unfold nl_checkNames_b0 at h
  refine Runs.len (s := 13) (sz := 1) (xs := List.map e_str a0) (by kernel_rfl) fun hl => ?_
  have hM : a0.length ≤ lim := len_of hl
  obtain ⟨x3, h4, h⟩ := bnd_e h
  obtain ⟨r5, h6, h⟩ := bnd_e h
  rcases cnd_e h with ⟨h7, h⟩ | ⟨h7, h⟩
  · have h := Option.some.inj h
    subst h
    exact Runs.path XTok PGmix [.r [], .b true, .r [.el [sC x3]], .r [.val (bA r5)], .b true, .r []] [] (an (lt_true hi) (an (idx_ok e_str h4) (an (a2_ok x3 r5 h6) h7))) (by kernel_rfl)
  · obtain ⟨v8, h9, h⟩ := bnd1_e h
    let q14_f : Fr := [(0, lA 1 (List.map e_str a0)), (2, .t (.v (.c (.fn a2_k a2_c)))), (7, iA (i2 : Int)), (8, sA x3), (13, lA 1 (List.map e_str a0)), (14, iA (a0.length : Int)), (15, iA (i2 : Int))]
    let q14_g : Hp := []
    let q14_f' : Fr := [(0, lA 1 (List.map e_str a0)), (2, .t (.v (.c (.fn a2_k a2_c)))), (13, lA 1 (List.map e_str a0)), (14, iA (a0.length : Int)), (15, iA (i2 : Int)), (34, bA v8)]
    let q14_g' : Hp := []
    have R10 : Runs PG 36 0 (cL (cR (cR (cL (cL (cR (cR nl_checkNames_c0))))))) q14_f q14_g (.nor q14_f' q14_g') := by
      rcases cnd_e h9 with ⟨h11, h9⟩ | ⟨h11, h9⟩
      · obtain ⟨x12, h13, h9⟩ := bnd_e h9
        have h9 := Option.some.inj h9
        subst h9
        exact Runs.path XTok PGmix [.r [.b true, .b true, .b true, .b true, .b true, .el [sC x12], .b true, .b true, .b true]] [] (an h11 (an h11 (an h11 (an h11 (an h11 (an (idx_ok e_str h13) (an h11 (an h11 h11)))))))) (by kernel_rfl)
      · have h9 := Option.some.inj h9
        subst h9
        exact Runs.path XTok PGmix [.r [.b false, .b false, .b false, .b false, .b false, .b false, .b false, .b false]] [] (an h11 (an h11 (an h11 (an h11 (an h11 (an h11 (an h11 h11))))))) (by kernel_rfl)
    rcases cnd_e h with ⟨h15, h⟩ | ⟨h15, h⟩
    · have h := Option.some.inj h
      subst h
      exact Runs.path XTok PGmix [.r [], .b true, .r [.el [sC x3]], .r [.val (bA r5)], .b false, .s q14_f q14_g [] (.nor q14_f' q14_g'), .b true, .r []] [] (an (lt_true hi) (an (idx_ok e_str h4) (an (a2_ok x3 r5 h6) (an h7 (an R10 h15))))) (by kernel_rfl)
    · have h := Option.some.inj h
      subst h
      exact Runs.path XTok PGmix [.r [], .b true, .r [.el [sC x3]], .r [.val (bA r5)], .b false, .s q14_f q14_g [] (.nor q14_f' q14_g'), .b false, .r [.eq 35 (iA ((i2 + 1 : Nat) : Int))]] [] (an (lt_true hi) (an (idx_ok e_str h4) (an (a2_ok x3 r5 h6) (an h7 (an R10 (an h15 (wrap_eq hi hM))))))) (by kernel_rfl)
theorem nl_checkNames_b0_e (a2_k : FuncId) (a2_c : List C) (a2 : ByteArray → Option Bool) (a2_ok : ∀ (z0 : ByteArray) (r : Bool), a2 z0 = some r → Spec PG a2_k ([sT z0] ++ List.map (fun x => TV.v (CV.c x)) a2_c) [] (bA r) []) (a0 : List ByteArray) : Runs PG 36 0 nl_checkNames_c0 (nl_checkNames_F0 a2_k a2_c a0 (a0.length) ) (nl_checkNames_H0 a2_k a2_c a0 (a0.length) ) (nl_checkNames_B0 a2_k a2_c a0 ()) := by
  exact Runs.path XTok PGmix [.r [], .b false] [] (lt_false (a0.length)) (by kernel_rfl)
theorem nl_checkNames_l0 (a2_k : FuncId) (a2_c : List C) (a2 : ByteArray → Option Bool) (a2_ok : ∀ (z0 : ByteArray) (r : Bool), a2 z0 = some r → Spec PG a2_k ([sT z0] ++ List.map (fun x => TV.v (CV.c x)) a2_c) [] (bA r) []) (a0 : List ByteArray) (r : Fin' Unit Int) (h : forN (fun i2 s => nl_checkNames_b0 a2 a0 i2 ) (a0.length) 0 () = some r) : Runs PG 36 0 (cL (cR (cL (cR (cR nl_checkNames_c))))) (nl_checkNames_F0 a2_k a2_c a0 0 ) (nl_checkNames_H0 a2_k a2_c a0 0 ) (finOc (nl_checkNames_B0 a2_k a2_c a0) nl_checkNames_R r) :=
  Runs.loop' (by kernel_rfl) (forN_rounds (σ := Unit) (ρ := Int) (body := fun i2 s => nl_checkNames_b0 a2 a0 i2 ) (F := fun i2 s => nl_checkNames_F0 a2_k a2_c a0 i2 ) (H := fun i2 s => nl_checkNames_H0 a2_k a2_c a0 i2 ) (B := nl_checkNames_B0 a2_k a2_c a0) (R := nl_checkNames_R) (M := a0.length) (fun _ => rfl) (fun _ => rfl) (fun s => nl_checkNames_b0_e a2_k a2_c a2 a2_ok a0 ) (fun i s o hi h => nl_checkNames_b0_r a2_k a2_c a2 a2_ok a0 i o hi h) _ 0 _ r (Nat.zero_add _) h)
noncomputable def nl_checkNames (a0 : List ByteArray) (a1 : Int) (a2 : ByteArray → Option Bool) : Option Int :=
 cnd (decide ((a0.length : Int) > a1)) (some 2) (aft0 (forN (fun i2 s => nl_checkNames_b0 a2 a0 i2 ) (a0.length) 0 ()) (
 some 0)
 (fun r17 =>
 some r17))
theorem nl_checkNames_ok (a0 : List ByteArray) (a1 : Int) (a2_k : FuncId) (a2_c : List C) (a2 : ByteArray → Option Bool) (a2_ok : ∀ (z0 : ByteArray) (r : Bool), a2 z0 = some r → Spec PG a2_k ([sT z0] ++ List.map (fun x => TV.v (CV.c x)) a2_c) [] (bA r) []) (r : Int) (h : nl_checkNames a0 a1 a2 = some r) : Spec PG 79 [lT 1 (List.map e_str a0), iT a1, .v (.c (.fn a2_k a2_c))] [] (iA r) [] := by
  unfold nl_checkNames at h
  rcases cnd_e h with ⟨h1, h⟩ | ⟨h1, h⟩
  · have h := Option.some.inj h
    subst h
    exact Spec.path XTok PGmix nl_checkNames_fn 0 [.r [], .r [.eq 10 (iA (a0.length : Int))], .b true, .r []] (an (leni_eq e_str a0) h1) (by kernel_rfl)
  · rcases aft0_e h with ⟨h16, h⟩ | ⟨r17, h16, h⟩
    · have h := Option.some.inj h
      subst h
      exact Spec.path XTok PGmix nl_checkNames_fn 0 [.r [], .r [.eq 10 (iA (a0.length : Int))], .b false, .r [.eq 14 (iA (a0.length : Int))], .s (nl_checkNames_F0 a2_k a2_c a0 0 ) (nl_checkNames_H0 a2_k a2_c a0 0 ) [] (nl_checkNames_B0 a2_k a2_c a0 ()), .r []] (an (leni_eq e_str a0) (an h1 (an (leni_eq e_str a0) (nl_checkNames_l0 a2_k a2_c a2 a2_ok a0 (.fin ()) h16)))) (by kernel_rfl)
    · have h := Option.some.inj h
      subst h
      exact Spec.path XTok PGmix nl_checkNames_fn 0 [.r [], .r [.eq 10 (iA (a0.length : Int))], .b false, .r [.eq 14 (iA (a0.length : Int))], .s (nl_checkNames_F0 a2_k a2_c a0 0 ) (nl_checkNames_H0 a2_k a2_c a0 0 ) [] (nl_checkNames_R r17)] (an (leni_eq e_str a0) (an h1 (an (leni_eq e_str a0) (nl_checkNames_l0 a2_k a2_c a2 a2_ok a0 (.ret r17) h16)))) (by kernel_rfl)

noncomputable def nl_Without_1_c : Code := (Go.Proofs.Tryd.f80.body).getD .skip
theorem nl_Without_1_fn : FnOk PG 80 nl_Without_1_c 9 [.tmp 3] := ⟨⟨Go.Proofs.Tryd.f80, by kernel_rfl, by kernel_rfl, by kernel_rfl, by kernel_rfl, by kernel_rfl⟩⟩
noncomputable def nl_Without_1 (a0 : ByteArray) (a1 : Netlist) : Option Bool :=
 bnd (nl_partAt a1.Parts a0) fun r1 =>
 some (decide (r1 ≥ 0))
theorem nl_Without_1_ok (a0 : ByteArray) (a1 : Netlist) (r : Bool) (h : nl_Without_1 a0 a1 = some r) : Spec PG 80 [sT a0, .v (.c (.ptr (e_Netlist a1)))] [] (bA r) [] := by
  unfold nl_Without_1 at h
  obtain ⟨r1, h2, h⟩ := bnd_e h
  have h := Option.some.inj h
  subst h
  exact Spec.path XTok PGmix nl_Without_1_fn 0 [.r [], .r [.val (iA r1)]] (nl_partAt_ok a1.Parts a0 r1 h2) (by kernel_rfl)

noncomputable def slices_Clone_api_Pin_api_Pin_c : Code := (Go.Proofs.Tryd.f62.body).getD .skip
theorem slices_Clone_api_Pin_api_Pin_fn : FnOk PG 62 slices_Clone_api_Pin_api_Pin_c 8 [.tmp 2] := ⟨⟨Go.Proofs.Tryd.f62, by kernel_rfl, by kernel_rfl, by kernel_rfl, by kernel_rfl, by kernel_rfl⟩⟩
noncomputable def slices_Clone_api_Pin_api_Pin (a0 : List Pin) : Option (List Pin) :=
 grd (([] : List Pin).length + a0.length ≤ lim) <|
 some (([] : List Pin) ++ a0)
theorem slices_Clone_api_Pin_api_Pin_ok (a0 : List Pin) (r : List Pin) (h : slices_Clone_api_Pin_api_Pin a0 = some r) : Spec PG 62 [lT 2 (List.map e_Pin a0)] [] (lA 2 (List.map e_Pin r)) [] := by
  refine Spec.nilcase (pre := []) (fun hx => ?_) ?_
  · have hx := List.map_eq_nil_iff.1 hx
    subst hx
    have h : some [] = some r := h
    have h := Option.some.inj h
    subst h
    exact Spec.path XTok PGmix slices_Clone_api_Pin_api_Pin_fn 0 [.r [.nl 2], .r [], .b true, .r [.nl 2]] (Eq.refl true) (by kernel_rfl)
  · unfold slices_Clone_api_Pin_api_Pin at h
    obtain ⟨h1, h⟩ := grd_e h
    have h := Option.some.inj h
    subst h
    exact Spec.path XTok PGmix slices_Clone_api_Pin_api_Pin_fn 0 [.r [.nl 2], .r [], .b false, .r [.id 0, .row (List.map e_Pin ([] : List Pin)), .id 1, .row (List.map e_Pin (([] : List Pin) ++ a0))], .f 1] (an (Eq.refl false) (an (Eq.refl (List.flatten (List.map e_Pin ([] : List Pin)))) (app_ok e_Pin h1))) (by kernel_rfl)

noncomputable def slices_Clone_api_Part_api_Part_c : Code := (Go.Proofs.Tryd.f129.body).getD .skip
theorem slices_Clone_api_Part_api_Part_fn : FnOk PG 129 slices_Clone_api_Part_api_Part_c 8 [.tmp 2] := ⟨⟨Go.Proofs.Tryd.f129, by kernel_rfl, by kernel_rfl, by kernel_rfl, by kernel_rfl, by kernel_rfl⟩⟩
noncomputable def slices_Clone_api_Part_api_Part (a0 : List Part) : Option (List Part) :=
 grd (([] : List Part).length + a0.length ≤ lim) <|
 some (([] : List Part) ++ a0)
theorem slices_Clone_api_Part_api_Part_ok (a0 : List Part) (r : List Part) (h : slices_Clone_api_Part_api_Part a0 = some r) : Spec PG 129 [lT 2 (List.map e_Part a0)] [] (lA 2 (List.map e_Part r)) [] := by
  refine Spec.nilcase (pre := []) (fun hx => ?_) ?_
  · have hx := List.map_eq_nil_iff.1 hx
    subst hx
    have h : some [] = some r := h
    have h := Option.some.inj h
    subst h
    exact Spec.path XTok PGmix slices_Clone_api_Part_api_Part_fn 0 [.r [.nl 2], .r [], .b true, .r [.nl 2]] (Eq.refl true) (by kernel_rfl)
  · unfold slices_Clone_api_Part_api_Part at h
    obtain ⟨h1, h⟩ := grd_e h
    have h := Option.some.inj h
    subst h
    exact Spec.path XTok PGmix slices_Clone_api_Part_api_Part_fn 0 [.r [.nl 2], .r [], .b false, .r [.id 0, .row (List.map e_Part ([] : List Part)), .id 1, .row (List.map e_Part (([] : List Part) ++ a0))], .f 1] (an (Eq.refl false) (an (Eq.refl (List.flatten (List.map e_Part ([] : List Part)))) (app_ok e_Part h1))) (by kernel_rfl)

noncomputable def slices_Clone_api_Net_api_Net_c : Code := (Go.Proofs.Tryd.f130.body).getD .skip
theorem slices_Clone_api_Net_api_Net_fn : FnOk PG 130 slices_Clone_api_Net_api_Net_c 8 [.tmp 2] := ⟨⟨Go.Proofs.Tryd.f130, by kernel_rfl, by kernel_rfl, by kernel_rfl, by kernel_rfl, by kernel_rfl⟩⟩
noncomputable def slices_Clone_api_Net_api_Net (a0 : List Net) : Option (List Net) :=
 grd (([] : List Net).length + a0.length ≤ lim) <|
 some (([] : List Net) ++ a0)
theorem slices_Clone_api_Net_api_Net_ok (a0 : List Net) (r : List Net) (h : slices_Clone_api_Net_api_Net a0 = some r) : Spec PG 130 [lT 3 (List.map e_Net a0)] [] (lA 3 (List.map e_Net r)) [] := by
  refine Spec.nilcase (pre := []) (fun hx => ?_) ?_
  · have hx := List.map_eq_nil_iff.1 hx
    subst hx
    have h : some [] = some r := h
    have h := Option.some.inj h
    subst h
    exact Spec.path XTok PGmix slices_Clone_api_Net_api_Net_fn 0 [.r [.nl 3], .r [], .b true, .r [.nl 3]] (Eq.refl true) (by kernel_rfl)
  · unfold slices_Clone_api_Net_api_Net at h
    obtain ⟨h1, h⟩ := grd_e h
    have h := Option.some.inj h
    subst h
    exact Spec.path XTok PGmix slices_Clone_api_Net_api_Net_fn 0 [.r [.nl 3], .r [], .b false, .r [.id 0, .row (List.map e_Net ([] : List Net)), .id 1, .row (List.map e_Net (([] : List Net) ++ a0))], .f 1] (an (Eq.refl false) (an (Eq.refl (List.flatten (List.map e_Net ([] : List Net)))) (app_ok e_Net h1))) (by kernel_rfl)

noncomputable def slices_Clone_api_Part_api_Part_new_c : Code := (Go.Proofs.Tryd.f129.body).getD .skip
theorem slices_Clone_api_Part_api_Part_new_fn : FnOk PG 129 slices_Clone_api_Part_api_Part_new_c 8 [.tmp 2] := ⟨⟨Go.Proofs.Tryd.f129, by kernel_rfl, by kernel_rfl, by kernel_rfl, by kernel_rfl, by kernel_rfl⟩⟩
noncomputable def slices_Clone_api_Part_api_Part_new (a0 : List Part) : Option (List Part) :=
 grd (([] : List Part).length + a0.length ≤ lim) <|
 some (([] : List Part) ++ a0)
theorem slices_Clone_api_Part_api_Part_new_ok (a0 : List Part) (r : List Part) (h : slices_Clone_api_Part_api_Part_new a0 = some r) : Spec PG 129 [lT 2 (List.map e_Part a0)] [] (.t (.v (.rt 0))) [(0, .row 73 2 (List.map e_Part r))] := by
  refine Spec.nilcase (pre := []) (fun hx => ?_) ?_
  · have hx := List.map_eq_nil_iff.1 hx
    subst hx
    have h : some [] = some r := h
    have h := Option.some.inj h
    subst h
    exact Spec.path XTok PGmix slices_Clone_api_Part_api_Part_new_fn 0 [.r [.mk 0 73 2], .r [], .b true, .r [.mk 1 73 2], .w [(2, .t (.v (.rt 0)))] [(0, .row 73 2 (List.map e_Part []))] [(0, 1)]] (Eq.refl true) (by kernel_rfl)
  · unfold slices_Clone_api_Part_api_Part_new at h
    obtain ⟨h1, h⟩ := grd_e h
    have h := Option.some.inj h
    subst h
    exact Spec.path XTok PGmix slices_Clone_api_Part_api_Part_new_fn 0 [.r [.mk 0 73 2], .r [], .b false, .r [.id 1, .row (List.map e_Part ([] : List Part)), .id 2, .row (List.map e_Part (([] : List Part) ++ a0))], .w [(2, .t (.v (.rt 0)))] [(0, .row 73 2 (List.map e_Part (([] : List Part) ++ a0)))] [(0, 2)]] (an (Eq.refl false) (an (Eq.refl (List.flatten (List.map e_Part ([] : List Part)))) (app_ok e_Part h1))) (by kernel_rfl)

noncomputable def slices_Clone_api_Net_api_Net_new_c : Code := (Go.Proofs.Tryd.f130.body).getD .skip
theorem slices_Clone_api_Net_api_Net_new_fn : FnOk PG 130 slices_Clone_api_Net_api_Net_new_c 8 [.tmp 2] := ⟨⟨Go.Proofs.Tryd.f130, by kernel_rfl, by kernel_rfl, by kernel_rfl, by kernel_rfl, by kernel_rfl⟩⟩
noncomputable def slices_Clone_api_Net_api_Net_new (a0 : List Net) : Option (List Net) :=
 grd (([] : List Net).length + a0.length ≤ lim) <|
 some (([] : List Net) ++ a0)
theorem slices_Clone_api_Net_api_Net_new_ok (a0 : List Net) (r : List Net) (h : slices_Clone_api_Net_api_Net_new a0 = some r) : Spec PG 130 [lT 3 (List.map e_Net a0)] [] (.t (.v (.rt 0))) [(0, .row 64 3 (List.map e_Net r))] := by
  refine Spec.nilcase (pre := []) (fun hx => ?_) ?_
  · have hx := List.map_eq_nil_iff.1 hx
    subst hx
    have h : some [] = some r := h
    have h := Option.some.inj h
    subst h
    exact Spec.path XTok PGmix slices_Clone_api_Net_api_Net_new_fn 0 [.r [.mk 0 64 3], .r [], .b true, .r [.mk 1 64 3], .w [(2, .t (.v (.rt 0)))] [(0, .row 64 3 (List.map e_Net []))] [(0, 1)]] (Eq.refl true) (by kernel_rfl)
  · unfold slices_Clone_api_Net_api_Net_new at h
    obtain ⟨h1, h⟩ := grd_e h
    have h := Option.some.inj h
    subst h
    exact Spec.path XTok PGmix slices_Clone_api_Net_api_Net_new_fn 0 [.r [.mk 0 64 3], .r [], .b false, .r [.id 1, .row (List.map e_Net ([] : List Net)), .id 2, .row (List.map e_Net (([] : List Net) ++ a0))], .w [(2, .t (.v (.rt 0)))] [(0, .row 64 3 (List.map e_Net (([] : List Net) ++ a0)))] [(0, 2)]] (an (Eq.refl false) (an (Eq.refl (List.flatten (List.map e_Net ([] : List Net)))) (app_ok e_Net h1))) (by kernel_rfl)

noncomputable def slices_Clone_api_Pin_api_Pin_new_c : Code := (Go.Proofs.Tryd.f62.body).getD .skip
theorem slices_Clone_api_Pin_api_Pin_new_fn : FnOk PG 62 slices_Clone_api_Pin_api_Pin_new_c 8 [.tmp 2] := ⟨⟨Go.Proofs.Tryd.f62, by kernel_rfl, by kernel_rfl, by kernel_rfl, by kernel_rfl, by kernel_rfl⟩⟩
noncomputable def slices_Clone_api_Pin_api_Pin_new (a0 : List Pin) : Option (List Pin) :=
 grd (([] : List Pin).length + a0.length ≤ lim) <|
 some (([] : List Pin) ++ a0)
theorem slices_Clone_api_Pin_api_Pin_new_ok (a0 : List Pin) (r : List Pin) (h : slices_Clone_api_Pin_api_Pin_new a0 = some r) : Spec PG 62 [lT 2 (List.map e_Pin a0)] [] (.t (.v (.rt 0))) [(0, .row 28 2 (List.map e_Pin r))] := by
  refine Spec.nilcase (pre := []) (fun hx => ?_) ?_
  · have hx := List.map_eq_nil_iff.1 hx
    subst hx
    have h : some [] = some r := h
    have h := Option.some.inj h
    subst h
    exact Spec.path XTok PGmix slices_Clone_api_Pin_api_Pin_new_fn 0 [.r [.mk 0 28 2], .r [], .b true, .r [.mk 1 28 2], .w [(2, .t (.v (.rt 0)))] [(0, .row 28 2 (List.map e_Pin []))] [(0, 1)]] (Eq.refl true) (by kernel_rfl)
  · unfold slices_Clone_api_Pin_api_Pin_new at h
    obtain ⟨h1, h⟩ := grd_e h
    have h := Option.some.inj h
    subst h
    exact Spec.path XTok PGmix slices_Clone_api_Pin_api_Pin_new_fn 0 [.r [.mk 0 28 2], .r [], .b false, .r [.id 1, .row (List.map e_Pin ([] : List Pin)), .id 2, .row (List.map e_Pin (([] : List Pin) ++ a0))], .w [(2, .t (.v (.rt 0)))] [(0, .row 28 2 (List.map e_Pin (([] : List Pin) ++ a0)))] [(0, 2)]] (an (Eq.refl false) (an (Eq.refl (List.flatten (List.map e_Pin ([] : List Pin)))) (app_ok e_Pin h1))) (by kernel_rfl)

noncomputable def nl_Own_c : Code := (Go.Proofs.Tryd.f81.body).getD .skip
theorem nl_Own_fn : FnOk PG 81 nl_Own_c 37 [.cell 2 26] := ⟨⟨Go.Proofs.Tryd.f81, by kernel_rfl, by kernel_rfl, by kernel_rfl, by kernel_rfl, by kernel_rfl⟩⟩
noncomputable def nl_Own_c0 : Code := cL (cL (cR (cL (cR (cR nl_Own_c)))))
noncomputable def nl_Own_R (r : Netlist) : Oc := .ret [(2, .t (.v (.ptr 0 0)))] [(1, .row 73 2 (List.map e_Part r.Parts)), (2, .nrow 64 3 1 28 2 (r.Nets).length [] (List.map e_Net r.Nets)), (0, .cells 26 [.rt 1, .rt 2])]
noncomputable def nl_Own_F0 (r1 : List Part) (r3 : List Net) (i5 : Nat) (y6 : List Net) : Fr := [(1, .t (.v (.ptr 0 0))), (2, .t (.v (.ptr 1 0))), (13, .t (.v (.rt 3))), (14, iA (r3.length : Int)), (15, iA (i5 : Int))]
noncomputable def nl_Own_H0 (r1 : List Part) (r3 : List Net) (i5 : Nat) (y6 : List Net) : Hp := [(3, .nrow 64 3 1 28 2 i5 [] (List.map e_Net y6)), (2, .row 73 2 (List.map e_Part r1)), (0, .cells 26 [.rt 2, .rt 3]), (1, .cells 26 [.c (.nil), .c (.nil)])]
noncomputable def nl_Own_B0 (r1 : List Part) (r3 : List Net) (s : List Net) : Oc := .ex 0 [(1, .t (.v (.ptr 0 0))), (2, .t (.v (.ptr 1 0)))] [(3, .nrow 64 3 1 28 2 r3.length [] (List.map e_Net s)), (2, .row 73 2 (List.map e_Part r1)), (0, .cells 26 [.rt 2, .rt 3]), (1, .cells 26 [.c (.nil), .c (.nil)])]
noncomputable def nl_Own_b0 (r1 : List Part) (r3 : List Net) (i5 : Nat) (y6 : List Net) : Option (Stp (List Net) Netlist) :=
 bnd (atI y6 (i5 : Int)) fun x7 =>
 bnd (slices_Clone_api_Pin_api_Pin_new x7.Pins) fun r9 =>
 bnd (atI y6 (i5 : Int)) fun x11 =>
 bnd (atI y6 (i5 : Int)) fun x13 =>
 some (.go ((y6.set (Int.toNat (i5 : Int)) (⟨x13.Name, x13.Pins, []⟩ : Net)).set (Int.toNat (i5 : Int)) (⟨(⟨x13.Name, x13.Pins, []⟩ : Net).Name, r9, (⟨x13.Name, x13.Pins, []⟩ : Net).Ports⟩ : Net)))
theorem nl_Own_b0_r (r1 : List Part) (r3 : List Net) (i5 : Nat) (y6 : List Net) (o : Stp (List Net) Netlist) (hM : r3.length ≤ lim) (hi : i5 < r3.length) (h : nl_Own_b0 r1 r3 i5 y6 = some o) :
    Runs PG 37 0 nl_Own_c0 (nl_Own_F0 r1 r3 i5 y6) (nl_Own_H0 r1 r3 i5 y6) (stpOc (fun s' => .nor (nl_Own_F0 r1 r3 (i5 + 1) s') (nl_Own_H0 r1 r3 (i5 + 1) s')) (nl_Own_B0 r1 r3) nl_Own_R o) := by
  unfold nl_Own_b0 at h
  obtain ⟨x7, h8, h⟩ := bnd_e h
  obtain ⟨r9, h10, h⟩ := bnd_e h
  obtain ⟨x11, h12, h⟩ := bnd_e h
  obtain ⟨x13, h14, h⟩ := bnd_e h
  have h := Option.some.inj h
  subst h
  exact Runs.path XTok PGmix [.r [], .b true, .r [], .d [([], []), ([0], []), ([], []), ([], []), ([0], []), ([], []), ([], []), ([0], []), ([], []), ([3], []), ([], []), ([3], [.el (e_Net x7)]), ([], [.call [(0, 4)] [lT 2 (List.map e_Pin x7.Pins)] [] (.t (.v (.rt 0))) [(0, .row 28 2 (List.map e_Pin r9))]]), ([3], []), ([], []), ([3], [.b true]), ([3], []), ([], []), ([3], [.nl 1, .el (e_Net x13), .row (List.map e_Net (y6.set (Int.toNat (i5 : Int)) (⟨x13.Name, x13.Pins, []⟩ : Net)))])], .g (.c 3 4 (i5 + 1) [sC ((⟨x13.Name, x13.Pins, []⟩ : Net).Name), .sl 2 (List.map e_Pin ((⟨x13.Name, x13.Pins, []⟩ : Net).Pins)), .sl 1 (List.map e_str ((⟨x13.Name, x13.Pins, []⟩ : Net).Ports))] (List.map e_Net ((y6.set (Int.toNat (i5 : Int)) (⟨x13.Name, x13.Pins, []⟩ : Net)).set (Int.toNat (i5 : Int)) (⟨(⟨x13.Name, x13.Pins, []⟩ : Net).Name, r9, (⟨x13.Name, x13.Pins, []⟩ : Net).Ports⟩ : Net)))), .r [.eq 35 (iA ((i5 + 1 : Nat) : Int))]] [] (an (lt_true hi) (an (idx_lt e_Net h8) (an (an (idx_el e_Net h8) (Nat.le_refl (i5 : Nat))) (an (an (slices_Clone_api_Pin_api_Pin_new_ok x7.Pins r9 h10) (an (Eq.refl ([lT 2 (List.map e_Pin x7.Pins)] : List TV)) (Eq.refl (renH (asg [(0, 4)]) [])))) (an (idx_lt e_Net h12) (an (an (Eq.refl (Int.toNat (i5 : Int))) (nt_ltm e_Net h12)) (an (idx_lt e_Net h14) (an (set_ok e_Net h14 (⟨x13.Name, x13.Pins, []⟩ : Net) 2 [.sl 1 (List.map e_str [])] (by kernel_rfl)) (an (Eq.refl ((i5 + 1) : Nat)) (an (nt_set e_Net h14 (⟨x13.Name, x13.Pins, []⟩ : Net)) (an (nc_set e_Net (y6.set (Int.toNat (i5 : Int)) (⟨x13.Name, x13.Pins, []⟩ : Net)) (Int.toNat (i5 : Int)) (⟨(⟨x13.Name, x13.Pins, []⟩ : Net).Name, r9, (⟨x13.Name, x13.Pins, []⟩ : Net).Ports⟩ : Net) (⟨x13.Name, x13.Pins, []⟩ : Net) 1 (.sl 2 (List.map e_Pin r9)) (by kernel_rfl)) (wrap_eq hi hM)))))))))))) (by kernel_rfl)
theorem nl_Own_b0_e (r1 : List Part) (r3 : List Net) (y6 : List Net) : Runs PG 37 0 nl_Own_c0 (nl_Own_F0 r1 r3 (r3.length) y6) (nl_Own_H0 r1 r3 (r3.length) y6) (nl_Own_B0 r1 r3 y6) := by
  exact Runs.path XTok PGmix [.r [], .b false] [] (lt_false (r3.length)) (by kernel_rfl)
theorem nl_Own_l0 (r1 : List Part) (r3 : List Net) (y6 : List Net) (hM : r3.length ≤ lim) (r : Fin' (List Net) Netlist) (h : forN (fun i5 s => nl_Own_b0 r1 r3 i5 s) (r3.length) 0 y6 = some r) : Runs PG 37 0 (cL (cR (cL (cR (cR nl_Own_c))))) (nl_Own_F0 r1 r3 0 y6) (nl_Own_H0 r1 r3 0 y6) (finOc (nl_Own_B0 r1 r3) nl_Own_R r) :=
  Runs.loop' (by kernel_rfl) (forN_rounds (σ := (List Net)) (ρ := Netlist) (body := fun i5 s => nl_Own_b0 r1 r3 i5 s) (F := fun i5 s => nl_Own_F0 r1 r3 i5 s) (H := fun i5 s => nl_Own_H0 r1 r3 i5 s) (B := nl_Own_B0 r1 r3) (R := nl_Own_R) (M := r3.length) (fun _ => rfl) (fun _ => rfl) (fun s => nl_Own_b0_e r1 r3 s) (fun i s o hi h => nl_Own_b0_r r1 r3 i s o hM hi h) _ 0 _ r (Nat.zero_add _) h)
noncomputable def nl_Own (a0 : Netlist) : Option Netlist :=
 bnd (slices_Clone_api_Part_api_Part_new a0.Parts) fun r1 =>
 bnd (slices_Clone_api_Net_api_Net_new a0.Nets) fun r3 =>
 grd (r3.length ≤ lim) <|
 aft1 (forN (fun i5 s => nl_Own_b0 r1 r3 i5 s) (r3.length) 0 r3) (fun u15 =>
 grd (u15.length = r3.length) <|
 some (⟨r1, u15⟩ : Netlist))
 (fun r17 =>
 some r17)
theorem nl_Own_ok (a0 : Netlist) (r : Netlist) (h : nl_Own a0 = some r) : Spec PG 81 [gT (e_Netlist a0)] [] (.t (.agg [.rt 1, .rt 2])) [(1, .row 73 2 (List.map e_Part r.Parts)), (2, .nrow 64 3 1 28 2 (r.Nets).length [] (List.map e_Net r.Nets))] := by
  unfold nl_Own at h
  obtain ⟨r1, h2, h⟩ := bnd_e h
  obtain ⟨r3, h4, h⟩ := bnd_e h
  obtain ⟨h18, h⟩ := grd_e h
  rcases aft1_e h with ⟨u15, h16, h⟩ | ⟨r17, h16, h⟩
  · obtain ⟨h19, h⟩ := grd_e h
    have h := Option.some.inj h
    subst h
    exact Spec.path XTok PGmix nl_Own_fn 0 [.r [.id 0, .id 1], .d [([], []), ([0], []), ([], [.call [(0, 2)] [lT 2 (List.map e_Part a0.Parts)] [] (.t (.v (.rt 0))) [(0, .row 73 2 (List.map e_Part r1))]]), ([], []), ([0], []), ([], [.call [(0, 3)] [lT 3 (List.map e_Net a0.Nets)] [] (.t (.v (.rt 0))) [(0, .row 64 3 (List.map e_Net r3))]]), ([], []), ([0], []), ([], []), ([0], [])], .g (.w 3 1 28 2), .r [.eq 14 (iA (r3.length : Int))], .s (nl_Own_F0 r1 r3 0 r3) (nl_Own_H0 r1 r3 0 r3) [] (nl_Own_B0 r1 r3 u15), .g (.e 3 (u15).length), .r [], .w [(2, .t (.v (.ptr 0 0)))] [(1, .row 73 2 (List.map e_Part r1)), (2, .nrow 64 3 1 28 2 (u15).length [] (List.map e_Net u15)), (0, .cells 26 [.rt 1, .rt 2])] [(0, 1), (1, 2), (2, 3)]] (an (an (slices_Clone_api_Part_api_Part_new_ok a0.Parts r1 h2) (an (Eq.refl ([lT 2 (List.map e_Part a0.Parts)] : List TV)) (Eq.refl (renH (asg [(0, 2)]) [])))) (an (an (slices_Clone_api_Net_api_Net_new_ok a0.Nets r3 h4) (an (Eq.refl ([lT 3 (List.map e_Net a0.Nets)] : List TV)) (Eq.refl (renH (asg [(0, 3)]) [])))) (an (leni_eq e_Net r3) (an (nl_Own_l0 r1 r3 r3 h18 (.fin u15) h16) h19)))) (by kernel_rfl)
  · have h := Option.some.inj h
    subst h
    exact Spec.path XTok PGmix nl_Own_fn 0 [.r [.id 0, .id 1], .d [([], []), ([0], []), ([], [.call [(0, 2)] [lT 2 (List.map e_Part a0.Parts)] [] (.t (.v (.rt 0))) [(0, .row 73 2 (List.map e_Part r1))]]), ([], []), ([0], []), ([], [.call [(0, 3)] [lT 3 (List.map e_Net a0.Nets)] [] (.t (.v (.rt 0))) [(0, .row 64 3 (List.map e_Net r3))]]), ([], []), ([0], []), ([], []), ([0], [])], .g (.w 3 1 28 2), .r [.eq 14 (iA (r3.length : Int))], .s (nl_Own_F0 r1 r3 0 r3) (nl_Own_H0 r1 r3 0 r3) [] (nl_Own_R r17)] (an (an (slices_Clone_api_Part_api_Part_new_ok a0.Parts r1 h2) (an (Eq.refl ([lT 2 (List.map e_Part a0.Parts)] : List TV)) (Eq.refl (renH (asg [(0, 2)]) [])))) (an (an (slices_Clone_api_Net_api_Net_new_ok a0.Nets r3 h4) (an (Eq.refl ([lT 3 (List.map e_Net a0.Nets)] : List TV)) (Eq.refl (renH (asg [(0, 3)]) [])))) (an (leni_eq e_Net r3) (nl_Own_l0 r1 r3 r3 h18 (.ret r17) h16)))) (by kernel_rfl)

noncomputable def slices_IndexFunc_api_Part_api_Part_c : Code := (Go.Proofs.Tryd.f131.body).getD .skip
theorem slices_IndexFunc_api_Part_api_Part_fn : FnOk PG 131 slices_IndexFunc_api_Part_api_Part_c 19 [.tmp 4] := ⟨⟨Go.Proofs.Tryd.f131, by kernel_rfl, by kernel_rfl, by kernel_rfl, by kernel_rfl, by kernel_rfl⟩⟩
noncomputable def slices_IndexFunc_api_Part_api_Part_c0 : Code := cL (cL (cR (cL (cR slices_IndexFunc_api_Part_api_Part_c))))
noncomputable def slices_IndexFunc_api_Part_api_Part_R (r : Int) : Oc := .ret [(4, iA r)] []
noncomputable def slices_IndexFunc_api_Part_api_Part_F0 (a1_k : FuncId) (a1_c : List C) (a0 : List Part) (i1 : Nat) : Fr := [(0, lA 2 (List.map e_Part a0)), (1, .t (.v (.c (.fn a1_k a1_c)))), (6, lA 2 (List.map e_Part a0)), (7, iA (a0.length : Int)), (8, iA (i1 : Int))]
noncomputable def slices_IndexFunc_api_Part_api_Part_H0 (a1_k : FuncId) (a1_c : List C) (a0 : List Part) (i1 : Nat) : Hp := []
noncomputable def slices_IndexFunc_api_Part_api_Part_B0 (a1_k : FuncId) (a1_c : List C) (a0 : List Part) (s : Unit) : Oc := .ex 0 [] []
noncomputable def slices_IndexFunc_api_Part_api_Part_b0 (a1 : Part → Option Bool) (a0 : List Part) (i1 : Nat) : Option (Stp Unit Int) :=
 bnd (atI a0 (i1 : Int)) fun x2 =>
 bnd (a1 x2) fun r4 =>
 cnd r4 (some (.ret (i1 : Int))) (some (.go ()))
theorem slices_IndexFunc_api_Part_api_Part_b0_r (a1_k : FuncId) (a1_c : List C) (a1 : Part → Option Bool) (a1_ok : ∀ (z0 : Part) (r : Bool), a1 z0 = some r → Spec PG a1_k ([gT (e_Part z0)] ++ List.map (fun x => TV.v (CV.c x)) a1_c) [] (bA r) []) (a0 : List Part) (i1 : Nat) (o : Stp Unit Int) (hi : i1 < a0.length) (h : slices_IndexFunc_api_Part_api_Part_b0 a1 a0 i1 = some o) :
    Runs PG 19 0 slices_IndexFunc_api_Part_api_Part_c0 (slices_IndexFunc_api_Part_api_Part_F0 a1_k a1_c a0 i1 ) (slices_IndexFunc_api_Part_api_Part_H0 a1_k a1_c a0 i1 ) (stpOc (fun s' => .nor (slices_IndexFunc_api_Part_api_Part_F0 a1_k a1_c a0 (i1 + 1) ) (slices_IndexFunc_api_Part_api_Part_H0 a1_k a1_c a0 (i1 + 1) )) (slices_IndexFunc_api_Part_api_Part_B0 a1_k a1_c a0) slices_IndexFunc_api_Part_api_Part_R o) := by
  unfold slices_IndexFunc_api_Part_api_Part_b0 at h
  refine Runs.len (s := 6) (sz := 2) (xs := List.map e_Part a0) (by kernel_rfl) fun hl => ?_
  have hM : a0.length ≤ lim := len_of hl
  obtain ⟨x2, h3, h⟩ := bnd_e h
  obtain ⟨r4, h5, h⟩ := bnd_e h
  rcases cnd_e h with ⟨h6, h⟩ | ⟨h6, h⟩
  · have h := Option.some.inj h
    subst h
    exact Runs.path XTok PGmix [.r [], .b true, .r [], .r [.el (e_Part x2), .val (bA r4)], .b true, .r []] [] (an (lt_true hi) (an (idx_ok e_Part h3) (an (a1_ok x2 r4 h5) h6))) (by kernel_rfl)
  · have h := Option.some.inj h
    subst h
    exact Runs.path XTok PGmix [.r [], .b true, .r [], .r [.el (e_Part x2), .val (bA r4)], .b false, .r [.eq 18 (iA ((i1 + 1 : Nat) : Int))]] [] (an (lt_true hi) (an (idx_ok e_Part h3) (an (a1_ok x2 r4 h5) (an h6 (wrap_eq hi hM))))) (by kernel_rfl)
theorem slices_IndexFunc_api_Part_api_Part_b0_e (a1_k : FuncId) (a1_c : List C) (a1 : Part → Option Bool) (a1_ok : ∀ (z0 : Part) (r : Bool), a1 z0 = some r → Spec PG a1_k ([gT (e_Part z0)] ++ List.map (fun x => TV.v (CV.c x)) a1_c) [] (bA r) []) (a0 : List Part) : Runs PG 19 0 slices_IndexFunc_api_Part_api_Part_c0 (slices_IndexFunc_api_Part_api_Part_F0 a1_k a1_c a0 (a0.length) ) (slices_IndexFunc_api_Part_api_Part_H0 a1_k a1_c a0 (a0.length) ) (slices_IndexFunc_api_Part_api_Part_B0 a1_k a1_c a0 ()) := by
  exact Runs.path XTok PGmix [.r [], .b false] [] (lt_false (a0.length)) (by kernel_rfl)
theorem slices_IndexFunc_api_Part_api_Part_l0 (a1_k : FuncId) (a1_c : List C) (a1 : Part → Option Bool) (a1_ok : ∀ (z0 : Part) (r : Bool), a1 z0 = some r → Spec PG a1_k ([gT (e_Part z0)] ++ List.map (fun x => TV.v (CV.c x)) a1_c) [] (bA r) []) (a0 : List Part) (r : Fin' Unit Int) (h : forN (fun i1 s => slices_IndexFunc_api_Part_api_Part_b0 a1 a0 i1 ) (a0.length) 0 () = some r) : Runs PG 19 0 (cL (cR (cL (cR slices_IndexFunc_api_Part_api_Part_c)))) (slices_IndexFunc_api_Part_api_Part_F0 a1_k a1_c a0 0 ) (slices_IndexFunc_api_Part_api_Part_H0 a1_k a1_c a0 0 ) (finOc (slices_IndexFunc_api_Part_api_Part_B0 a1_k a1_c a0) slices_IndexFunc_api_Part_api_Part_R r) :=
  Runs.loop' (by kernel_rfl) (forN_rounds (σ := Unit) (ρ := Int) (body := fun i1 s => slices_IndexFunc_api_Part_api_Part_b0 a1 a0 i1 ) (F := fun i1 s => slices_IndexFunc_api_Part_api_Part_F0 a1_k a1_c a0 i1 ) (H := fun i1 s => slices_IndexFunc_api_Part_api_Part_H0 a1_k a1_c a0 i1 ) (B := slices_IndexFunc_api_Part_api_Part_B0 a1_k a1_c a0) (R := slices_IndexFunc_api_Part_api_Part_R) (M := a0.length) (fun _ => rfl) (fun _ => rfl) (fun s => slices_IndexFunc_api_Part_api_Part_b0_e a1_k a1_c a1 a1_ok a0 ) (fun i s o hi h => slices_IndexFunc_api_Part_api_Part_b0_r a1_k a1_c a1 a1_ok a0 i o hi h) _ 0 _ r (Nat.zero_add _) h)
noncomputable def slices_IndexFunc_api_Part_api_Part (a0 : List Part) (a1 : Part → Option Bool) : Option Int :=
 aft0 (forN (fun i1 s => slices_IndexFunc_api_Part_api_Part_b0 a1 a0 i1 ) (a0.length) 0 ()) (
 some (-1))
 (fun r8 =>
 some r8)
theorem slices_IndexFunc_api_Part_api_Part_ok (a0 : List Part) (a1_k : FuncId) (a1_c : List C) (a1 : Part → Option Bool) (a1_ok : ∀ (z0 : Part) (r : Bool), a1 z0 = some r → Spec PG a1_k ([gT (e_Part z0)] ++ List.map (fun x => TV.v (CV.c x)) a1_c) [] (bA r) []) (r : Int) (h : slices_IndexFunc_api_Part_api_Part a0 a1 = some r) : Spec PG 131 [lT 2 (List.map e_Part a0), .v (.c (.fn a1_k a1_c))] [] (iA r) [] := by
  unfold slices_IndexFunc_api_Part_api_Part at h
  rcases aft0_e h with ⟨h7, h⟩ | ⟨r8, h7, h⟩
  · have h := Option.some.inj h
    subst h
    exact Spec.path XTok PGmix slices_IndexFunc_api_Part_api_Part_fn 0 [.r [], .r [.eq 7 (iA (a0.length : Int))], .s (slices_IndexFunc_api_Part_api_Part_F0 a1_k a1_c a0 0 ) (slices_IndexFunc_api_Part_api_Part_H0 a1_k a1_c a0 0 ) [] (slices_IndexFunc_api_Part_api_Part_B0 a1_k a1_c a0 ()), .r []] (an (leni_eq e_Part a0) (slices_IndexFunc_api_Part_api_Part_l0 a1_k a1_c a1 a1_ok a0 (.fin ()) h7)) (by kernel_rfl)
  · have h := Option.some.inj h
    subst h
    exact Spec.path XTok PGmix slices_IndexFunc_api_Part_api_Part_fn 0 [.r [], .r [.eq 7 (iA (a0.length : Int))], .s (slices_IndexFunc_api_Part_api_Part_F0 a1_k a1_c a0 0 ) (slices_IndexFunc_api_Part_api_Part_H0 a1_k a1_c a0 0 ) [] (slices_IndexFunc_api_Part_api_Part_R r8)] (an (leni_eq e_Part a0) (slices_IndexFunc_api_Part_api_Part_l0 a1_k a1_c a1 a1_ok a0 (.ret r8) h7)) (by kernel_rfl)

noncomputable def slices_IndexFunc_api_Part_api_Part_own_c : Code := (Go.Proofs.Tryd.f131.body).getD .skip
theorem slices_IndexFunc_api_Part_api_Part_own_fn : FnOk PG 131 slices_IndexFunc_api_Part_api_Part_own_c 19 [.tmp 4] := ⟨⟨Go.Proofs.Tryd.f131, by kernel_rfl, by kernel_rfl, by kernel_rfl, by kernel_rfl, by kernel_rfl⟩⟩
noncomputable def slices_IndexFunc_api_Part_api_Part_own_c0 : Code := cL (cL (cR (cL (cR slices_IndexFunc_api_Part_api_Part_own_c))))
noncomputable def slices_IndexFunc_api_Part_api_Part_own_R (r : Int × List Part) : Oc := .ret [(4, iA r.1)] [(0, .row 73 2 (List.map e_Part r.2))]
noncomputable def slices_IndexFunc_api_Part_api_Part_own_F0 (a1_k : FuncId) (a1_c : List C) (a0 : List Part) (i1 : Nat) : Fr := [(0, .t (.v (.rt 0))), (1, .t (.v (.c (.fn a1_k a1_c)))), (6, .t (.v (.rt 0))), (7, iA (a0.length : Int)), (8, iA (i1 : Int))]
noncomputable def slices_IndexFunc_api_Part_api_Part_own_H0 (a1_k : FuncId) (a1_c : List C) (a0 : List Part) (i1 : Nat) : Hp := [(0, .row 73 2 (List.map e_Part a0))]
noncomputable def slices_IndexFunc_api_Part_api_Part_own_B0 (a1_k : FuncId) (a1_c : List C) (a0 : List Part) (s : Unit) : Oc := .ex 0 [] [(0, .row 73 2 (List.map e_Part a0))]
noncomputable def slices_IndexFunc_api_Part_api_Part_own_b0 (a1 : Part → Option Bool) (a0 : List Part) (i1 : Nat) : Option (Stp Unit (Int × List Part)) :=
 bnd (atI a0 (i1 : Int)) fun x2 =>
 bnd (a1 x2) fun r4 =>
 cnd r4 (some (.ret ((i1 : Int), a0))) (some (.go ()))
theorem slices_IndexFunc_api_Part_api_Part_own_b0_r (a1_k : FuncId) (a1_c : List C) (a1 : Part → Option Bool) (a1_ok : ∀ (z0 : Part) (r : Bool), a1 z0 = some r → Spec PG a1_k ([gT (e_Part z0)] ++ List.map (fun x => TV.v (CV.c x)) a1_c) [] (bA r) []) (a0 : List Part) (i1 : Nat) (o : Stp Unit (Int × List Part)) (hi : i1 < a0.length) (h : slices_IndexFunc_api_Part_api_Part_own_b0 a1 a0 i1 = some o) :
    Runs PG 19 1 slices_IndexFunc_api_Part_api_Part_own_c0 (slices_IndexFunc_api_Part_api_Part_own_F0 a1_k a1_c a0 i1 ) (slices_IndexFunc_api_Part_api_Part_own_H0 a1_k a1_c a0 i1 ) (stpOc (fun s' => .nor (slices_IndexFunc_api_Part_api_Part_own_F0 a1_k a1_c a0 (i1 + 1) ) (slices_IndexFunc_api_Part_api_Part_own_H0 a1_k a1_c a0 (i1 + 1) )) (slices_IndexFunc_api_Part_api_Part_own_B0 a1_k a1_c a0) slices_IndexFunc_api_Part_api_Part_own_R o) := by
  unfold slices_IndexFunc_api_Part_api_Part_own_b0 at h
  refine Runs.rlen (id := 0) (e := 73) (sz := 2) (xs := List.map e_Part a0) (by kernel_rfl) fun hl => ?_
  have hM : a0.length ≤ lim := len_of hl
  obtain ⟨x2, h3, h⟩ := bnd_e h
  obtain ⟨r4, h5, h⟩ := bnd_e h
  rcases cnd_e h with ⟨h6, h⟩ | ⟨h6, h⟩
  · have h := Option.some.inj h
    subst h
    exact Runs.path XTok PGmix [.r [], .b true, .r [], .r [.el (e_Part x2), .val (bA r4)], .b true, .r []] [] (an (lt_true hi) (an (idx_lt e_Part h3) (an (idx_el e_Part h3) (an (a1_ok x2 r4 h5) h6)))) (by kernel_rfl)
  · have h := Option.some.inj h
    subst h
    exact Runs.path XTok PGmix [.r [], .b true, .r [], .r [.el (e_Part x2), .val (bA r4)], .b false, .r [.eq 18 (iA ((i1 + 1 : Nat) : Int))]] [] (an (lt_true hi) (an (idx_lt e_Part h3) (an (idx_el e_Part h3) (an (a1_ok x2 r4 h5) (an h6 (wrap_eq hi hM)))))) (by kernel_rfl)
theorem slices_IndexFunc_api_Part_api_Part_own_b0_e (a1_k : FuncId) (a1_c : List C) (a1 : Part → Option Bool) (a1_ok : ∀ (z0 : Part) (r : Bool), a1 z0 = some r → Spec PG a1_k ([gT (e_Part z0)] ++ List.map (fun x => TV.v (CV.c x)) a1_c) [] (bA r) []) (a0 : List Part) : Runs PG 19 1 slices_IndexFunc_api_Part_api_Part_own_c0 (slices_IndexFunc_api_Part_api_Part_own_F0 a1_k a1_c a0 (a0.length) ) (slices_IndexFunc_api_Part_api_Part_own_H0 a1_k a1_c a0 (a0.length) ) (slices_IndexFunc_api_Part_api_Part_own_B0 a1_k a1_c a0 ()) := by
  exact Runs.path XTok PGmix [.r [], .b false] [] (lt_false (a0.length)) (by kernel_rfl)
theorem slices_IndexFunc_api_Part_api_Part_own_l0 (a1_k : FuncId) (a1_c : List C) (a1 : Part → Option Bool) (a1_ok : ∀ (z0 : Part) (r : Bool), a1 z0 = some r → Spec PG a1_k ([gT (e_Part z0)] ++ List.map (fun x => TV.v (CV.c x)) a1_c) [] (bA r) []) (a0 : List Part) (r : Fin' Unit (Int × List Part)) (h : forN (fun i1 s => slices_IndexFunc_api_Part_api_Part_own_b0 a1 a0 i1 ) (a0.length) 0 () = some r) : Runs PG 19 1 (cL (cR (cL (cR slices_IndexFunc_api_Part_api_Part_own_c)))) (slices_IndexFunc_api_Part_api_Part_own_F0 a1_k a1_c a0 0 ) (slices_IndexFunc_api_Part_api_Part_own_H0 a1_k a1_c a0 0 ) (finOc (slices_IndexFunc_api_Part_api_Part_own_B0 a1_k a1_c a0) slices_IndexFunc_api_Part_api_Part_own_R r) :=
  Runs.loop' (by kernel_rfl) (forN_rounds (σ := Unit) (ρ := (Int × List Part)) (body := fun i1 s => slices_IndexFunc_api_Part_api_Part_own_b0 a1 a0 i1 ) (F := fun i1 s => slices_IndexFunc_api_Part_api_Part_own_F0 a1_k a1_c a0 i1 ) (H := fun i1 s => slices_IndexFunc_api_Part_api_Part_own_H0 a1_k a1_c a0 i1 ) (B := slices_IndexFunc_api_Part_api_Part_own_B0 a1_k a1_c a0) (R := slices_IndexFunc_api_Part_api_Part_own_R) (M := a0.length) (fun _ => rfl) (fun _ => rfl) (fun s => slices_IndexFunc_api_Part_api_Part_own_b0_e a1_k a1_c a1 a1_ok a0 ) (fun i s o hi h => slices_IndexFunc_api_Part_api_Part_own_b0_r a1_k a1_c a1 a1_ok a0 i o hi h) _ 0 _ r (Nat.zero_add _) h)
noncomputable def slices_IndexFunc_api_Part_api_Part_own (a0 : List Part) (a1 : Part → Option Bool) : Option (Int × List Part) :=
 aft0 (forN (fun i1 s => slices_IndexFunc_api_Part_api_Part_own_b0 a1 a0 i1 ) (a0.length) 0 ()) (
 some ((-1), a0))
 (fun r8 =>
 some r8)
theorem slices_IndexFunc_api_Part_api_Part_own_ok (a0 : List Part) (a1_k : FuncId) (a1_c : List C) (a1 : Part → Option Bool) (a1_ok : ∀ (z0 : Part) (r : Bool), a1 z0 = some r → Spec PG a1_k ([gT (e_Part z0)] ++ List.map (fun x => TV.v (CV.c x)) a1_c) [] (bA r) []) (r : Int × List Part) (h : slices_IndexFunc_api_Part_api_Part_own a0 a1 = some r) : Spec PG 131 [.v (.rt 0), .v (.c (.fn a1_k a1_c))] [(0, .row 73 2 (List.map e_Part a0))] (iA r.1) [(0, .row 73 2 (List.map e_Part r.2))] := by
  unfold slices_IndexFunc_api_Part_api_Part_own at h
  rcases aft0_e h with ⟨h7, h⟩ | ⟨r8, h7, h⟩
  · have h := Option.some.inj h
    subst h
    exact Spec.path XTok PGmix slices_IndexFunc_api_Part_api_Part_own_fn 1 [.r [], .r [.eq 7 (iA (a0.length : Int))], .s (slices_IndexFunc_api_Part_api_Part_own_F0 a1_k a1_c a0 0 ) (slices_IndexFunc_api_Part_api_Part_own_H0 a1_k a1_c a0 0 ) [] (slices_IndexFunc_api_Part_api_Part_own_B0 a1_k a1_c a0 ()), .r []] (an (leni_eq e_Part a0) (slices_IndexFunc_api_Part_api_Part_own_l0 a1_k a1_c a1 a1_ok a0 (.fin ()) h7)) (by kernel_rfl)
  · have h := Option.some.inj h
    subst h
    exact Spec.path XTok PGmix slices_IndexFunc_api_Part_api_Part_own_fn 1 [.r [], .r [.eq 7 (iA (a0.length : Int))], .s (slices_IndexFunc_api_Part_api_Part_own_F0 a1_k a1_c a0 0 ) (slices_IndexFunc_api_Part_api_Part_own_H0 a1_k a1_c a0 0 ) [] (slices_IndexFunc_api_Part_api_Part_own_R r8)] (an (leni_eq e_Part a0) (slices_IndexFunc_api_Part_api_Part_own_l0 a1_k a1_c a1 a1_ok a0 (.ret r8) h7)) (by kernel_rfl)

noncomputable def slices_DeleteFunc_api_Part_api_Part_c : Code := (Go.Proofs.Tryd.f82.body).getD .skip
theorem slices_DeleteFunc_api_Part_api_Part_fn : FnOk PG 82 slices_DeleteFunc_api_Part_api_Part_c 42 [.tmp 4] := ⟨⟨Go.Proofs.Tryd.f82, by kernel_rfl, by kernel_rfl, by kernel_rfl, by kernel_rfl, by kernel_rfl⟩⟩
noncomputable def slices_DeleteFunc_api_Part_api_Part_c0 : Code := cL (cL (cR (cL (cR (cR (cR slices_DeleteFunc_api_Part_api_Part_c))))))
noncomputable def slices_DeleteFunc_api_Part_api_Part_R (r : List Part) : Oc := .ret [(4, .t (.v (.rt 1)))] [(1, .row 73 2 (List.map e_Part r))]
noncomputable def slices_DeleteFunc_api_Part_api_Part_F0 (a1_k : FuncId) (a1_c : List C) (y4 : Int) (y5 : Int) (y6 : List Part) : Fr := [(0, .t (.v (.rt 1))), (1, .t (.v (.c (.fn a1_k a1_c)))), (5, iA y4), (6, iA y5)]
noncomputable def slices_DeleteFunc_api_Part_api_Part_H0 (a1_k : FuncId) (a1_c : List C) (y4 : Int) (y5 : Int) (y6 : List Part) : Hp := [(1, .row 73 2 (List.map e_Part y6))]
noncomputable def slices_DeleteFunc_api_Part_api_Part_B0 (a1_k : FuncId) (a1_c : List C) (s : Int × Int × List Part) : Oc := .ex 0 [(0, .t (.v (.rt 1))), (5, iA s.1)] [(1, .row 73 2 (List.map e_Part s.2.2))]
noncomputable def slices_DeleteFunc_api_Part_api_Part_b0 (a1 : Part → Option Bool) (y4 : Int) (y5 : Int) (y6 : List Part) : Option (Stp (Int × Int × List Part) (List Part)) :=
 cnd (decide (y5 < (y6.length : Int))) (bnd (atI y6 y5) fun x8 =>
 bnd (a1 x8) fun r10 =>
 bnd2 (cnd (!r10) (bnd (atI y6 y4) fun x17 =>
 some (w64 (y4 + 1), y6.set (Int.toNat y4) x8)) (some (y4, y6))) fun v12 v13 =>
 some (.go (v12, w64 (y5 + 1), v13))) (some (.brk (y4, y5, y6)))
theorem slices_DeleteFunc_api_Part_api_Part_b0_r (a1_k : FuncId) (a1_c : List C) (a1 : Part → Option Bool) (a1_ok : ∀ (z0 : Part) (r : Bool), a1 z0 = some r → Spec PG a1_k ([gT (e_Part z0)] ++ List.map (fun x => TV.v (CV.c x)) a1_c) [] (bA r) []) (y4 : Int) (y5 : Int) (y6 : List Part) (o : Stp (Int × Int × List Part) (List Part)) (h : slices_DeleteFunc_api_Part_api_Part_b0 a1 y4 y5 y6 = some o) :
    Runs PG 42 1 slices_DeleteFunc_api_Part_api_Part_c0 (slices_DeleteFunc_api_Part_api_Part_F0 a1_k a1_c y4 y5 y6) (slices_DeleteFunc_api_Part_api_Part_H0 a1_k a1_c y4 y5 y6) (stpOc (fun s' => .nor (slices_DeleteFunc_api_Part_api_Part_F0 a1_k a1_c s'.1 s'.2.1 s'.2.2) (slices_DeleteFunc_api_Part_api_Part_H0 a1_k a1_c s'.1 s'.2.1 s'.2.2)) (slices_DeleteFunc_api_Part_api_Part_B0 a1_k a1_c ) slices_DeleteFunc_api_Part_api_Part_R o) := by
  unfold slices_DeleteFunc_api_Part_api_Part_b0 at h
  rcases cnd_e h with ⟨h7, h⟩ | ⟨h7, h⟩
  · obtain ⟨x8, h9, h⟩ := bnd_e h
    obtain ⟨r10, h11, h⟩ := bnd_e h
    obtain ⟨v12, v13, h14, h⟩ := bnd2_e h
    let q23_f : Fr := [(0, .t (.v (.rt 1))), (1, .t (.v (.c (.fn a1_k a1_c)))), (5, iA y4), (6, iA y5), (7, .t (.v (.ptr 2 0))), (29, bA (!r10))]
    let q23_g : Hp := [(1, .row 73 2 (List.map e_Part y6)), (2, .cells 73 [.c (sC x8.Name), .c (sC x8.Type_)])]
    let q23_f' : Fr := [(0, .t (.v (.rt 1))), (1, .t (.v (.c (.fn a1_k a1_c)))), (5, iA v12), (6, iA y5)]
    let q23_g' : Hp := [(1, .row 73 2 (List.map e_Part v13))]
    have R15 : Runs PG 42 1 (cR (cR (cL (cL (cR slices_DeleteFunc_api_Part_api_Part_c0))))) q23_f q23_g (.nor q23_f' q23_g') := by
      rcases cnd_e h14 with ⟨h16, h14⟩ | ⟨h16, h14⟩
      · obtain ⟨x17, h18, h14⟩ := bnd_e h14
        have h14 := Option.some.inj h14
        have q19 := (Prod.mk.inj h14).1
        have q20 := (Prod.mk.inj h14).2
        subst q19
        subst q20
        exact Runs.path XTok PGmix [.b true, .r [.el (e_Part x17), .row (List.map e_Part (y6.set (Int.toNat y4) x8))], .r []] [] (an h16 (an (idx_lt e_Part h18) (set_ok e_Part h18 x8 0 [sC x8.Name, sC x8.Type_] (by kernel_rfl)))) (by kernel_rfl)
      · have h14 := Option.some.inj h14
        have q21 := (Prod.mk.inj h14).1
        have q22 := (Prod.mk.inj h14).2
        subst q21
        subst q22
        exact Runs.path XTok PGmix [.b false] [] h16 (by kernel_rfl)
    have h := Option.some.inj h
    subst h
    exact Runs.path XTok PGmix [.r [.eq 18 (iA (y6.length : Int))], .b true, .r [.el (e_Part x8), .id 2], .r [.val (bA r10)], .s q23_f q23_g [] (.nor q23_f' q23_g'), .r []] [] (an (leni_eq e_Part y6) (an h7 (an (idx_lt e_Part h9) (an (idx_el e_Part h9) (an (a1_ok x8 r10 h11) R15))))) (by kernel_rfl)
  · have h := Option.some.inj h
    subst h
    exact Runs.path XTok PGmix [.r [.eq 18 (iA (y6.length : Int))], .b false] [] (an (leni_eq e_Part y6) h7) (by kernel_rfl)
theorem slices_DeleteFunc_api_Part_api_Part_l0 (a1_k : FuncId) (a1_c : List C) (a1 : Part → Option Bool) (a1_ok : ∀ (z0 : Part) (r : Bool), a1 z0 = some r → Spec PG a1_k ([gT (e_Part z0)] ++ List.map (fun x => TV.v (CV.c x)) a1_c) [] (bA r) []) (y4 : Int) (y5 : Int) (y6 : List Part) (r : Fin' (Int × Int × List Part) (List Part)) (h : loop (fun s => slices_DeleteFunc_api_Part_api_Part_b0 a1 s.1 s.2.1 s.2.2) (y4, y5, y6) = some r) : Runs PG 42 1 (cL (cR (cL (cR (cR (cR slices_DeleteFunc_api_Part_api_Part_c)))))) (slices_DeleteFunc_api_Part_api_Part_F0 a1_k a1_c y4 y5 y6) (slices_DeleteFunc_api_Part_api_Part_H0 a1_k a1_c y4 y5 y6) (finOc (slices_DeleteFunc_api_Part_api_Part_B0 a1_k a1_c ) slices_DeleteFunc_api_Part_api_Part_R r) :=
  Runs.loop' (by kernel_rfl) (loop_rounds (σ := (Int × Int × List Part)) (ρ := (List Part)) (body := fun s => slices_DeleteFunc_api_Part_api_Part_b0 a1 s.1 s.2.1 s.2.2) (F := fun s => slices_DeleteFunc_api_Part_api_Part_F0 a1_k a1_c s.1 s.2.1 s.2.2) (H := fun s => slices_DeleteFunc_api_Part_api_Part_H0 a1_k a1_c s.1 s.2.1 s.2.2) (B := slices_DeleteFunc_api_Part_api_Part_B0 a1_k a1_c ) (R := slices_DeleteFunc_api_Part_api_Part_R) (fun _ => rfl) (fun _ => rfl) (fun s o h => slices_DeleteFunc_api_Part_api_Part_b0_r a1_k a1_c a1 a1_ok s.1 s.2.1 s.2.2 o h) h)
noncomputable def slices_DeleteFunc_api_Part_api_Part (a0 : List Part) (a1 : Part → Option Bool) : Option (List Part) :=
 bnd (slices_IndexFunc_api_Part_api_Part_own a0 a1) fun r1 =>
 cnd (r1.1 == (-1)) (some r1.2) (aft3 (loop (fun s => slices_DeleteFunc_api_Part_api_Part_b0 a1 s.1 s.2.1 s.2.2) (r1.1, w64 (r1.1 + 1), r1.2)) (fun u24 u25 u26 =>
 grd ((0 : Int) ≤ u24 ∧ u24 ≤ (u26.length : Int)) <|
 grd ((0 : Int) ≤ (0 : Int) ∧ (0 : Int) ≤ u24 ∧ u24 ≤ ((u26.take (Int.toNat u24) ++ (List.replicate (((u26.length : Int) - u24).toNat) (⟨(⟨#[]⟩ : ByteArray), (⟨#[]⟩ : ByteArray)⟩ : Part) ++ u26.drop (Int.toNat u24 + ((u26.length : Int) - u24).toNat))).length : Int)) <|
 some ((u26.take (Int.toNat u24) ++ (List.replicate (((u26.length : Int) - u24).toNat) (⟨(⟨#[]⟩ : ByteArray), (⟨#[]⟩ : ByteArray)⟩ : Part) ++ u26.drop (Int.toNat u24 + ((u26.length : Int) - u24).toNat))).take ((u24 - (0 : Int)).toNat)))
 (fun r28 =>
 some r28))
theorem slices_DeleteFunc_api_Part_api_Part_ok (a0 : List Part) (a1_k : FuncId) (a1_c : List C) (a1 : Part → Option Bool) (a1_ok : ∀ (z0 : Part) (r : Bool), a1 z0 = some r → Spec PG a1_k ([gT (e_Part z0)] ++ List.map (fun x => TV.v (CV.c x)) a1_c) [] (bA r) []) (r : List Part) (h : slices_DeleteFunc_api_Part_api_Part a0 a1 = some r) : Spec PG 82 [.v (.rt 0), .v (.c (.fn a1_k a1_c))] [(0, .row 73 2 (List.map e_Part a0))] (.t (.v (.rt 1))) [(1, .row 73 2 (List.map e_Part r))] := by
  unfold slices_DeleteFunc_api_Part_api_Part at h
  obtain ⟨r1, h2, h⟩ := bnd_e h
  rcases cnd_e h with ⟨h3, h⟩ | ⟨h3, h⟩
  · have h := Option.some.inj h
    subst h
    exact Spec.path XTok PGmix slices_DeleteFunc_api_Part_api_Part_fn 1 [.w [(0, .t (.v (.rt 1))), (1, .t (.v (.c (.fn a1_k a1_c))))] [(1, .row 73 2 (List.map e_Part a0))] [(1, 0)], .r [.nl 2], .r [.call [(0, 1)] [.v (.rt 0), .v (.c (.fn a1_k a1_c))] [(0, .row 73 2 (List.map e_Part a0))] (iA r1.1) [(0, .row 73 2 (List.map e_Part r1.2))]], .r [], .b true, .r []] (an (an (slices_IndexFunc_api_Part_api_Part_own_ok a0 a1_k a1_c a1 a1_ok r1 h2) (an (Eq.refl ([.v (.rt 1), .v (.c (.fn a1_k a1_c))] : List TV)) (Eq.refl (renH (asg [(0, 1)]) [(0, .row 73 2 (List.map e_Part a0))])))) h3) (by kernel_rfl)
  · rcases aft3_e h with ⟨u24, u25, u26, h27, h⟩ | ⟨r28, h27, h⟩
    · obtain ⟨h29, h⟩ := grd_e h
      obtain ⟨h30, h⟩ := grd_e h
      have h := Option.some.inj h
      subst h
      exact Spec.path XTok PGmix slices_DeleteFunc_api_Part_api_Part_fn 1 [.w [(0, .t (.v (.rt 1))), (1, .t (.v (.c (.fn a1_k a1_c))))] [(1, .row 73 2 (List.map e_Part a0))] [(1, 0)], .r [.nl 2], .r [.call [(0, 1)] [.v (.rt 0), .v (.c (.fn a1_k a1_c))] [(0, .row 73 2 (List.map e_Part a0))] (iA r1.1) [(0, .row 73 2 (List.map e_Part r1.2))]], .r [], .b false, .r [], .s (slices_DeleteFunc_api_Part_api_Part_F0 a1_k a1_c r1.1 (w64 (r1.1 + 1)) r1.2) (slices_DeleteFunc_api_Part_api_Part_H0 a1_k a1_c r1.1 (w64 (r1.1 + 1)) r1.2) [] (slices_DeleteFunc_api_Part_api_Part_B0 a1_k a1_c (u24, u25, u26)), .r [.eq 38 (.t (.v (.sub 2 1 (Int.toNat u24) (((u26.length : Int) - u24).toNat)))), .el (e_Part (⟨(⟨#[]⟩ : ByteArray), (⟨#[]⟩ : ByteArray)⟩ : Part)), .row (List.map e_Part (u26.take (Int.toNat u24) ++ (List.replicate (((u26.length : Int) - u24).toNat) (⟨(⟨#[]⟩ : ByteArray), (⟨#[]⟩ : ByteArray)⟩ : Part) ++ u26.drop (Int.toNat u24 + ((u26.length : Int) - u24).toNat))))], .r [], .h 4 21 (List.map e_Part ((u26.take (Int.toNat u24) ++ (List.replicate (((u26.length : Int) - u24).toNat) (⟨(⟨#[]⟩ : ByteArray), (⟨#[]⟩ : ByteArray)⟩ : Part) ++ u26.drop (Int.toNat u24 + ((u26.length : Int) - u24).toNat))).take ((u24 - (0 : Int)).toNat))), .w [(4, .t (.v (.rt 1)))] [(1, .row 73 2 (List.map e_Part ((u26.take (Int.toNat u24) ++ (List.replicate (((u26.length : Int) - u24).toNat) (⟨(⟨#[]⟩ : ByteArray), (⟨#[]⟩ : ByteArray)⟩ : Part) ++ u26.drop (Int.toNat u24 + ((u26.length : Int) - u24).toNat))).take ((u24 - (0 : Int)).toNat))))] [(1, 21)]] (an (an (slices_IndexFunc_api_Part_api_Part_own_ok a0 a1_k a1_c a1 a1_ok r1 h2) (an (Eq.refl ([.v (.rt 1), .v (.c (.fn a1_k a1_c))] : List TV)) (Eq.refl (renH (asg [(0, 1)]) [(0, .row 73 2 (List.map e_Part a0))])))) (an h3 (an (slices_DeleteFunc_api_Part_api_Part_l0 a1_k a1_c a1 a1_ok r1.1 (w64 (r1.1 + 1)) r1.2 (.fin (u24, u25, u26)) h27) (an (cut_n e_Part h29) (an (sub_eq 2 1 (Int.toNat u24) u24 e_Part u26) (an (clear_ok e_Part (⟨(⟨#[]⟩ : ByteArray), (⟨#[]⟩ : ByteArray)⟩ : Part) u26 (Int.toNat u24) (((u26.length : Int) - u24).toNat)) (an (cut_lh e_Part h30) (take_ok e_Part (u26.take (Int.toNat u24) ++ (List.replicate (((u26.length : Int) - u24).toNat) (⟨(⟨#[]⟩ : ByteArray), (⟨#[]⟩ : ByteArray)⟩ : Part) ++ u26.drop (Int.toNat u24 + ((u26.length : Int) - u24).toNat))) ((u24 - (0 : Int)).toNat))))))))) (by kernel_rfl)
    · have h := Option.some.inj h
      subst h
      exact Spec.path XTok PGmix slices_DeleteFunc_api_Part_api_Part_fn 1 [.w [(0, .t (.v (.rt 1))), (1, .t (.v (.c (.fn a1_k a1_c))))] [(1, .row 73 2 (List.map e_Part a0))] [(1, 0)], .r [.nl 2], .r [.call [(0, 1)] [.v (.rt 0), .v (.c (.fn a1_k a1_c))] [(0, .row 73 2 (List.map e_Part a0))] (iA r1.1) [(0, .row 73 2 (List.map e_Part r1.2))]], .r [], .b false, .r [], .s (slices_DeleteFunc_api_Part_api_Part_F0 a1_k a1_c r1.1 (w64 (r1.1 + 1)) r1.2) (slices_DeleteFunc_api_Part_api_Part_H0 a1_k a1_c r1.1 (w64 (r1.1 + 1)) r1.2) [] (slices_DeleteFunc_api_Part_api_Part_R r28)] (an (an (slices_IndexFunc_api_Part_api_Part_own_ok a0 a1_k a1_c a1 a1_ok r1 h2) (an (Eq.refl ([.v (.rt 1), .v (.c (.fn a1_k a1_c))] : List TV)) (Eq.refl (renH (asg [(0, 1)]) [(0, .row 73 2 (List.map e_Part a0))])))) (an h3 (slices_DeleteFunc_api_Part_api_Part_l0 a1_k a1_c a1 a1_ok r1.1 (w64 (r1.1 + 1)) r1.2 (.ret r28) h27))) (by kernel_rfl)

noncomputable def cmp_isNaN_string_c : Code := (Go.Proofs.Tryd.f177.body).getD .skip
theorem cmp_isNaN_string_fn : FnOk PG 177 cmp_isNaN_string_c 6 [.tmp 2] := ⟨⟨Go.Proofs.Tryd.f177, by kernel_rfl, by kernel_rfl, by kernel_rfl, by kernel_rfl, by kernel_rfl⟩⟩
noncomputable def cmp_isNaN_string (a0 : ByteArray) : Option Bool :=
 some (sNe a0 a0)
theorem cmp_isNaN_string_ok (a0 : ByteArray) (r : Bool) (h : cmp_isNaN_string a0 = some r) : Spec PG 177 [sT a0] [] (bA r) [] := by
  unfold cmp_isNaN_string at h
  have h := Option.some.inj h
  subst h
  exact Spec.path XTok PGmix cmp_isNaN_string_fn 0 [.r [], .r []] trivial (by kernel_rfl)
end Go.Proofs.YtlbndchfmdogeaaDoor.Sym
