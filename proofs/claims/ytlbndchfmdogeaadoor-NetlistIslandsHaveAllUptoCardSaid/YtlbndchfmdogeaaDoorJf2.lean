/- Printed by gen2.py: the plain forms of functions, and that calling them gives what these give. Conditions: none. -/
import Derived.Test.YtlbndchfmdogeaaDoorJf1
set_option linter.unusedVariables false
set_option maxHeartbeats 4000000
namespace Go.Proofs.YtlbndchfmdogeaaDoor.Sym
open Go Go.RowKit
noncomputable def nl_CheckList_1_c : Code := (Go.Proofs.Tryd.f51.body).getD .skip
theorem nl_CheckList_1_fn : FnOk PG 51 nl_CheckList_1_c 10 [.tmp 4] := ⟨⟨Go.Proofs.Tryd.f51, by kernel_rfl, by kernel_rfl, by kernel_rfl, by kernel_rfl, by kernel_rfl⟩⟩
noncomputable def nl_CheckList_1 (a0 : Pin) (a1 : List PartType) (a2 : Netlist) : Option Bool :=
 bnd (nl_hasPin a1 a2.Parts a0) fun r1 =>
 some r1
theorem nl_CheckList_1_ok (a0 : Pin) (a1 : List PartType) (a2 : Netlist) (r : Bool) (h : nl_CheckList_1 a0 a1 a2 = some r) : Spec PG 51 [gT (e_Pin a0), .v (.c (.ptr [.sl 2 (List.map e_PartType a1)])), .v (.c (.ptr (e_Netlist a2)))] [] (bA r) [] := by
  unfold nl_CheckList_1 at h
  obtain ⟨r1, h2, h⟩ := bnd_e h
  have h := Option.some.inj h
  subst h
  exact Spec.path XTok PGmix nl_CheckList_1_fn 0 [.r [.id 0], .r [.val (bA r1)]] (nl_hasPin_ok a1 a2.Parts a0 r1 h2) (by kernel_rfl)

noncomputable def nl_CheckList_c : Code := (Go.Proofs.Tryd.f15.body).getD .skip
theorem nl_CheckList_fn : FnOk PG 15 nl_CheckList_c 71 [.tmp 4] := ⟨⟨Go.Proofs.Tryd.f15, by kernel_rfl, by kernel_rfl, by kernel_rfl, by kernel_rfl, by kernel_rfl⟩⟩
noncomputable def nl_CheckList_c0 : Code := cL (cL (cR (cL (cR (cR (cR (cR (cR nl_CheckList_c))))))))
noncomputable def nl_CheckList_R (r : Int) : Oc := .ret [(4, iA r)] []
noncomputable def nl_CheckList_F0 (a0 : List PartType) (a1 : Netlist) (i8 : Nat) (y9 : List (Pin × Bool)) : Fr := [(2, .t (.v (.c (.ptr [.sl 2 (List.map e_PartType a0)])))), (3, .t (.v (.c (.ptr (e_Netlist a1))))), (7, .t (.v (.rt 2))), (29, lA 3 (List.map e_Net a1.Nets)), (30, iA (a1.Nets.length : Int)), (31, iA (i8 : Int))]
noncomputable def nl_CheckList_H0 (a0 : List PartType) (a1 : Netlist) (i8 : Nat) (y9 : List (Pin × Bool)) : Hp := [(2, .map (keys PG 28) (encM kv_Pin dv_bool y9))]
noncomputable def nl_CheckList_B0 (a0 : List PartType) (a1 : Netlist) (s : (List (Pin × Bool))) : Oc := .ex 0 [] []
noncomputable def nl_CheckList_b0 (a0 : List PartType) (a1 : Netlist) (i8 : Nat) (y9 : List (Pin × Bool)) : Option (Stp (List (Pin × Bool)) Int) :=
 bnd (atI a1.Nets (i8 : Int)) fun x10 =>
 bnd (nl_IsPath x10.Name) fun r12 =>
 cnd (!r12) (some (.ret 5)) (cnd ((x10.Pins.length : Int) == 0) (some (.ret 9)) (bnd (nl_checkNetPins x10.Pins (fun z0 => nl_CheckList_1 z0 a0 a1) y9) fun r16 =>
 cnd (r16.1 != 0) (some (.ret r16.1)) (cnd (decide ((x10.Ports.length : Int) > 0)) (some (.ret 3)) (bnd1 (cnd (decide ((i8 : Int) > 0)) (bnd (atI a1.Nets (w64 ((i8 : Int) - 1))) fun x24 =>
 some (sLe x10.Name x24.Name)) (some false)) fun v20 =>
 cnd v20 (some (.ret 8)) (some (.go r16.2))))))
theorem nl_CheckList_b0_r (a0 : List PartType) (a1 : Netlist) (i8 : Nat) (y9 : List (Pin × Bool)) (o : Stp (List (Pin × Bool)) Int) (hi : i8 < a1.Nets.length) (h : nl_CheckList_b0 a0 a1 i8 y9 = some o) :
    Runs PG 71 0 nl_CheckList_c0 (nl_CheckList_F0 a0 a1 i8 y9) (nl_CheckList_H0 a0 a1 i8 y9) (stpOc (fun s' => .nor (nl_CheckList_F0 a0 a1 (i8 + 1) s') (nl_CheckList_H0 a0 a1 (i8 + 1) s')) (nl_CheckList_B0 a0 a1) nl_CheckList_R o) := by
  unfold nl_CheckList_b0 at h
  refine Runs.len (s := 29) (sz := 3) (xs := List.map e_Net a1.Nets) (by kernel_rfl) fun hl => ?_
  have hM : a1.Nets.length ≤ lim := len_of hl
  obtain ⟨x10, h11, h⟩ := bnd_e h
  obtain ⟨r12, h13, h⟩ := bnd_e h
  rcases cnd_e h with ⟨h14, h⟩ | ⟨h14, h⟩
  · have h := Option.some.inj h
    subst h
    exact Runs.path XTok PGmix [.r [], .b true, .r [.el (e_Net x10), .id 3], .r [.val (bA r12)], .b true, .r []] [] (an (lt_true hi) (an (idx_ok e_Net h11) (an (nl_IsPath_ok x10.Name r12 h13) h14))) (by kernel_rfl)
  · rcases cnd_e h with ⟨h15, h⟩ | ⟨h15, h⟩
    · have h := Option.some.inj h
      subst h
      exact Runs.path XTok PGmix [.r [], .b true, .r [.el (e_Net x10), .id 3], .r [.val (bA r12)], .b false, .r [.eq 42 (iA (x10.Pins.length : Int))], .b true, .r []] [] (an (lt_true hi) (an (idx_ok e_Net h11) (an (nl_IsPath_ok x10.Name r12 h13) (an h14 (an (leni_eq e_Pin x10.Pins) h15))))) (by kernel_rfl)
    · obtain ⟨r16, h17, h⟩ := bnd_e h
      rcases cnd_e h with ⟨h18, h⟩ | ⟨h18, h⟩
      · have h := Option.some.inj h
        subst h
        exact Runs.path XTok PGmix [.r [], .b true, .r [.el (e_Net x10), .id 3], .r [.val (bA r12)], .b false, .r [.eq 42 (iA (x10.Pins.length : Int))], .b false, .r [.call [(0, 2)] [lT 2 (List.map e_Pin x10.Pins), .v (.c (.fn 51 [.ptr [.sl 2 (List.map e_PartType a0)], .ptr (e_Netlist a1)])), .v (.rt 0)] [(0, .map (keys PG 28) (encM kv_Pin dv_bool y9))] (iA r16.1) [(0, .map (keys PG 28) (encM kv_Pin dv_bool r16.2))]], .r [], .b true, .r []] [] (an (lt_true hi) (an (idx_ok e_Net h11) (an (nl_IsPath_ok x10.Name r12 h13) (an h14 (an (leni_eq e_Pin x10.Pins) (an h15 (an (an (nl_checkNetPins_ok x10.Pins 51 [.ptr [.sl 2 (List.map e_PartType a0)], .ptr (e_Netlist a1)] (fun z0 => nl_CheckList_1 z0 a0 a1) (fun z0 r h => nl_CheckList_1_ok z0 a0 a1 r h) y9 r16 h17) (an (Eq.refl ([lT 2 (List.map e_Pin x10.Pins), .v (.c (.fn 51 [.ptr [.sl 2 (List.map e_PartType a0)], .ptr (e_Netlist a1)])), .v (.rt 2)] : List TV)) (Eq.refl (renH (asg [(0, 2)]) [(0, .map (keys PG 28) (encM kv_Pin dv_bool y9))])))) h18))))))) (by kernel_rfl)
      · rcases cnd_e h with ⟨h19, h⟩ | ⟨h19, h⟩
        · have h := Option.some.inj h
          subst h
          exact Runs.path XTok PGmix [.r [], .b true, .r [.el (e_Net x10), .id 3], .r [.val (bA r12)], .b false, .r [.eq 42 (iA (x10.Pins.length : Int))], .b false, .r [.call [(0, 2)] [lT 2 (List.map e_Pin x10.Pins), .v (.c (.fn 51 [.ptr [.sl 2 (List.map e_PartType a0)], .ptr (e_Netlist a1)])), .v (.rt 0)] [(0, .map (keys PG 28) (encM kv_Pin dv_bool y9))] (iA r16.1) [(0, .map (keys PG 28) (encM kv_Pin dv_bool r16.2))]], .r [], .b false, .r [.eq 54 (iA (x10.Ports.length : Int))], .b true, .r []] [] (an (lt_true hi) (an (idx_ok e_Net h11) (an (nl_IsPath_ok x10.Name r12 h13) (an h14 (an (leni_eq e_Pin x10.Pins) (an h15 (an (an (nl_checkNetPins_ok x10.Pins 51 [.ptr [.sl 2 (List.map e_PartType a0)], .ptr (e_Netlist a1)] (fun z0 => nl_CheckList_1 z0 a0 a1) (fun z0 r h => nl_CheckList_1_ok z0 a0 a1 r h) y9 r16 h17) (an (Eq.refl ([lT 2 (List.map e_Pin x10.Pins), .v (.c (.fn 51 [.ptr [.sl 2 (List.map e_PartType a0)], .ptr (e_Netlist a1)])), .v (.rt 2)] : List TV)) (Eq.refl (renH (asg [(0, 2)]) [(0, .map (keys PG 28) (encM kv_Pin dv_bool y9))])))) (an h18 (an (leni_eq e_str x10.Ports) h19))))))))) (by kernel_rfl)
        · obtain ⟨v20, h21, h⟩ := bnd1_e h
          let q26_f : Fr := [(2, .t (.v (.c (.ptr [.sl 2 (List.map e_PartType a0)])))), (3, .t (.v (.c (.ptr (e_Netlist a1))))), (7, .t (.v (.rt 2))), (8, iA (i8 : Int)), (9, .t (.v (.ptr 3 0))), (29, lA 3 (List.map e_Net a1.Nets)), (30, iA (a1.Nets.length : Int)), (31, iA (i8 : Int))]
          let q26_g : Hp := [(2, .map (keys PG 28) (encM kv_Pin dv_bool r16.2)), (3, .cells 64 [.c (sC x10.Name), .c (.sl 2 (List.map e_Pin x10.Pins)), .c (.sl 1 (List.map e_str x10.Ports))])]
          let q26_f' : Fr := [(2, .t (.v (.c (.ptr [.sl 2 (List.map e_PartType a0)])))), (3, .t (.v (.c (.ptr (e_Netlist a1))))), (7, .t (.v (.rt 2))), (29, lA 3 (List.map e_Net a1.Nets)), (30, iA (a1.Nets.length : Int)), (31, iA (i8 : Int)), (69, bA v20)]
          let q26_g' : Hp := [(2, .map (keys PG 28) (encM kv_Pin dv_bool r16.2))]
          have R22 : Runs PG 71 0 (cL (cR (cR (cR (cR (cR (cL (cL (cR (cR nl_CheckList_c0)))))))))) q26_f q26_g (.nor q26_f' q26_g') := by
            rcases cnd_e h21 with ⟨h23, h21⟩ | ⟨h23, h21⟩
            · obtain ⟨x24, h25, h21⟩ := bnd_e h21
              have h21 := Option.some.inj h21
              subst h21
              exact Runs.path XTok PGmix [.d [([], []), ([], []), ([], []), ([], [.b true]), ([3], [.b true]), ([], [.b true]), ([], [.b true]), ([], [.b true]), ([], [.b true]), ([], [.b true, .el (e_Net x24)]), ([], [.b true]), ([], [.b true]), ([], [.b true]), ([], [.b true])]] [] (an h23 (an h23 (an h23 (an h23 (an h23 (an h23 (an h23 (an (idx_ok e_Net h25) (an h23 (an h23 (an h23 h23))))))))))) (by kernel_rfl)
            · have h21 := Option.some.inj h21
              subst h21
              exact Runs.path XTok PGmix [.d [([], []), ([], []), ([], []), ([], [.b false]), ([], [.b false]), ([], [.b false]), ([], [.b false]), ([], [.b false]), ([], [.b false]), ([], [.b false]), ([], [.b false]), ([], [.b false]), ([], [.b false]), ([], [.b false])]] [] (an h23 (an h23 (an h23 (an h23 (an h23 (an h23 (an h23 (an h23 (an h23 (an h23 h23)))))))))) (by kernel_rfl)
          rcases cnd_e h with ⟨h27, h⟩ | ⟨h27, h⟩
          · have h := Option.some.inj h
            subst h
            exact Runs.path XTok PGmix [.r [], .b true, .r [.el (e_Net x10), .id 3], .r [.val (bA r12)], .b false, .r [.eq 42 (iA (x10.Pins.length : Int))], .b false, .r [.call [(0, 2)] [lT 2 (List.map e_Pin x10.Pins), .v (.c (.fn 51 [.ptr [.sl 2 (List.map e_PartType a0)], .ptr (e_Netlist a1)])), .v (.rt 0)] [(0, .map (keys PG 28) (encM kv_Pin dv_bool y9))] (iA r16.1) [(0, .map (keys PG 28) (encM kv_Pin dv_bool r16.2))]], .r [], .b false, .r [.eq 54 (iA (x10.Ports.length : Int))], .b false, .s q26_f q26_g [] (.nor q26_f' q26_g'), .b true, .r []] [] (an (lt_true hi) (an (idx_ok e_Net h11) (an (nl_IsPath_ok x10.Name r12 h13) (an h14 (an (leni_eq e_Pin x10.Pins) (an h15 (an (an (nl_checkNetPins_ok x10.Pins 51 [.ptr [.sl 2 (List.map e_PartType a0)], .ptr (e_Netlist a1)] (fun z0 => nl_CheckList_1 z0 a0 a1) (fun z0 r h => nl_CheckList_1_ok z0 a0 a1 r h) y9 r16 h17) (an (Eq.refl ([lT 2 (List.map e_Pin x10.Pins), .v (.c (.fn 51 [.ptr [.sl 2 (List.map e_PartType a0)], .ptr (e_Netlist a1)])), .v (.rt 2)] : List TV)) (Eq.refl (renH (asg [(0, 2)]) [(0, .map (keys PG 28) (encM kv_Pin dv_bool y9))])))) (an h18 (an (leni_eq e_str x10.Ports) (an h19 (an R22 h27))))))))))) (by kernel_rfl)
          · have h := Option.some.inj h
            subst h
            exact Runs.path XTok PGmix [.r [], .b true, .r [.el (e_Net x10), .id 3], .r [.val (bA r12)], .b false, .r [.eq 42 (iA (x10.Pins.length : Int))], .b false, .r [.call [(0, 2)] [lT 2 (List.map e_Pin x10.Pins), .v (.c (.fn 51 [.ptr [.sl 2 (List.map e_PartType a0)], .ptr (e_Netlist a1)])), .v (.rt 0)] [(0, .map (keys PG 28) (encM kv_Pin dv_bool y9))] (iA r16.1) [(0, .map (keys PG 28) (encM kv_Pin dv_bool r16.2))]], .r [], .b false, .r [.eq 54 (iA (x10.Ports.length : Int))], .b false, .s q26_f q26_g [] (.nor q26_f' q26_g'), .b false, .r [.eq 70 (iA ((i8 + 1 : Nat) : Int))]] [] (an (lt_true hi) (an (idx_ok e_Net h11) (an (nl_IsPath_ok x10.Name r12 h13) (an h14 (an (leni_eq e_Pin x10.Pins) (an h15 (an (an (nl_checkNetPins_ok x10.Pins 51 [.ptr [.sl 2 (List.map e_PartType a0)], .ptr (e_Netlist a1)] (fun z0 => nl_CheckList_1 z0 a0 a1) (fun z0 r h => nl_CheckList_1_ok z0 a0 a1 r h) y9 r16 h17) (an (Eq.refl ([lT 2 (List.map e_Pin x10.Pins), .v (.c (.fn 51 [.ptr [.sl 2 (List.map e_PartType a0)], .ptr (e_Netlist a1)])), .v (.rt 2)] : List TV)) (Eq.refl (renH (asg [(0, 2)]) [(0, .map (keys PG 28) (encM kv_Pin dv_bool y9))])))) (an h18 (an (leni_eq e_str x10.Ports) (an h19 (an R22 (an h27 (wrap_eq hi hM))))))))))))) (by kernel_rfl)
theorem nl_CheckList_b0_e (a0 : List PartType) (a1 : Netlist) (y9 : List (Pin × Bool)) : Runs PG 71 0 nl_CheckList_c0 (nl_CheckList_F0 a0 a1 (a1.Nets.length) y9) (nl_CheckList_H0 a0 a1 (a1.Nets.length) y9) (nl_CheckList_B0 a0 a1 y9) := by
  exact Runs.path XTok PGmix [.r [], .b false] [] (lt_false (a1.Nets.length)) (by kernel_rfl)
theorem nl_CheckList_l0 (a0 : List PartType) (a1 : Netlist) (y9 : List (Pin × Bool)) (r : Fin' (List (Pin × Bool)) Int) (h : forN (fun i8 s => nl_CheckList_b0 a0 a1 i8 s) (a1.Nets.length) 0 y9 = some r) : Runs PG 71 0 (cL (cR (cL (cR (cR (cR (cR (cR nl_CheckList_c)))))))) (nl_CheckList_F0 a0 a1 0 y9) (nl_CheckList_H0 a0 a1 0 y9) (finOc (nl_CheckList_B0 a0 a1) nl_CheckList_R r) :=
  Runs.loop' (by kernel_rfl) (forN_rounds (σ := (List (Pin × Bool))) (ρ := Int) (body := fun i8 s => nl_CheckList_b0 a0 a1 i8 s) (F := fun i8 s => nl_CheckList_F0 a0 a1 i8 s) (H := fun i8 s => nl_CheckList_H0 a0 a1 i8 s) (B := nl_CheckList_B0 a0 a1) (R := nl_CheckList_R) (M := a1.Nets.length) (fun _ => rfl) (fun _ => rfl) (fun s => nl_CheckList_b0_e a0 a1 s) (fun i s o hi h => nl_CheckList_b0_r a0 a1 i s o hi h) _ 0 _ r (Nat.zero_add _) h)
noncomputable def nl_CheckList (a0 : List PartType) (a1 : Netlist) : Option Int :=
 bnd (nl_CheckTypes a0) fun r1 =>
 cnd (r1 != 0) (some r1) (bnd (nl_checkParts a0 a1.Parts (fun z0 => nl_IsPath z0)) fun r4 =>
 cnd (r4 != 0) (some r4) (cnd (decide ((a1.Nets.length : Int) > 1000)) (some 2) (aft1 (forN (fun i8 s => nl_CheckList_b0 a0 a1 i8 s) (a1.Nets.length) 0 []) (fun u28 =>
 some 0)
 (fun r30 =>
 some r30))))
theorem nl_CheckList_ok (a0 : List PartType) (a1 : Netlist) (r : Int) (h : nl_CheckList a0 a1 = some r) : Spec PG 15 [lT 2 (List.map e_PartType a0), gT (e_Netlist a1)] [] (iA r) [] := by
  unfold nl_CheckList at h
  obtain ⟨r1, h2, h⟩ := bnd_e h
  rcases cnd_e h with ⟨h3, h⟩ | ⟨h3, h⟩
  · have h := Option.some.inj h
    subst h
    exact Spec.path XTok PGmix nl_CheckList_fn 0 [.r [.id 0, .id 1], .r [.val (iA r1)], .r [], .b true, .r []] (an (nl_CheckTypes_ok a0 r1 h2) h3) (by kernel_rfl)
  · obtain ⟨r4, h5, h⟩ := bnd_e h
    rcases cnd_e h with ⟨h6, h⟩ | ⟨h6, h⟩
    · have h := Option.some.inj h
      subst h
      exact Spec.path XTok PGmix nl_CheckList_fn 0 [.r [.id 0, .id 1], .r [.val (iA r1)], .r [], .b false, .r [.val (iA r4)], .r [], .b true, .r []] (an (nl_CheckTypes_ok a0 r1 h2) (an h3 (an (nl_checkParts_ok a0 a1.Parts 49 [] (fun z0 => nl_IsPath z0) (fun z0 r h => nl_IsPath_ok z0 r h) r4 h5) h6))) (by kernel_rfl)
    · rcases cnd_e h with ⟨h7, h⟩ | ⟨h7, h⟩
      · have h := Option.some.inj h
        subst h
        exact Spec.path XTok PGmix nl_CheckList_fn 0 [.r [.id 0, .id 1], .r [.val (iA r1)], .r [], .b false, .r [.val (iA r4)], .r [], .b false, .r [.eq 25 (iA (a1.Nets.length : Int))], .b true, .r []] (an (nl_CheckTypes_ok a0 r1 h2) (an h3 (an (nl_checkParts_ok a0 a1.Parts 49 [] (fun z0 => nl_IsPath z0) (fun z0 r h => nl_IsPath_ok z0 r h) r4 h5) (an h6 (an (leni_eq e_Net a1.Nets) h7))))) (by kernel_rfl)
      · rcases aft1_e h with ⟨u28, h29, h⟩ | ⟨r30, h29, h⟩
        · have h := Option.some.inj h
          subst h
          exact Spec.path XTok PGmix nl_CheckList_fn 0 [.r [.id 0, .id 1], .r [.val (iA r1)], .r [], .b false, .r [.val (iA r4)], .r [], .b false, .r [.eq 25 (iA (a1.Nets.length : Int))], .b false, .r [.id 2], .r [.eq 30 (iA (a1.Nets.length : Int))], .fb 0, .fb 1, .s (nl_CheckList_F0 a0 a1 0 []) (nl_CheckList_H0 a0 a1 0 []) [] (nl_CheckList_B0 a0 a1 u28), .r []] (an (nl_CheckTypes_ok a0 r1 h2) (an h3 (an (nl_checkParts_ok a0 a1.Parts 49 [] (fun z0 => nl_IsPath z0) (fun z0 r h => nl_IsPath_ok z0 r h) r4 h5) (an h6 (an (leni_eq e_Net a1.Nets) (an h7 (an (leni_eq e_Net a1.Nets) (nl_CheckList_l0 a0 a1 [] (.fin u28) h29)))))))) (by kernel_rfl)
        · have h := Option.some.inj h
          subst h
          exact Spec.path XTok PGmix nl_CheckList_fn 0 [.r [.id 0, .id 1], .r [.val (iA r1)], .r [], .b false, .r [.val (iA r4)], .r [], .b false, .r [.eq 25 (iA (a1.Nets.length : Int))], .b false, .r [.id 2], .r [.eq 30 (iA (a1.Nets.length : Int))], .fb 0, .fb 1, .s (nl_CheckList_F0 a0 a1 0 []) (nl_CheckList_H0 a0 a1 0 []) [] (nl_CheckList_R r30)] (an (nl_CheckTypes_ok a0 r1 h2) (an h3 (an (nl_checkParts_ok a0 a1.Parts 49 [] (fun z0 => nl_IsPath z0) (fun z0 r h => nl_IsPath_ok z0 r h) r4 h5) (an h6 (an (leni_eq e_Net a1.Nets) (an h7 (an (leni_eq e_Net a1.Nets) (nl_CheckList_l0 a0 a1 [] (.ret r30) h29)))))))) (by kernel_rfl)

noncomputable def nl_Nets_c : Code := (Go.Proofs.Tryd.f44.body).getD .skip
theorem nl_Nets_fn : FnOk PG 44 nl_Nets_c 30 [.tmp 2] := ⟨⟨Go.Proofs.Tryd.f44, by kernel_rfl, by kernel_rfl, by kernel_rfl, by kernel_rfl, by kernel_rfl⟩⟩
noncomputable def nl_Nets_c0 : Code := cL (cL (cR (cL (cR (cR nl_Nets_c)))))
noncomputable def nl_Nets_R (r : (List (Pin × Int))) : Oc := .ret [(2, .t (.v (.rt 0)))] [(0, .map (keys PG 28) (encM kv_Pin dv_i64 r))]
noncomputable def nl_Nets_c1 : Code := cL (cL (cR (cR (cL (cL (cR (cR nl_Nets_c0)))))))
noncomputable def nl_Nets_F1 (a0 : Netlist) (i1 : Nat) (x3 : Net) (i5 : Nat) (y6 : List (Pin × Int)) : Fr := [(3, .t (.v (.rt 1))), (4, iA (i1 : Int)), (10, lA 3 (List.map e_Net a0.Nets)), (11, iA (a0.Nets.length : Int)), (12, iA (i1 : Int)), (18, lA 2 (List.map e_Pin x3.Pins)), (19, iA (x3.Pins.length : Int)), (20, iA (i5 : Int))]
noncomputable def nl_Nets_H1 (a0 : Netlist) (i1 : Nat) (x3 : Net) (i5 : Nat) (y6 : List (Pin × Int)) : Hp := [(1, .map (keys PG 28) (encM kv_Pin dv_i64 y6))]
noncomputable def nl_Nets_B1 (a0 : Netlist) (i1 : Nat) (x3 : Net) (s : (List (Pin × Int))) : Oc := .ex 2 [(3, .t (.v (.rt 1))), (10, lA 3 (List.map e_Net a0.Nets)), (11, iA (a0.Nets.length : Int)), (12, iA (i1 : Int))] [(1, .map (keys PG 28) (encM kv_Pin dv_i64 s))]
noncomputable def nl_Nets_b1 (a0 : Netlist) (i1 : Nat) (x3 : Net) (i5 : Nat) (y6 : List (Pin × Int)) : Option (Stp (List (Pin × Int)) (List (Pin × Int))) :=
 bnd (atI x3.Pins (i5 : Int)) fun x7 =>
 some (.go (tput y6 x7 (i1 : Int)))
theorem nl_Nets_b1_r (a0 : Netlist) (i1 : Nat) (x3 : Net) (i5 : Nat) (y6 : List (Pin × Int)) (o : Stp (List (Pin × Int)) (List (Pin × Int))) (hi : i5 < x3.Pins.length) (h : nl_Nets_b1 a0 i1 x3 i5 y6 = some o) :
    Runs PG 30 0 nl_Nets_c1 (nl_Nets_F1 a0 i1 x3 i5 y6) (nl_Nets_H1 a0 i1 x3 i5 y6) (stpOc (fun s' => .nor (nl_Nets_F1 a0 i1 x3 (i5 + 1) s') (nl_Nets_H1 a0 i1 x3 (i5 + 1) s')) (nl_Nets_B1 a0 i1 x3) nl_Nets_R o) := by
  unfold nl_Nets_b1 at h
  refine Runs.len (s := 18) (sz := 2) (xs := List.map e_Pin x3.Pins) (by kernel_rfl) fun hl => ?_
  have hM : x3.Pins.length ≤ lim := len_of hl
  obtain ⟨x7, h8, h⟩ := bnd_e h
  have h := Option.some.inj h
  subst h
  exact Runs.path XTok PGmix [.r [], .b true, .r [.el (e_Pin x7), .id 2], .r [.es (encM kv_Pin dv_i64 (tput y6 x7 (i1 : Int)))], .r [.eq 27 (iA ((i5 + 1 : Nat) : Int))]] [] (an (lt_true hi) (an (idx_ok e_Pin h8) (an (an kd_Pin (an (Eq.refl (keys PG 28)) (an (kf_Pin x7) (put_ok dv_i64 ki_Pin y6 x7 (i1 : Int))))) (wrap_eq hi hM)))) (by kernel_rfl)
theorem nl_Nets_b1_e (a0 : Netlist) (i1 : Nat) (x3 : Net) (y6 : List (Pin × Int)) : Runs PG 30 0 nl_Nets_c1 (nl_Nets_F1 a0 i1 x3 (x3.Pins.length) y6) (nl_Nets_H1 a0 i1 x3 (x3.Pins.length) y6) (nl_Nets_B1 a0 i1 x3 y6) := by
  exact Runs.path XTok PGmix [.r [], .b false] [] (lt_false (x3.Pins.length)) (by kernel_rfl)
theorem nl_Nets_l1 (a0 : Netlist) (i1 : Nat) (x3 : Net) (y6 : List (Pin × Int)) (r : Fin' (List (Pin × Int)) (List (Pin × Int))) (h : forN (fun i5 s => nl_Nets_b1 a0 i1 x3 i5 s) (x3.Pins.length) 0 y6 = some r) : Runs PG 30 0 (cL (cR (cR (cL (cL (cR (cR nl_Nets_c0))))))) (nl_Nets_F1 a0 i1 x3 0 y6) (nl_Nets_H1 a0 i1 x3 0 y6) (finOc (nl_Nets_B1 a0 i1 x3) nl_Nets_R r) :=
  Runs.loop' (by kernel_rfl) (forN_rounds (σ := (List (Pin × Int))) (ρ := (List (Pin × Int))) (body := fun i5 s => nl_Nets_b1 a0 i1 x3 i5 s) (F := fun i5 s => nl_Nets_F1 a0 i1 x3 i5 s) (H := fun i5 s => nl_Nets_H1 a0 i1 x3 i5 s) (B := nl_Nets_B1 a0 i1 x3) (R := nl_Nets_R) (M := x3.Pins.length) (fun _ => rfl) (fun _ => rfl) (fun s => nl_Nets_b1_e a0 i1 x3 s) (fun i s o hi h => nl_Nets_b1_r a0 i1 x3 i s o hi h) _ 0 _ r (Nat.zero_add _) h)
noncomputable def nl_Nets_F0 (a0 : Netlist) (i1 : Nat) (y2 : List (Pin × Int)) : Fr := [(3, .t (.v (.rt 1))), (10, lA 3 (List.map e_Net a0.Nets)), (11, iA (a0.Nets.length : Int)), (12, iA (i1 : Int))]
noncomputable def nl_Nets_H0 (a0 : Netlist) (i1 : Nat) (y2 : List (Pin × Int)) : Hp := [(1, .map (keys PG 28) (encM kv_Pin dv_i64 y2))]
noncomputable def nl_Nets_B0 (a0 : Netlist) (s : (List (Pin × Int))) : Oc := .ex 0 [(3, .t (.v (.rt 1)))] [(1, .map (keys PG 28) (encM kv_Pin dv_i64 s))]
noncomputable def nl_Nets_b0 (a0 : Netlist) (i1 : Nat) (y2 : List (Pin × Int)) : Option (Stp (List (Pin × Int)) (List (Pin × Int))) :=
 bnd (atI a0.Nets (i1 : Int)) fun x3 =>
 aft1 (forN (fun i5 s => nl_Nets_b1 a0 i1 x3 i5 s) (x3.Pins.length) 0 y2) (fun u9 =>
 some (.go u9))
 (fun r11 =>
 some (.ret r11))
theorem nl_Nets_b0_r (a0 : Netlist) (i1 : Nat) (y2 : List (Pin × Int)) (o : Stp (List (Pin × Int)) (List (Pin × Int))) (hi : i1 < a0.Nets.length) (h : nl_Nets_b0 a0 i1 y2 = some o) :
    Runs PG 30 0 nl_Nets_c0 (nl_Nets_F0 a0 i1 y2) (nl_Nets_H0 a0 i1 y2) (stpOc (fun s' => .nor (nl_Nets_F0 a0 (i1 + 1) s') (nl_Nets_H0 a0 (i1 + 1) s')) (nl_Nets_B0 a0) nl_Nets_R o) := by
  unfold nl_Nets_b0 at h
  refine Runs.len (s := 10) (sz := 3) (xs := List.map e_Net a0.Nets) (by kernel_rfl) fun hl => ?_
  have hM : a0.Nets.length ≤ lim := len_of hl
  obtain ⟨x3, h4, h⟩ := bnd_e h
  rcases aft1_e h with ⟨u9, h10, h⟩ | ⟨r11, h10, h⟩
  · have h := Option.some.inj h
    subst h
    exact Runs.path XTok PGmix [.r [], .b true, .r [.el (e_Net x3), .id 2], .r [.eq 19 (iA (x3.Pins.length : Int))], .s (nl_Nets_F1 a0 i1 x3 0 y2) (nl_Nets_H1 a0 i1 x3 0 y2) [] (nl_Nets_B1 a0 i1 x3 u9), .r [.eq 28 (iA ((i1 + 1 : Nat) : Int))]] [] (an (lt_true hi) (an (idx_ok e_Net h4) (an (leni_eq e_Pin x3.Pins) (an (nl_Nets_l1 a0 i1 x3 y2 (.fin u9) h10) (wrap_eq hi hM))))) (by kernel_rfl)
  · have h := Option.some.inj h
    subst h
    exact Runs.path XTok PGmix [.r [], .b true, .r [.el (e_Net x3), .id 2], .r [.eq 19 (iA (x3.Pins.length : Int))], .s (nl_Nets_F1 a0 i1 x3 0 y2) (nl_Nets_H1 a0 i1 x3 0 y2) [] (nl_Nets_R r11)] [] (an (lt_true hi) (an (idx_ok e_Net h4) (an (leni_eq e_Pin x3.Pins) (nl_Nets_l1 a0 i1 x3 y2 (.ret r11) h10)))) (by kernel_rfl)
theorem nl_Nets_b0_e (a0 : Netlist) (y2 : List (Pin × Int)) : Runs PG 30 0 nl_Nets_c0 (nl_Nets_F0 a0 (a0.Nets.length) y2) (nl_Nets_H0 a0 (a0.Nets.length) y2) (nl_Nets_B0 a0 y2) := by
  exact Runs.path XTok PGmix [.r [], .b false] [] (lt_false (a0.Nets.length)) (by kernel_rfl)
theorem nl_Nets_l0 (a0 : Netlist) (y2 : List (Pin × Int)) (r : Fin' (List (Pin × Int)) (List (Pin × Int))) (h : forN (fun i1 s => nl_Nets_b0 a0 i1 s) (a0.Nets.length) 0 y2 = some r) : Runs PG 30 0 (cL (cR (cL (cR (cR nl_Nets_c))))) (nl_Nets_F0 a0 0 y2) (nl_Nets_H0 a0 0 y2) (finOc (nl_Nets_B0 a0) nl_Nets_R r) :=
  Runs.loop' (by kernel_rfl) (forN_rounds (σ := (List (Pin × Int))) (ρ := (List (Pin × Int))) (body := fun i1 s => nl_Nets_b0 a0 i1 s) (F := fun i1 s => nl_Nets_F0 a0 i1 s) (H := fun i1 s => nl_Nets_H0 a0 i1 s) (B := nl_Nets_B0 a0) (R := nl_Nets_R) (M := a0.Nets.length) (fun _ => rfl) (fun _ => rfl) (fun s => nl_Nets_b0_e a0 s) (fun i s o hi h => nl_Nets_b0_r a0 i s o hi h) _ 0 _ r (Nat.zero_add _) h)
noncomputable def nl_Nets (a0 : Netlist) : Option ((List (Pin × Int))) :=
 aft1 (forN (fun i1 s => nl_Nets_b0 a0 i1 s) (a0.Nets.length) 0 []) (fun u12 =>
 some u12)
 (fun r14 =>
 some r14)
theorem nl_Nets_ok (a0 : Netlist) (r : (List (Pin × Int))) (h : nl_Nets a0 = some r) : Spec PG 44 [gT (e_Netlist a0)] [] (.t (.v (.rt 0))) [(0, .map (keys PG 28) (encM kv_Pin dv_i64 r))] := by
  unfold nl_Nets at h
  rcases aft1_e h with ⟨u12, h13, h⟩ | ⟨r14, h13, h⟩
  · have h := Option.some.inj h
    subst h
    exact Spec.path XTok PGmix nl_Nets_fn 0 [.r [.id 0], .r [.id 1], .r [.eq 11 (iA (a0.Nets.length : Int))], .s (nl_Nets_F0 a0 0 []) (nl_Nets_H0 a0 0 []) [] (nl_Nets_B0 a0 u12), .r [], .w [(2, .t (.v (.rt 0)))] [(0, .map (keys PG 28) (encM kv_Pin dv_i64 u12))] [(0, 1)]] (an (leni_eq e_Net a0.Nets) (nl_Nets_l0 a0 [] (.fin u12) h13)) (by kernel_rfl)
  · have h := Option.some.inj h
    subst h
    exact Spec.path XTok PGmix nl_Nets_fn 0 [.r [.id 0], .r [.id 1], .r [.eq 11 (iA (a0.Nets.length : Int))], .s (nl_Nets_F0 a0 0 []) (nl_Nets_H0 a0 0 []) [] (nl_Nets_R r14)] (an (leni_eq e_Net a0.Nets) (nl_Nets_l0 a0 [] (.ret r14) h13)) (by kernel_rfl)

noncomputable def nl_pinsOf_c : Code := (Go.Proofs.Tryd.f74.body).getD .skip
theorem nl_pinsOf_fn : FnOk PG 74 nl_pinsOf_c 31 [.tmp 4] := ⟨⟨Go.Proofs.Tryd.f74, by kernel_rfl, by kernel_rfl, by kernel_rfl, by kernel_rfl, by kernel_rfl⟩⟩
noncomputable def nl_pinsOf_c0 : Code := cL (cL (cR (cL (cR (cR nl_pinsOf_c)))))
noncomputable def nl_pinsOf_R (r : List Pin) : Oc := .ret [(4, lA 2 (List.map e_Pin r))] []
noncomputable def nl_pinsOf_F0 (a1 : Part) (x3 : PartType) (i5 : Nat) (y6 : List Pin) : Fr := [(3, .t (.v (.ptr 0 0))), (5, .t (.v (.rt 1))), (15, lA 3 (List.map e_PinType x3.Pins)), (16, iA (x3.Pins.length : Int)), (17, iA (i5 : Int))]
noncomputable def nl_pinsOf_H0 (a1 : Part) (x3 : PartType) (i5 : Nat) (y6 : List Pin) : Hp := [(0, .cells 73 [.c (sC a1.Name), .c (sC a1.Type_)]), (1, .row 28 2 (List.map e_Pin y6))]
noncomputable def nl_pinsOf_B0 (a1 : Part) (x3 : PartType) (s : List Pin) : Oc := .ex 0 [(5, .t (.v (.rt 1)))] [(1, .row 28 2 (List.map e_Pin s))]
noncomputable def nl_pinsOf_b0 (a1 : Part) (x3 : PartType) (i5 : Nat) (y6 : List Pin) : Option (Stp (List Pin) (List Pin)) :=
 bnd (atI x3.Pins (i5 : Int)) fun x7 =>
 grd (y6.length + [(⟨a1.Name, x7.Name⟩ : Pin)].length ≤ lim) <|
 some (.go (y6 ++ [(⟨a1.Name, x7.Name⟩ : Pin)]))
theorem nl_pinsOf_b0_r (a1 : Part) (x3 : PartType) (i5 : Nat) (y6 : List Pin) (o : Stp (List Pin) (List Pin)) (hi : i5 < x3.Pins.length) (h : nl_pinsOf_b0 a1 x3 i5 y6 = some o) :
    Runs PG 31 0 nl_pinsOf_c0 (nl_pinsOf_F0 a1 x3 i5 y6) (nl_pinsOf_H0 a1 x3 i5 y6) (stpOc (fun s' => .nor (nl_pinsOf_F0 a1 x3 (i5 + 1) s') (nl_pinsOf_H0 a1 x3 (i5 + 1) s')) (nl_pinsOf_B0 a1 x3) nl_pinsOf_R o) := by
  unfold nl_pinsOf_b0 at h
  refine Runs.len (s := 15) (sz := 3) (xs := List.map e_PinType x3.Pins) (by kernel_rfl) fun hl => ?_
  have hM : x3.Pins.length ≤ lim := len_of hl
  obtain ⟨x7, h8, h⟩ := bnd_e h
  obtain ⟨h9, h⟩ := grd_e h
  have h := Option.some.inj h
  subst h
  exact Runs.path XTok PGmix [.r [], .b true, .r [.el (e_PinType x7), .id 2], .r [.id 3, .row (List.map e_Pin [(⟨a1.Name, x7.Name⟩ : Pin)]), .id 4, .row (List.map e_Pin (y6 ++ [(⟨a1.Name, x7.Name⟩ : Pin)]))], .r [.eq 29 (iA ((i5 + 1 : Nat) : Int))]] [(1, 4)] (an (lt_true hi) (an (idx_ok e_PinType h8) (an (Eq.refl (List.flatten (List.map e_Pin [(⟨a1.Name, x7.Name⟩ : Pin)]))) (an (app_ok e_Pin h9) (wrap_eq hi hM))))) (by kernel_rfl)
theorem nl_pinsOf_b0_e (a1 : Part) (x3 : PartType) (y6 : List Pin) : Runs PG 31 0 nl_pinsOf_c0 (nl_pinsOf_F0 a1 x3 (x3.Pins.length) y6) (nl_pinsOf_H0 a1 x3 (x3.Pins.length) y6) (nl_pinsOf_B0 a1 x3 y6) := by
  exact Runs.path XTok PGmix [.r [], .b false] [] (lt_false (x3.Pins.length)) (by kernel_rfl)
theorem nl_pinsOf_l0 (a1 : Part) (x3 : PartType) (y6 : List Pin) (r : Fin' (List Pin) (List Pin)) (h : forN (fun i5 s => nl_pinsOf_b0 a1 x3 i5 s) (x3.Pins.length) 0 y6 = some r) : Runs PG 31 0 (cL (cR (cL (cR (cR nl_pinsOf_c))))) (nl_pinsOf_F0 a1 x3 0 y6) (nl_pinsOf_H0 a1 x3 0 y6) (finOc (nl_pinsOf_B0 a1 x3) nl_pinsOf_R r) :=
  Runs.loop' (by kernel_rfl) (forN_rounds (σ := (List Pin)) (ρ := (List Pin)) (body := fun i5 s => nl_pinsOf_b0 a1 x3 i5 s) (F := fun i5 s => nl_pinsOf_F0 a1 x3 i5 s) (H := fun i5 s => nl_pinsOf_H0 a1 x3 i5 s) (B := nl_pinsOf_B0 a1 x3) (R := nl_pinsOf_R) (M := x3.Pins.length) (fun _ => rfl) (fun _ => rfl) (fun s => nl_pinsOf_b0_e a1 x3 s) (fun i s o hi h => nl_pinsOf_b0_r a1 x3 i s o hi h) _ 0 _ r (Nat.zero_add _) h)
noncomputable def nl_pinsOf (a0 : List PartType) (a1 : Part) : Option (List Pin) :=
 bnd (nl_TypeAt a0 a1.Type_) fun r1 =>
 bnd (atI a0 r1) fun x3 =>
 aft1 (forN (fun i5 s => nl_pinsOf_b0 a1 x3 i5 s) (x3.Pins.length) 0 []) (fun u10 =>
 some u10)
 (fun r12 =>
 some r12)
theorem nl_pinsOf_ok (a0 : List PartType) (a1 : Part) (r : List Pin) (h : nl_pinsOf a0 a1 = some r) : Spec PG 74 [lT 2 (List.map e_PartType a0), gT (e_Part a1)] [] (lA 2 (List.map e_Pin r)) [] := by
  unfold nl_pinsOf at h
  obtain ⟨r1, h2, h⟩ := bnd_e h
  obtain ⟨x3, h4, h⟩ := bnd_e h
  rcases aft1_e h with ⟨u10, h11, h⟩ | ⟨r12, h11, h⟩
  · have h := Option.some.inj h
    subst h
    exact Spec.path XTok PGmix nl_pinsOf_fn 0 [.r [.id 0, .nl 2], .r [.mk 1 28 2], .r [.val (iA r1), .el (e_PartType x3), .eq 16 (iA (x3.Pins.length : Int))], .s (nl_pinsOf_F0 a1 x3 0 []) (nl_pinsOf_H0 a1 x3 0 []) [] (nl_pinsOf_B0 a1 x3 u10), .r [], .f 1] (an (nl_TypeAt_ok a0 a1.Type_ r1 h2) (an (idx_ok e_PartType h4) (an (leni_eq e_PinType x3.Pins) (nl_pinsOf_l0 a1 x3 [] (.fin u10) h11)))) (by kernel_rfl)
  · have h := Option.some.inj h
    subst h
    exact Spec.path XTok PGmix nl_pinsOf_fn 0 [.r [.id 0, .nl 2], .r [.mk 1 28 2], .r [.val (iA r1), .el (e_PartType x3), .eq 16 (iA (x3.Pins.length : Int))], .s (nl_pinsOf_F0 a1 x3 0 []) (nl_pinsOf_H0 a1 x3 0 []) [] (nl_pinsOf_R r12)] (an (nl_TypeAt_ok a0 a1.Type_ r1 h2) (an (idx_ok e_PartType h4) (an (leni_eq e_PinType x3.Pins) (nl_pinsOf_l0 a1 x3 [] (.ret r12) h11)))) (by kernel_rfl)

noncomputable def nl_LooseOf_c : Code := (Go.Proofs.Tryd.f54.body).getD .skip
theorem nl_LooseOf_fn : FnOk PG 54 nl_LooseOf_c 45 [.tmp 4] := ⟨⟨Go.Proofs.Tryd.f54, by kernel_rfl, by kernel_rfl, by kernel_rfl, by kernel_rfl, by kernel_rfl⟩⟩
noncomputable def nl_LooseOf_c0 : Code := cL (cL (cR (cL (cR (cR (cR nl_LooseOf_c))))))
noncomputable def nl_LooseOf_R (r : List Pin) : Oc := .ret [(4, lA 2 (List.map e_Pin r))] []
noncomputable def nl_LooseOf_c1 : Code := cL (cL (cR (cR (cL (cL (cR (cR nl_LooseOf_c0)))))))
noncomputable def nl_LooseOf_F1 (a0 : List PartType) (a1 : Netlist) (r1 : (List (Pin × Int))) (i3 : Nat) (r7 : List Pin) (i9 : Nat) (y10 : List Pin) : Fr := [(0, lA 2 (List.map e_PartType a0)), (5, .t (.v (.rt 1))), (6, .t (.v (.rt 2))), (16, lA 2 (List.map e_Part a1.Parts)), (17, iA (a1.Parts.length : Int)), (18, iA (i3 : Int)), (24, lA 2 (List.map e_Pin r7)), (25, iA (r7.length : Int)), (26, iA (i9 : Int))]
noncomputable def nl_LooseOf_H1 (a0 : List PartType) (a1 : Netlist) (r1 : (List (Pin × Int))) (i3 : Nat) (r7 : List Pin) (i9 : Nat) (y10 : List Pin) : Hp := [(1, .map (keys PG 28) (encM kv_Pin dv_i64 r1)), (2, .row 28 2 (List.map e_Pin y10))]
noncomputable def nl_LooseOf_B1 (a0 : List PartType) (a1 : Netlist) (r1 : (List (Pin × Int))) (i3 : Nat) (r7 : List Pin) (s : List Pin) : Oc := .ex 2 [(0, lA 2 (List.map e_PartType a0)), (5, .t (.v (.rt 1))), (6, .t (.v (.rt 2))), (16, lA 2 (List.map e_Part a1.Parts)), (17, iA (a1.Parts.length : Int)), (18, iA (i3 : Int))] [(1, .map (keys PG 28) (encM kv_Pin dv_i64 r1)), (2, .row 28 2 (List.map e_Pin s))]
noncomputable def nl_LooseOf_b1 (a0 : List PartType) (a1 : Netlist) (r1 : (List (Pin × Int))) (i3 : Nat) (r7 : List Pin) (i9 : Nat) (y10 : List Pin) : Option (Stp (List Pin) (List Pin)) :=
 bnd (atI r7 (i9 : Int)) fun x11 =>
 bnd1 (opt (tlook r1 x11) (fun v16 =>
 some true) (some false)) fun v13 =>
 bnd1 (cnd (!v13) (grd (y10.length + [x11].length ≤ lim) <|
 some (y10 ++ [x11])) (some y10)) fun v19 =>
 some (.go v19)
theorem nl_LooseOf_b1_r (a0 : List PartType) (a1 : Netlist) (r1 : (List (Pin × Int))) (i3 : Nat) (r7 : List Pin) (i9 : Nat) (y10 : List Pin) (o : Stp (List Pin) (List Pin)) (hi : i9 < r7.length) (h : nl_LooseOf_b1 a0 a1 r1 i3 r7 i9 y10 = some o) :
    Runs PG 45 0 nl_LooseOf_c1 (nl_LooseOf_F1 a0 a1 r1 i3 r7 i9 y10) (nl_LooseOf_H1 a0 a1 r1 i3 r7 i9 y10) (stpOc (fun s' => .nor (nl_LooseOf_F1 a0 a1 r1 i3 r7 (i9 + 1) s') (nl_LooseOf_H1 a0 a1 r1 i3 r7 (i9 + 1) s')) (nl_LooseOf_B1 a0 a1 r1 i3 r7) nl_LooseOf_R o) := by
  unfold nl_LooseOf_b1 at h
  refine Runs.len (s := 24) (sz := 2) (xs := List.map e_Pin r7) (by kernel_rfl) fun hl => ?_
  have hM : r7.length ≤ lim := len_of hl
  obtain ⟨x11, h12, h⟩ := bnd_e h
  obtain ⟨v13, h14, h⟩ := bnd1_e h
  let q18_f : Fr := [(0, lA 2 (List.map e_PartType a0)), (5, .t (.v (.rt 1))), (6, .t (.v (.rt 2))), (10, .t (.v (.ptr 3 0))), (16, lA 2 (List.map e_Part a1.Parts)), (17, iA (a1.Parts.length : Int)), (18, iA (i3 : Int)), (24, lA 2 (List.map e_Pin r7)), (25, iA (r7.length : Int)), (26, iA (i9 : Int))]
  let q18_g : Hp := [(1, .map (keys PG 28) (encM kv_Pin dv_i64 r1)), (2, .row 28 2 (List.map e_Pin y10)), (3, .cells 28 [.c (sC x11.Part), .c (sC x11.Pin)])]
  let q18_f' : Fr := [(0, lA 2 (List.map e_PartType a0)), (5, .t (.v (.rt 1))), (6, .t (.v (.rt 2))), (10, .t (.v (.ptr 3 0))), (16, lA 2 (List.map e_Part a1.Parts)), (17, iA (a1.Parts.length : Int)), (18, iA (i3 : Int)), (24, lA 2 (List.map e_Pin r7)), (25, iA (r7.length : Int)), (26, iA (i9 : Int)), (12, bA v13)]
  let q18_g' : Hp := [(1, .map (keys PG 28) (encM kv_Pin dv_i64 r1)), (2, .row 28 2 (List.map e_Pin y10)), (3, .cells 28 [.c (sC x11.Part), .c (sC x11.Pin)])]
  have R15 : Runs PG 45 0 (cL (cR (cL (cL (cR (cR nl_LooseOf_c1)))))) q18_f q18_g (.nor q18_f' q18_g') := by
    rcases opt_e h14 with ⟨v16, h17, h14⟩ | ⟨h17, h14⟩
    · have h14 := Option.some.inj h14
      subst h14
      exact Runs.path XTok PGmix [.r [.look (some (dv_i64 v16))]] [] (an kd_Pin (an (Eq.refl (keys PG 28)) (an (kf_Pin x11) (tl_some dv_i64 ki_Pin h17)))) (by kernel_rfl)
    · have h14 := Option.some.inj h14
      subst h14
      exact Runs.path XTok PGmix [.r [.look (none)]] [] (an kd_Pin (an (Eq.refl (keys PG 28)) (an (kf_Pin x11) (tl_none dv_i64 ki_Pin h17)))) (by kernel_rfl)
  obtain ⟨v19, h20, h⟩ := bnd1_e h
  let q24_f : Fr := [(0, lA 2 (List.map e_PartType a0)), (5, .t (.v (.rt 1))), (6, .t (.v (.rt 2))), (10, .t (.v (.ptr 3 0))), (16, lA 2 (List.map e_Part a1.Parts)), (17, iA (a1.Parts.length : Int)), (18, iA (i3 : Int)), (24, lA 2 (List.map e_Pin r7)), (25, iA (r7.length : Int)), (26, iA (i9 : Int)), (37, bA (!v13))]
  let q24_g : Hp := [(1, .map (keys PG 28) (encM kv_Pin dv_i64 r1)), (2, .row 28 2 (List.map e_Pin y10)), (3, .cells 28 [.c (sC x11.Part), .c (sC x11.Pin)])]
  let q24_f' : Fr := [(0, lA 2 (List.map e_PartType a0)), (5, .t (.v (.rt 1))), (6, .t (.v (.rt 5))), (16, lA 2 (List.map e_Part a1.Parts)), (17, iA (a1.Parts.length : Int)), (18, iA (i3 : Int)), (24, lA 2 (List.map e_Pin r7)), (25, iA (r7.length : Int)), (26, iA (i9 : Int))]
  let q24_g' : Hp := [(1, .map (keys PG 28) (encM kv_Pin dv_i64 r1)), (5, .row 28 2 (List.map e_Pin v19))]
  have R21 : Runs PG 45 0 (cR (cR (cR (cL (cL (cR (cR nl_LooseOf_c1))))))) q24_f q24_g (.nor q24_f' q24_g') := by
    rcases cnd_e h20 with ⟨h22, h20⟩ | ⟨h22, h20⟩
    · obtain ⟨h23, h20⟩ := grd_e h20
      have h20 := Option.some.inj h20
      subst h20
      exact Runs.path XTok PGmix [.b true, .r [.id 4, .row (List.map e_Pin [x11]), .id 5, .row (List.map e_Pin (y10 ++ [x11]))]] [] (an h22 (an (Eq.refl (List.flatten (List.map e_Pin [x11]))) (app_ok e_Pin h23))) (by kernel_rfl)
    · have h20 := Option.some.inj h20
      subst h20
      exact Runs.path XTok PGmix [.b false] [(5, 2)] h22 (by kernel_rfl)
  have h := Option.some.inj h
  subst h
  exact Runs.path XTok PGmix [.r [], .b true, .r [.el (e_Pin x11), .id 3], .s q18_f q18_g [] (.nor q18_f' q18_g'), .r [], .s q24_f q24_g [] (.nor q24_f' q24_g'), .r [.eq 42 (iA ((i9 + 1 : Nat) : Int))]] [(2, 5)] (an (lt_true hi) (an (idx_ok e_Pin h12) (an R15 (an R21 (wrap_eq hi hM))))) (by kernel_rfl)
theorem nl_LooseOf_b1_e (a0 : List PartType) (a1 : Netlist) (r1 : (List (Pin × Int))) (i3 : Nat) (r7 : List Pin) (y10 : List Pin) : Runs PG 45 0 nl_LooseOf_c1 (nl_LooseOf_F1 a0 a1 r1 i3 r7 (r7.length) y10) (nl_LooseOf_H1 a0 a1 r1 i3 r7 (r7.length) y10) (nl_LooseOf_B1 a0 a1 r1 i3 r7 y10) := by
  exact Runs.path XTok PGmix [.r [], .b false] [] (lt_false (r7.length)) (by kernel_rfl)
theorem nl_LooseOf_l1 (a0 : List PartType) (a1 : Netlist) (r1 : (List (Pin × Int))) (i3 : Nat) (r7 : List Pin) (y10 : List Pin) (r : Fin' (List Pin) (List Pin)) (h : forN (fun i9 s => nl_LooseOf_b1 a0 a1 r1 i3 r7 i9 s) (r7.length) 0 y10 = some r) : Runs PG 45 0 (cL (cR (cR (cL (cL (cR (cR nl_LooseOf_c0))))))) (nl_LooseOf_F1 a0 a1 r1 i3 r7 0 y10) (nl_LooseOf_H1 a0 a1 r1 i3 r7 0 y10) (finOc (nl_LooseOf_B1 a0 a1 r1 i3 r7) nl_LooseOf_R r) :=
  Runs.loop' (by kernel_rfl) (forN_rounds (σ := (List Pin)) (ρ := (List Pin)) (body := fun i9 s => nl_LooseOf_b1 a0 a1 r1 i3 r7 i9 s) (F := fun i9 s => nl_LooseOf_F1 a0 a1 r1 i3 r7 i9 s) (H := fun i9 s => nl_LooseOf_H1 a0 a1 r1 i3 r7 i9 s) (B := nl_LooseOf_B1 a0 a1 r1 i3 r7) (R := nl_LooseOf_R) (M := r7.length) (fun _ => rfl) (fun _ => rfl) (fun s => nl_LooseOf_b1_e a0 a1 r1 i3 r7 s) (fun i s o hi h => nl_LooseOf_b1_r a0 a1 r1 i3 r7 i s o hi h) _ 0 _ r (Nat.zero_add _) h)
noncomputable def nl_LooseOf_F0 (a0 : List PartType) (a1 : Netlist) (r1 : (List (Pin × Int))) (i3 : Nat) (y4 : List Pin) : Fr := [(0, lA 2 (List.map e_PartType a0)), (5, .t (.v (.rt 1))), (6, .t (.v (.rt 2))), (16, lA 2 (List.map e_Part a1.Parts)), (17, iA (a1.Parts.length : Int)), (18, iA (i3 : Int))]
noncomputable def nl_LooseOf_H0 (a0 : List PartType) (a1 : Netlist) (r1 : (List (Pin × Int))) (i3 : Nat) (y4 : List Pin) : Hp := [(1, .map (keys PG 28) (encM kv_Pin dv_i64 r1)), (2, .row 28 2 (List.map e_Pin y4))]
noncomputable def nl_LooseOf_B0 (a0 : List PartType) (a1 : Netlist) (r1 : (List (Pin × Int))) (s : List Pin) : Oc := .ex 0 [(6, .t (.v (.rt 2)))] [(2, .row 28 2 (List.map e_Pin s))]
noncomputable def nl_LooseOf_b0 (a0 : List PartType) (a1 : Netlist) (r1 : (List (Pin × Int))) (i3 : Nat) (y4 : List Pin) : Option (Stp (List Pin) (List Pin)) :=
 bnd (atI a1.Parts (i3 : Int)) fun x5 =>
 bnd (nl_pinsOf a0 x5) fun r7 =>
 aft1 (forN (fun i9 s => nl_LooseOf_b1 a0 a1 r1 i3 r7 i9 s) (r7.length) 0 y4) (fun u25 =>
 some (.go u25))
 (fun r27 =>
 some (.ret r27))
theorem nl_LooseOf_b0_r (a0 : List PartType) (a1 : Netlist) (r1 : (List (Pin × Int))) (i3 : Nat) (y4 : List Pin) (o : Stp (List Pin) (List Pin)) (hi : i3 < a1.Parts.length) (h : nl_LooseOf_b0 a0 a1 r1 i3 y4 = some o) :
    Runs PG 45 0 nl_LooseOf_c0 (nl_LooseOf_F0 a0 a1 r1 i3 y4) (nl_LooseOf_H0 a0 a1 r1 i3 y4) (stpOc (fun s' => .nor (nl_LooseOf_F0 a0 a1 r1 (i3 + 1) s') (nl_LooseOf_H0 a0 a1 r1 (i3 + 1) s')) (nl_LooseOf_B0 a0 a1 r1) nl_LooseOf_R o) := by
  unfold nl_LooseOf_b0 at h
  refine Runs.len (s := 16) (sz := 2) (xs := List.map e_Part a1.Parts) (by kernel_rfl) fun hl => ?_
  have hM : a1.Parts.length ≤ lim := len_of hl
  obtain ⟨x5, h6, h⟩ := bnd_e h
  obtain ⟨r7, h8, h⟩ := bnd_e h
  rcases aft1_e h with ⟨u25, h26, h⟩ | ⟨r27, h26, h⟩
  · have h := Option.some.inj h
    subst h
    exact Runs.path XTok PGmix [.r [], .b true, .r [.el (e_Part x5), .id 3], .r [.val (lA 2 (List.map e_Pin r7)), .eq 25 (iA (r7.length : Int))], .s (nl_LooseOf_F1 a0 a1 r1 i3 r7 0 y4) (nl_LooseOf_H1 a0 a1 r1 i3 r7 0 y4) [] (nl_LooseOf_B1 a0 a1 r1 i3 r7 u25), .r [.eq 43 (iA ((i3 + 1 : Nat) : Int))]] [] (an (lt_true hi) (an (idx_ok e_Part h6) (an (nl_pinsOf_ok a0 x5 r7 h8) (an (leni_eq e_Pin r7) (an (nl_LooseOf_l1 a0 a1 r1 i3 r7 y4 (.fin u25) h26) (wrap_eq hi hM)))))) (by kernel_rfl)
  · have h := Option.some.inj h
    subst h
    exact Runs.path XTok PGmix [.r [], .b true, .r [.el (e_Part x5), .id 3], .r [.val (lA 2 (List.map e_Pin r7)), .eq 25 (iA (r7.length : Int))], .s (nl_LooseOf_F1 a0 a1 r1 i3 r7 0 y4) (nl_LooseOf_H1 a0 a1 r1 i3 r7 0 y4) [] (nl_LooseOf_R r27)] [] (an (lt_true hi) (an (idx_ok e_Part h6) (an (nl_pinsOf_ok a0 x5 r7 h8) (an (leni_eq e_Pin r7) (nl_LooseOf_l1 a0 a1 r1 i3 r7 y4 (.ret r27) h26))))) (by kernel_rfl)
theorem nl_LooseOf_b0_e (a0 : List PartType) (a1 : Netlist) (r1 : (List (Pin × Int))) (y4 : List Pin) : Runs PG 45 0 nl_LooseOf_c0 (nl_LooseOf_F0 a0 a1 r1 (a1.Parts.length) y4) (nl_LooseOf_H0 a0 a1 r1 (a1.Parts.length) y4) (nl_LooseOf_B0 a0 a1 r1 y4) := by
  exact Runs.path XTok PGmix [.r [], .b false] [] (lt_false (a1.Parts.length)) (by kernel_rfl)
theorem nl_LooseOf_l0 (a0 : List PartType) (a1 : Netlist) (r1 : (List (Pin × Int))) (y4 : List Pin) (r : Fin' (List Pin) (List Pin)) (h : forN (fun i3 s => nl_LooseOf_b0 a0 a1 r1 i3 s) (a1.Parts.length) 0 y4 = some r) : Runs PG 45 0 (cL (cR (cL (cR (cR (cR nl_LooseOf_c)))))) (nl_LooseOf_F0 a0 a1 r1 0 y4) (nl_LooseOf_H0 a0 a1 r1 0 y4) (finOc (nl_LooseOf_B0 a0 a1 r1) nl_LooseOf_R r) :=
  Runs.loop' (by kernel_rfl) (forN_rounds (σ := (List Pin)) (ρ := (List Pin)) (body := fun i3 s => nl_LooseOf_b0 a0 a1 r1 i3 s) (F := fun i3 s => nl_LooseOf_F0 a0 a1 r1 i3 s) (H := fun i3 s => nl_LooseOf_H0 a0 a1 r1 i3 s) (B := nl_LooseOf_B0 a0 a1 r1) (R := nl_LooseOf_R) (M := a1.Parts.length) (fun _ => rfl) (fun _ => rfl) (fun s => nl_LooseOf_b0_e a0 a1 r1 s) (fun i s o hi h => nl_LooseOf_b0_r a0 a1 r1 i s o hi h) _ 0 _ r (Nat.zero_add _) h)
noncomputable def nl_LooseOf (a0 : List PartType) (a1 : Netlist) : Option (List Pin) :=
 bnd (nl_Nets a1) fun r1 =>
 aft1 (forN (fun i3 s => nl_LooseOf_b0 a0 a1 r1 i3 s) (a1.Parts.length) 0 []) (fun u28 =>
 some u28)
 (fun r30 =>
 some r30)
theorem nl_LooseOf_ok (a0 : List PartType) (a1 : Netlist) (r : List Pin) (h : nl_LooseOf a0 a1 = some r) : Spec PG 54 [lT 2 (List.map e_PartType a0), gT (e_Netlist a1)] [] (lA 2 (List.map e_Pin r)) [] := by
  unfold nl_LooseOf at h
  obtain ⟨r1, h2, h⟩ := bnd_e h
  rcases aft1_e h with ⟨u28, h29, h⟩ | ⟨r30, h29, h⟩
  · have h := Option.some.inj h
    subst h
    exact Spec.path XTok PGmix nl_LooseOf_fn 0 [.r [.id 0, .nl 2], .r [.call [(0, 1)] [gT (e_Netlist a1)] [] (.t (.v (.rt 0))) [(0, .map (keys PG 28) (encM kv_Pin dv_i64 r1))]], .r [.mk 2 28 2], .r [.eq 17 (iA (a1.Parts.length : Int))], .s (nl_LooseOf_F0 a0 a1 r1 0 []) (nl_LooseOf_H0 a0 a1 r1 0 []) [] (nl_LooseOf_B0 a0 a1 r1 u28), .r [], .f 2] (an (an (nl_Nets_ok a1 r1 h2) (an (Eq.refl ([gT (e_Netlist a1)] : List TV)) (Eq.refl (renH (asg [(0, 1)]) [])))) (an (leni_eq e_Part a1.Parts) (nl_LooseOf_l0 a0 a1 r1 [] (.fin u28) h29))) (by kernel_rfl)
  · have h := Option.some.inj h
    subst h
    exact Spec.path XTok PGmix nl_LooseOf_fn 0 [.r [.id 0, .nl 2], .r [.call [(0, 1)] [gT (e_Netlist a1)] [] (.t (.v (.rt 0))) [(0, .map (keys PG 28) (encM kv_Pin dv_i64 r1))]], .r [.mk 2 28 2], .r [.eq 17 (iA (a1.Parts.length : Int))], .s (nl_LooseOf_F0 a0 a1 r1 0 []) (nl_LooseOf_H0 a0 a1 r1 0 []) [] (nl_LooseOf_R r30)] (an (an (nl_Nets_ok a1 r1 h2) (an (Eq.refl ([gT (e_Netlist a1)] : List TV)) (Eq.refl (renH (asg [(0, 1)]) [])))) (an (leni_eq e_Part a1.Parts) (nl_LooseOf_l0 a0 a1 r1 [] (.ret r30) h29))) (by kernel_rfl)

noncomputable def nl_Loose_c : Code := (Go.Proofs.Tryd.f17.body).getD .skip
theorem nl_Loose_fn : FnOk PG 17 nl_Loose_c 16 [.tmp 4, .tmp 5] := ⟨⟨Go.Proofs.Tryd.f17, by kernel_rfl, by kernel_rfl, by kernel_rfl, by kernel_rfl, by kernel_rfl⟩⟩
noncomputable def nl_Loose (a0 : List PartType) (a1 : Netlist) : Option (List Pin × Int) :=
 bnd (nl_CheckList a0 a1) fun r1 =>
 cnd (r1 != 0) (some ([], r1)) (bnd (nl_LooseOf a0 a1) fun r4 =>
 some (r4, 0))
theorem nl_Loose_ok (a0 : List PartType) (a1 : Netlist) (r : List Pin × Int) (h : nl_Loose a0 a1 = some r) : Spec PG 17 [lT 2 (List.map e_PartType a0), gT (e_Netlist a1)] [] (.tup [lT 2 (List.map e_Pin r.1), iT r.2]) [] := by
  unfold nl_Loose at h
  obtain ⟨r1, h2, h⟩ := bnd_e h
  rcases cnd_e h with ⟨h3, h⟩ | ⟨h3, h⟩
  · have h := Option.some.inj h
    subst h
    exact Spec.path XTok PGmix nl_Loose_fn 0 [.r [.id 0, .nl 2], .r [.val (iA r1)], .r [], .b true, .r [.nl 2]] (an (nl_CheckList_ok a0 a1 r1 h2) h3) (by kernel_rfl)
  · obtain ⟨r4, h5, h⟩ := bnd_e h
    have h := Option.some.inj h
    subst h
    exact Spec.path XTok PGmix nl_Loose_fn 0 [.r [.id 0, .nl 2], .r [.val (iA r1)], .r [], .b false, .r [.val (lA 2 (List.map e_Pin r4))]] (an (nl_CheckList_ok a0 a1 r1 h2) (an h3 (nl_LooseOf_ok a0 a1 r4 h5))) (by kernel_rfl)

noncomputable def law_awake_c : Code := (Go.Proofs.Tryd.f20.body).getD .skip
theorem law_awake_fn : FnOk PG 20 law_awake_c 30 [.tmp 0] := ⟨⟨Go.Proofs.Tryd.f20, by kernel_rfl, by kernel_rfl, by kernel_rfl, by kernel_rfl, by kernel_rfl⟩⟩
noncomputable def law_awake : Option Bool :=
 bnd (nl_Loose ([(⟨(⟨#[114]⟩ : ByteArray), [(⟨(⟨#[49]⟩ : ByteArray), 6, 0⟩ : PinType)]⟩ : PartType)]) (⟨[(⟨(⟨#[97]⟩ : ByteArray), (⟨#[114]⟩ : ByteArray)⟩ : Part)], []⟩ : Netlist)) fun r1 =>
 bnd1 (cnd (r1.2 == 0) (cnd ((r1.1.length : Int) == 1) (bnd (atI r1.1 0) fun x8 =>
 some (sEq x8.Part (⟨#[97]⟩ : ByteArray) && (sEq x8.Pin (⟨#[49]⟩ : ByteArray) && true))) (some false)) (some false)) fun v3 =>
 some v3
theorem law_awake_ok (r : Bool) (h : law_awake = some r) : Spec PG 20 [] [] (bA r) [] := by
  unfold law_awake at h
  obtain ⟨r1, h2, h⟩ := bnd_e h
  obtain ⟨v3, h4, h⟩ := bnd1_e h
  let q10_f : Fr := [(2, lA 2 (List.map e_Pin r1.1)), (3, iA r1.2)]
  let q10_g : Hp := []
  let q10_f' : Fr := [(0, bA v3)]
  let q10_g' : Hp := []
  have R5 : Runs PG 30 0 (cL (cR (cR (cR law_awake_c)))) q10_f q10_g (.nor q10_f' q10_g') := by
    rcases cnd_e h4 with ⟨h6, h4⟩ | ⟨h6, h4⟩
    · rcases cnd_e h4 with ⟨h7, h4⟩ | ⟨h7, h4⟩
      · obtain ⟨x8, h9, h4⟩ := bnd_e h4
        have h4 := Option.some.inj h4
        subst h4
        exact Runs.path XTok PGmix [.r [.b true, .b true, .eq 20 (iA (r1.1.length : Int)), .b true, .b true, .b true, .b true, .el (e_Pin x8), .b true, .b true, .b true, .b true]] [] (an h6 (an h6 (an (leni_eq e_Pin r1.1) (an h6 (an h6 (an h7 (an h7 (an (idx_ok e_Pin h9) (an h7 (an h7 (an h7 h7))))))))))) (by kernel_rfl)
      · have h4 := Option.some.inj h4
        subst h4
        exact Runs.path XTok PGmix [.r [.b true, .b true, .eq 20 (iA (r1.1.length : Int)), .b true, .b true, .b false, .b false, .b false, .b false, .b false, .b false]] [] (an h6 (an h6 (an (leni_eq e_Pin r1.1) (an h6 (an h6 (an h7 (an h7 (an h7 (an h7 (an h7 h7)))))))))) (by kernel_rfl)
    · have h4 := Option.some.inj h4
      subst h4
      exact Runs.path XTok PGmix [.r [.b false, .b false, .b false, .b false, .b false, .b false, .b false, .b false, .b false, .b false]] [] (an h6 (an h6 (an h6 (an h6 (an (Eq.refl false) (an (Eq.refl false) (an (Eq.refl false) (an (Eq.refl false) (an (Eq.refl false) (Eq.refl false)))))))))) (by kernel_rfl)
  have h := Option.some.inj h
  subst h
  exact Spec.path XTok PGmix law_awake_fn 0 [.r [], .r [.id 0, .row (List.map e_PinType [(⟨(⟨#[49]⟩ : ByteArray), 6, 0⟩ : PinType)]), .fz 0, .id 0, .row (List.map e_PartType [(⟨(⟨#[114]⟩ : ByteArray), [(⟨(⟨#[49]⟩ : ByteArray), 6, 0⟩ : PinType)]⟩ : PartType)])], .r [.id 1, .row (List.map e_Part [(⟨(⟨#[97]⟩ : ByteArray), (⟨#[114]⟩ : ByteArray)⟩ : Part)]), .fz 0, .fz 1, .val (.tup [lT 2 (List.map e_Pin r1.1), iT r1.2])], .s q10_f q10_g [] (.nor q10_f' q10_g')] (an (Eq.refl (List.flatten (List.map e_PinType [(⟨(⟨#[49]⟩ : ByteArray), 6, 0⟩ : PinType)]))) (an (Eq.refl (List.flatten (List.map e_PartType [(⟨(⟨#[114]⟩ : ByteArray), [(⟨(⟨#[49]⟩ : ByteArray), 6, 0⟩ : PinType)]⟩ : PartType)]))) (an (Eq.refl (List.flatten (List.map e_Part [(⟨(⟨#[97]⟩ : ByteArray), (⟨#[114]⟩ : ByteArray)⟩ : Part)]))) (an (Spec.fit (nl_Loose_ok ([(⟨(⟨#[114]⟩ : ByteArray), [(⟨(⟨#[49]⟩ : ByteArray), 6, 0⟩ : PinType)]⟩ : PartType)]) (⟨[(⟨(⟨#[97]⟩ : ByteArray), (⟨#[114]⟩ : ByteArray)⟩ : Part)], []⟩ : Netlist) r1 h2) (.cons (FitT.v (FitC.same _)) (.cons (FitT.agg (.cons (FitC.same _) (.cons (FitC.nil 3) .nil))) .nil))) R5)))) (by kernel_rfl)

noncomputable def nl_checkNames_c : Code := (Go.Proofs.Tryd.f79.body).getD .skip
theorem nl_checkNames_fn : FnOk PG 79 nl_checkNames_c 36 [.tmp 6] := ⟨⟨Go.Proofs.Tryd.f79, by kernel_rfl, by kernel_rfl, by kernel_rfl, by kernel_rfl, by kernel_rfl⟩⟩
noncomputable def nl_checkNames_c0 : Code := cL (cL (cR (cL (cR (cR nl_checkNames_c)))))
noncomputable def nl_checkNames_R (r : Int) : Oc := .ret [(6, iA r)] []
noncomputable def nl_checkNames_F0 (a2_k : FuncId) (a2_c : List C) (a0 : List ByteArray) (i2 : Nat) : Fr := [(0, lA 1 (List.map e_str a0)), (2, .t (.v (.c (.fn a2_k a2_c)))), (13, lA 1 (List.map e_str a0)), (14, iA (a0.length : Int)), (15, iA (i2 : Int))]
noncomputable def nl_checkNames_H0 (a2_k : FuncId) (a2_c : List C) (a0 : List ByteArray) (i2 : Nat) : Hp := []
noncomputable def nl_checkNames_B0 (a2_k : FuncId) (a2_c : List C) (a0 : List ByteArray) (s : Unit) : Oc := .ex 0 [] []
noncomputable def nl_checkNames_b0 (a2 : ByteArray → Option Bool) (a0 : List ByteArray) (i2 : Nat) : Option (Stp Unit Int) :=
 bnd (atI a0 (i2 : Int)) fun x3 =>
 bnd (a2 x3) fun r5 =>
 cnd (!r5) (some (.ret 9)) (bnd1 (cnd (decide ((i2 : Int) > 0)) (bnd (atI a0 (w64 ((i2 : Int) - 1))) fun x12 =>
 some (sLe x3 x12)) (some false)) fun v8 =>
 cnd v8 (some (.ret 8)) (some (.go ())))
theorem nl_checkNames_b0_r (a2_k : FuncId) (a2_c : List C) (a2 : ByteArray → Option Bool) (a2_ok : ∀ (z0 : ByteArray) (r : Bool), a2 z0 = some r → Spec PG a2_k ([sT z0] ++ List.map (fun x => TV.v (CV.c x)) a2_c) [] (bA r) []) (a0 : List ByteArray) (i2 : Nat) (o : Stp Unit Int) (hi : i2 < a0.length) (h : nl_checkNames_b0 a2 a0 i2 = some o) :
    Runs PG 36 0 nl_checkNames_c0 (nl_checkNames_F0 a2_k a2_c a0 i2 ) (nl_checkNames_H0 a2_k a2_c a0 i2 ) (stpOc (fun s' => .nor (nl_checkNames_F0 a2_k a2_c a0 (i2 + 1) ) (nl_checkNames_H0 a2_k a2_c a0 (i2 + 1) )) (nl_checkNames_B0 a2_k a2_c a0) nl_checkNames_R o) := by
  unfold nl_checkNames_b0 at h
  refine Runs.len (s := 13) (sz := 1) (xs := List.map e_str a0) (by kernel_rfl) fun hl => ?_
  have hM : a0.length ≤ lim := len_of hl
  obtain ⟨x3, h4, h⟩ := bnd_e h
  obtain ⟨r5, h6, h⟩ := bnd_e h
  rcases cnd_e h with ⟨h7, h⟩ | ⟨h7, h⟩
  · have h := Option.some.inj h
    subst h
    exact Runs.path XTok PGmix [.r [], .b true, .r [.el [sC x3]], .r [.val (bA r5)], .b true, .r []] [] (an (lt_true hi) (an (idx_ok e_str h4) (an (a2_ok x3 r5 h6) h7))) (by kernel_rfl)
  · obtain ⟨v8, h9, h⟩ := bnd1_e h
    let q14_f : Fr := [(0, lA 1 (List.map e_str a0)), (2, .t (.v (.c (.fn a2_k a2_c)))), (7, iA (i2 : Int)), (8, sA x3), (13, lA 1 (List.map e_str a0)), (14, iA (a0.length : Int)), (15, iA (i2 : Int))]
    let q14_g : Hp := []
    let q14_f' : Fr := [(0, lA 1 (List.map e_str a0)), (2, .t (.v (.c (.fn a2_k a2_c)))), (13, lA 1 (List.map e_str a0)), (14, iA (a0.length : Int)), (15, iA (i2 : Int)), (34, bA v8)]
    let q14_g' : Hp := []
    have R10 : Runs PG 36 0 (cL (cR (cR (cL (cL (cR (cR nl_checkNames_c0))))))) q14_f q14_g (.nor q14_f' q14_g') := by
      rcases cnd_e h9 with ⟨h11, h9⟩ | ⟨h11, h9⟩
      · obtain ⟨x12, h13, h9⟩ := bnd_e h9
        have h9 := Option.some.inj h9
        subst h9
        exact Runs.path XTok PGmix [.r [.b true, .b true, .b true, .b true, .b true, .el [sC x12], .b true, .b true, .b true]] [] (an h11 (an h11 (an h11 (an h11 (an h11 (an (idx_ok e_str h13) (an h11 (an h11 h11)))))))) (by kernel_rfl)
      · have h9 := Option.some.inj h9
        subst h9
        exact Runs.path XTok PGmix [.r [.b false, .b false, .b false, .b false, .b false, .b false, .b false, .b false]] [] (an h11 (an h11 (an h11 (an h11 (an h11 (an h11 (an h11 h11))))))) (by kernel_rfl)
    rcases cnd_e h with ⟨h15, h⟩ | ⟨h15, h⟩
    · have h := Option.some.inj h
      subst h
      exact Runs.path XTok PGmix [.r [], .b true, .r [.el [sC x3]], .r [.val (bA r5)], .b false, .s q14_f q14_g [] (.nor q14_f' q14_g'), .b true, .r []] [] (an (lt_true hi) (an (idx_ok e_str h4) (an (a2_ok x3 r5 h6) (an h7 (an R10 h15))))) (by kernel_rfl)
    · have h := Option.some.inj h
      subst h
      exact Runs.path XTok PGmix [.r [], .b true, .r [.el [sC x3]], .r [.val (bA r5)], .b false, .s q14_f q14_g [] (.nor q14_f' q14_g'), .b false, .r [.eq 35 (iA ((i2 + 1 : Nat) : Int))]] [] (an (lt_true hi) (an (idx_ok e_str h4) (an (a2_ok x3 r5 h6) (an h7 (an R10 (an h15 (wrap_eq hi hM))))))) (by kernel_rfl)
theorem nl_checkNames_b0_e (a2_k : FuncId) (a2_c : List C) (a2 : ByteArray → Option Bool) (a2_ok : ∀ (z0 : ByteArray) (r : Bool), a2 z0 = some r → Spec PG a2_k ([sT z0] ++ List.map (fun x => TV.v (CV.c x)) a2_c) [] (bA r) []) (a0 : List ByteArray) : Runs PG 36 0 nl_checkNames_c0 (nl_checkNames_F0 a2_k a2_c a0 (a0.length) ) (nl_checkNames_H0 a2_k a2_c a0 (a0.length) ) (nl_checkNames_B0 a2_k a2_c a0 ()) := by
  exact Runs.path XTok PGmix [.r [], .b false] [] (lt_false (a0.length)) (by kernel_rfl)
theorem nl_checkNames_l0 (a2_k : FuncId) (a2_c : List C) (a2 : ByteArray → Option Bool) (a2_ok : ∀ (z0 : ByteArray) (r : Bool), a2 z0 = some r → Spec PG a2_k ([sT z0] ++ List.map (fun x => TV.v (CV.c x)) a2_c) [] (bA r) []) (a0 : List ByteArray) (r : Fin' Unit Int) (h : forN (fun i2 s => nl_checkNames_b0 a2 a0 i2 ) (a0.length) 0 () = some r) : Runs PG 36 0 (cL (cR (cL (cR (cR nl_checkNames_c))))) (nl_checkNames_F0 a2_k a2_c a0 0 ) (nl_checkNames_H0 a2_k a2_c a0 0 ) (finOc (nl_checkNames_B0 a2_k a2_c a0) nl_checkNames_R r) :=
  Runs.loop' (by kernel_rfl) (forN_rounds (σ := Unit) (ρ := Int) (body := fun i2 s => nl_checkNames_b0 a2 a0 i2 ) (F := fun i2 s => nl_checkNames_F0 a2_k a2_c a0 i2 ) (H := fun i2 s => nl_checkNames_H0 a2_k a2_c a0 i2 ) (B := nl_checkNames_B0 a2_k a2_c a0) (R := nl_checkNames_R) (M := a0.length) (fun _ => rfl) (fun _ => rfl) (fun s => nl_checkNames_b0_e a2_k a2_c a2 a2_ok a0 ) (fun i s o hi h => nl_checkNames_b0_r a2_k a2_c a2 a2_ok a0 i o hi h) _ 0 _ r (Nat.zero_add _) h)
noncomputable def nl_checkNames (a0 : List ByteArray) (a1 : Int) (a2 : ByteArray → Option Bool) : Option Int :=
 cnd (decide ((a0.length : Int) > a1)) (some 2) (aft0 (forN (fun i2 s => nl_checkNames_b0 a2 a0 i2 ) (a0.length) 0 ()) (
 some 0)
 (fun r17 =>
 some r17))
theorem nl_checkNames_ok (a0 : List ByteArray) (a1 : Int) (a2_k : FuncId) (a2_c : List C) (a2 : ByteArray → Option Bool) (a2_ok : ∀ (z0 : ByteArray) (r : Bool), a2 z0 = some r → Spec PG a2_k ([sT z0] ++ List.map (fun x => TV.v (CV.c x)) a2_c) [] (bA r) []) (r : Int) (h : nl_checkNames a0 a1 a2 = some r) : Spec PG 79 [lT 1 (List.map e_str a0), iT a1, .v (.c (.fn a2_k a2_c))] [] (iA r) [] := by
  unfold nl_checkNames at h
  rcases cnd_e h with ⟨h1, h⟩ | ⟨h1, h⟩
  · have h := Option.some.inj h
    subst h
    exact Spec.path XTok PGmix nl_checkNames_fn 0 [.r [], .r [.eq 10 (iA (a0.length : Int))], .b true, .r []] (an (leni_eq e_str a0) h1) (by kernel_rfl)
  · rcases aft0_e h with ⟨h16, h⟩ | ⟨r17, h16, h⟩
    · have h := Option.some.inj h
      subst h
      exact Spec.path XTok PGmix nl_checkNames_fn 0 [.r [], .r [.eq 10 (iA (a0.length : Int))], .b false, .r [.eq 14 (iA (a0.length : Int))], .s (nl_checkNames_F0 a2_k a2_c a0 0 ) (nl_checkNames_H0 a2_k a2_c a0 0 ) [] (nl_checkNames_B0 a2_k a2_c a0 ()), .r []] (an (leni_eq e_str a0) (an h1 (an (leni_eq e_str a0) (nl_checkNames_l0 a2_k a2_c a2 a2_ok a0 (.fin ()) h16)))) (by kernel_rfl)
    · have h := Option.some.inj h
      subst h
      exact Spec.path XTok PGmix nl_checkNames_fn 0 [.r [], .r [.eq 10 (iA (a0.length : Int))], .b false, .r [.eq 14 (iA (a0.length : Int))], .s (nl_checkNames_F0 a2_k a2_c a0 0 ) (nl_checkNames_H0 a2_k a2_c a0 0 ) [] (nl_checkNames_R r17)] (an (leni_eq e_str a0) (an h1 (an (leni_eq e_str a0) (nl_checkNames_l0 a2_k a2_c a2 a2_ok a0 (.ret r17) h16)))) (by kernel_rfl)

noncomputable def cmp_isNaN_string_c : Code := (Go.Proofs.Tryd.f177.body).getD .skip
theorem cmp_isNaN_string_fn : FnOk PG 177 cmp_isNaN_string_c 6 [.tmp 2] := ⟨⟨Go.Proofs.Tryd.f177, by kernel_rfl, by kernel_rfl, by kernel_rfl, by kernel_rfl, by kernel_rfl⟩⟩
noncomputable def cmp_isNaN_string (a0 : ByteArray) : Option Bool :=
 some (sNe a0 a0)
theorem cmp_isNaN_string_ok (a0 : ByteArray) (r : Bool) (h : cmp_isNaN_string a0 = some r) : Spec PG 177 [sT a0] [] (bA r) [] := by
  unfold cmp_isNaN_string at h
  have h := Option.some.inj h
  subst h
  exact Spec.path XTok PGmix cmp_isNaN_string_fn 0 [.r [], .r []] trivial (by kernel_rfl)

noncomputable def cmp_Less_string_c : Code := (Go.Proofs.Tryd.f149.body).getD .skip
theorem cmp_Less_string_fn : FnOk PG 149 cmp_Less_string_c 17 [.tmp 4] := ⟨⟨Go.Proofs.Tryd.f149, by kernel_rfl, by kernel_rfl, by kernel_rfl, by kernel_rfl, by kernel_rfl⟩⟩
noncomputable def cmp_Less_string (a0 : ByteArray) (a1 : ByteArray) : Option Bool :=
 bnd1 (bnd (cmp_isNaN_string a0) fun r4 =>
 cnd r4 (bnd (cmp_isNaN_string a1) fun r7 =>
 cnd (!r7) (some true) (some (sLt a0 a1))) (some (sLt a0 a1))) fun v1 =>
 some v1
theorem cmp_Less_string_ok (a0 : ByteArray) (a1 : ByteArray) (r : Bool) (h : cmp_Less_string a0 a1 = some r) : Spec PG 149 [sT a0, sT a1] [] (bA r) [] := by
  unfold cmp_Less_string at h
  obtain ⟨v1, h2, h⟩ := bnd1_e h
  let q10_f : Fr := [(0, sA a0), (1, sA a1)]
  let q10_g : Hp := []
  let q10_f' : Fr := [(4, bA v1)]
  let q10_g' : Hp := []
  have R3 : Runs PG 17 0 (cL (cR cmp_Less_string_c)) q10_f q10_g (.nor q10_f' q10_g') := by
    obtain ⟨r4, h5, h2⟩ := bnd_e h2
    rcases cnd_e h2 with ⟨h6, h2⟩ | ⟨h6, h2⟩
    · obtain ⟨r7, h8, h2⟩ := bnd_e h2
      rcases cnd_e h2 with ⟨h9, h2⟩ | ⟨h9, h2⟩
      · have h2 := Option.some.inj h2
        subst h2
        exact Runs.path XTok PGmix [.r [.val (bA r4), .b true, .b true, .val (bA r7), .b true, .b true, .b true, .b true, .b true, .b true]] [] (an (cmp_isNaN_string_ok a0 r4 h5) (an h6 (an h6 (an (cmp_isNaN_string_ok a1 r7 h8) (an h6 (an h6 (an h9 (an h9 (an h9 h9))))))))) (by kernel_rfl)
      · have h2 := Option.some.inj h2
        subst h2
        exact Runs.path XTok PGmix [.r [.val (bA r4), .b true, .b true, .val (bA r7), .b true, .b true, .b false, .b false, .b false, .b false]] [] (an (cmp_isNaN_string_ok a0 r4 h5) (an h6 (an h6 (an (cmp_isNaN_string_ok a1 r7 h8) (an h6 (an h6 (an h9 (an h9 (an h9 h9))))))))) (by kernel_rfl)
    · have h2 := Option.some.inj h2
      subst h2
      exact Runs.path XTok PGmix [.r [.val (bA r4), .b false, .b false, .b false, .b false, .b false, .b false, .b false, .b false]] [] (an (cmp_isNaN_string_ok a0 r4 h5) (an h6 (an h6 (an h6 (an h6 (an (Eq.refl false) (an (Eq.refl false) (an (Eq.refl false) (Eq.refl false))))))))) (by kernel_rfl)
  have h := Option.some.inj h
  subst h
  exact Spec.path XTok PGmix cmp_Less_string_fn 0 [.r [], .s q10_f q10_g [] (.nor q10_f' q10_g')] R3 (by kernel_rfl)

noncomputable def slices_isNaN_string_c : Code := (Go.Proofs.Tryd.f169.body).getD .skip
theorem slices_isNaN_string_fn : FnOk PG 169 slices_isNaN_string_c 6 [.tmp 2] := ⟨⟨Go.Proofs.Tryd.f169, by kernel_rfl, by kernel_rfl, by kernel_rfl, by kernel_rfl, by kernel_rfl⟩⟩
noncomputable def slices_isNaN_string (a0 : ByteArray) : Option Bool :=
 some (sNe a0 a0)
theorem slices_isNaN_string_ok (a0 : ByteArray) (r : Bool) (h : slices_isNaN_string a0 = some r) : Spec PG 169 [sT a0] [] (bA r) [] := by
  unfold slices_isNaN_string at h
  have h := Option.some.inj h
  subst h
  exact Spec.path XTok PGmix slices_isNaN_string_fn 0 [.r [], .r []] trivial (by kernel_rfl)

noncomputable def slices_BinarySearch_string_string_c : Code := (Go.Proofs.Tryd.f132.body).getD .skip
theorem slices_BinarySearch_string_string_fn : FnOk PG 132 slices_BinarySearch_string_string_c 54 [.tmp 4, .tmp 5] := ⟨⟨Go.Proofs.Tryd.f132, by kernel_rfl, by kernel_rfl, by kernel_rfl, by kernel_rfl, by kernel_rfl⟩⟩
noncomputable def slices_BinarySearch_string_string_c0 : Code := cL (cL (cL (cR (cR (cR slices_BinarySearch_string_string_c)))))
noncomputable def slices_BinarySearch_string_string_R (r : Int × Bool) : Oc := .ret [(4, iA r.1), (5, bA r.2)] []
noncomputable def slices_BinarySearch_string_string_F0 (a0 : List ByteArray) (a1 : ByteArray) (y1 : Int) (y2 : Int) : Fr := [(0, lA 1 (List.map e_str a0)), (1, sA a1), (6, iA (a0.length : Int)), (7, iA y1), (8, iA y2)]
noncomputable def slices_BinarySearch_string_string_H0 (a0 : List ByteArray) (a1 : ByteArray) (y1 : Int) (y2 : Int) : Hp := []
noncomputable def slices_BinarySearch_string_string_B0 (a0 : List ByteArray) (a1 : ByteArray) (s : Int × Int) : Oc := .ex 0 [(0, lA 1 (List.map e_str a0)), (1, sA a1), (6, iA (a0.length : Int)), (7, iA s.1)] []
noncomputable def slices_BinarySearch_string_string_b0 (a0 : List ByteArray) (a1 : ByteArray) (y1 : Int) (y2 : Int) : Option (Stp (Int × Int) (Int × Bool)) :=
 cnd (decide (y1 < y2)) (grd ((0 : Int) ≤ 1) <|
 bnd (atI a0 (IntKind.i64.wrap ((IntKind.u64.wrap (w64 (y1 + y2))) / 2 ^ min (Int.toNat 1) 64))) fun x5 =>
 bnd (cmp_Less_string x5 a1) fun r7 =>
 bnd2 (cnd r7 (some (w64 ((IntKind.i64.wrap ((IntKind.u64.wrap (w64 (y1 + y2))) / 2 ^ min (Int.toNat 1) 64)) + 1), y2)) (some (y1, IntKind.i64.wrap ((IntKind.u64.wrap (w64 (y1 + y2))) / 2 ^ min (Int.toNat 1) 64)))) fun v9 v10 =>
 some (.go (v9, v10))) (some (.brk (y1, y2)))
theorem slices_BinarySearch_string_string_b0_r (a0 : List ByteArray) (a1 : ByteArray) (y1 : Int) (y2 : Int) (o : Stp (Int × Int) (Int × Bool)) (h : slices_BinarySearch_string_string_b0 a0 a1 y1 y2 = some o) :
    Runs PG 54 0 slices_BinarySearch_string_string_c0 (slices_BinarySearch_string_string_F0 a0 a1 y1 y2) (slices_BinarySearch_string_string_H0 a0 a1 y1 y2) (stpOc (fun s' => .nor (slices_BinarySearch_string_string_F0 a0 a1 s'.1 s'.2) (slices_BinarySearch_string_string_H0 a0 a1 s'.1 s'.2)) (slices_BinarySearch_string_string_B0 a0 a1) slices_BinarySearch_string_string_R o) := by
  unfold slices_BinarySearch_string_string_b0 at h
  rcases cnd_e h with ⟨h3, h⟩ | ⟨h3, h⟩
  · obtain ⟨h4, h⟩ := grd_e h
    obtain ⟨x5, h6, h⟩ := bnd_e h
    obtain ⟨r7, h8, h⟩ := bnd_e h
    obtain ⟨v9, v10, h11, h⟩ := bnd2_e h
    let q18_f : Fr := [(0, lA 1 (List.map e_str a0)), (1, sA a1), (6, iA (a0.length : Int)), (7, iA y1), (8, iA y2), (9, iA (IntKind.i64.wrap ((IntKind.u64.wrap (w64 (y1 + y2))) / 2 ^ min (Int.toNat 1) 64))), (27, bA r7)]
    let q18_g : Hp := []
    let q18_f' : Fr := [(0, lA 1 (List.map e_str a0)), (1, sA a1), (6, iA (a0.length : Int)), (7, iA v9), (8, iA v10)]
    let q18_g' : Hp := []
    have R12 : Runs PG 54 0 (cR (cR (cL (cR slices_BinarySearch_string_string_c0)))) q18_f q18_g (.nor q18_f' q18_g') := by
      rcases cnd_e h11 with ⟨h13, h11⟩ | ⟨h13, h11⟩
      · have h11 := Option.some.inj h11
        have q14 := (Prod.mk.inj h11).1
        have q15 := (Prod.mk.inj h11).2
        subst q14
        subst q15
        exact Runs.path XTok PGmix [.b true, .r []] [] h13 (by kernel_rfl)
      · have h11 := Option.some.inj h11
        have q16 := (Prod.mk.inj h11).1
        have q17 := (Prod.mk.inj h11).2
        subst q16
        subst q17
        exact Runs.path XTok PGmix [.b false, .r []] [] h13 (by kernel_rfl)
    have h := Option.some.inj h
    subst h
    exact Runs.path XTok PGmix [.r [], .b true, .r [], .r [.el [sC x5], .val (bA r7)], .s q18_f q18_g [] (.nor q18_f' q18_g')] [] (an h3 (an h4 (an (idx_ok e_str h6) (an (cmp_Less_string_ok x5 a1 r7 h8) R12)))) (by kernel_rfl)
  · have h := Option.some.inj h
    subst h
    exact Runs.path XTok PGmix [.r [], .b false] [] h3 (by kernel_rfl)
theorem slices_BinarySearch_string_string_l0 (a0 : List ByteArray) (a1 : ByteArray) (y1 : Int) (y2 : Int) (r : Fin' (Int × Int) (Int × Bool)) (h : loop (fun s => slices_BinarySearch_string_string_b0 a0 a1 s.1 s.2) (y1, y2) = some r) : Runs PG 54 0 (cL (cL (cR (cR (cR slices_BinarySearch_string_string_c))))) (slices_BinarySearch_string_string_F0 a0 a1 y1 y2) (slices_BinarySearch_string_string_H0 a0 a1 y1 y2) (finOc (slices_BinarySearch_string_string_B0 a0 a1) slices_BinarySearch_string_string_R r) :=
  Runs.loop' (by kernel_rfl) (loop_rounds (σ := (Int × Int)) (ρ := (Int × Bool)) (body := fun s => slices_BinarySearch_string_string_b0 a0 a1 s.1 s.2) (F := fun s => slices_BinarySearch_string_string_F0 a0 a1 s.1 s.2) (H := fun s => slices_BinarySearch_string_string_H0 a0 a1 s.1 s.2) (B := slices_BinarySearch_string_string_B0 a0 a1) (R := slices_BinarySearch_string_string_R) (fun _ => rfl) (fun _ => rfl) (fun s o h => slices_BinarySearch_string_string_b0_r a0 a1 s.1 s.2 o h) h)
noncomputable def slices_BinarySearch_string_string (a0 : List ByteArray) (a1 : ByteArray) : Option (Int × Bool) :=
 aft2 (loop (fun s => slices_BinarySearch_string_string_b0 a0 a1 s.1 s.2) (0, (a0.length : Int))) (fun u19 u20 =>
 bnd1 (cnd (decide (u19 < (a0.length : Int))) (bnd (atI a0 u19) fun x27 =>
 cnd (sEq x27 a1) (some true) (bnd (atI a0 u19) fun x30 =>
 bnd (slices_isNaN_string x30) fun r32 =>
 cnd r32 (bnd (slices_isNaN_string a1) fun r35 =>
 some r35) (some false))) (some false)) fun v23 =>
 some (u19, v23))
 (fun r22 =>
 some r22)
theorem slices_BinarySearch_string_string_ok (a0 : List ByteArray) (a1 : ByteArray) (r : Int × Bool) (h : slices_BinarySearch_string_string a0 a1 = some r) : Spec PG 132 [lT 1 (List.map e_str a0), sT a1] [] (.tup [iT r.1, bT r.2]) [] := by
  unfold slices_BinarySearch_string_string at h
  rcases aft2_e h with ⟨u19, u20, h21, h⟩ | ⟨r22, h21, h⟩
  · obtain ⟨v23, h24, h⟩ := bnd1_e h
    let q37_f : Fr := [(0, lA 1 (List.map e_str a0)), (1, sA a1), (6, iA (a0.length : Int)), (7, iA u19)]
    let q37_g : Hp := []
    let q37_f' : Fr := [(4, iA u19), (5, bA v23)]
    let q37_g' : Hp := []
    have R25 : Runs PG 54 0 (cL (cR (cR (cR (cR slices_BinarySearch_string_string_c))))) q37_f q37_g (.nor q37_f' q37_g') := by
      rcases cnd_e h24 with ⟨h26, h24⟩ | ⟨h26, h24⟩
      · obtain ⟨x27, h28, h24⟩ := bnd_e h24
        rcases cnd_e h24 with ⟨h29, h24⟩ | ⟨h29, h24⟩
        · have h24 := Option.some.inj h24
          subst h24
          exact Runs.path XTok PGmix [.r [.b true, .b true, .b true, .el [sC x27], .b true, .b true, .b true, .b true, .b true, .b true, .b true, .b true, .b true, .b true, .b true, .b true, .b true, .b true]] [] (an h26 (an h26 (an h26 (an (idx_ok e_str h28) (an h26 (an h26 (an h26 (an h26 (an h29 (an h29 (an h29 (an h29 (an h29 (an h29 (an h29 (an h26 (an h29 h26))))))))))))))))) (by kernel_rfl)
        · obtain ⟨x30, h31, h24⟩ := bnd_e h24
          obtain ⟨r32, h33, h24⟩ := bnd_e h24
          rcases cnd_e h24 with ⟨h34, h24⟩ | ⟨h34, h24⟩
          · obtain ⟨r35, h36, h24⟩ := bnd_e h24
            have h24 := Option.some.inj h24
            subst h24
            exact Runs.path XTok PGmix [.r [.b true, .b true, .b true, .el [sC x27], .b true, .b true, .b true, .b true, .b false, .b false, .b false, .el [sC x30], .b false, .b false, .val (bA r32), .b false, .b true, .b true, .val (bA r35), .b false, .b true, .b true, .b false, .b true]] [] (an h26 (an h26 (an h26 (an (idx_ok e_str h28) (an h26 (an h26 (an h26 (an h26 (an h29 (an h29 (an h29 (an (idx_ok e_str h31) (an h29 (an h29 (an (slices_isNaN_string_ok x30 r32 h33) (an h29 (an h34 (an h34 (an (slices_isNaN_string_ok a1 r35 h36) (an h29 (an h34 (an h26 (an h29 h26))))))))))))))))))))))) (by kernel_rfl)
          · have h24 := Option.some.inj h24
            subst h24
            exact Runs.path XTok PGmix [.r [.b true, .b true, .b true, .el [sC x27], .b true, .b true, .b true, .b true, .b false, .b false, .b false, .el [sC x30], .b false, .b false, .val (bA r32), .b false, .b false, .b false, .b false, .b false, .b true, .b false, .b true]] [] (an h26 (an h26 (an h26 (an (idx_ok e_str h28) (an h26 (an h26 (an h26 (an h26 (an h29 (an h29 (an h29 (an (idx_ok e_str h31) (an h29 (an h29 (an (slices_isNaN_string_ok x30 r32 h33) (an h29 (an h34 (an h34 (an h29 (an h34 (an h26 (an h29 h26)))))))))))))))))))))) (by kernel_rfl)
      · have h24 := Option.some.inj h24
        subst h24
        exact Runs.path XTok PGmix [.r [.b false, .b false, .b false, .b false, .b false, .b false, .b false, .b false, .b false]] [] (an h26 (an h26 (an h26 (an h26 (an h26 (an h26 (an h26 (an h26 h26)))))))) (by kernel_rfl)
    have h := Option.some.inj h
    subst h
    exact Spec.path XTok PGmix slices_BinarySearch_string_string_fn 0 [.r [], .r [.eq 11 (iA (a0.length : Int))], .r [], .s (slices_BinarySearch_string_string_F0 a0 a1 0 (a0.length : Int)) (slices_BinarySearch_string_string_H0 a0 a1 0 (a0.length : Int)) [] (slices_BinarySearch_string_string_B0 a0 a1 (u19, u20)), .s q37_f q37_g [] (.nor q37_f' q37_g')] (an (leni_eq e_str a0) (an (slices_BinarySearch_string_string_l0 a0 a1 0 (a0.length : Int) (.fin (u19, u20)) h21) R25)) (by kernel_rfl)
  · have h := Option.some.inj h
    subst h
    exact Spec.path XTok PGmix slices_BinarySearch_string_string_fn 0 [.r [], .r [.eq 11 (iA (a0.length : Int))], .r [], .s (slices_BinarySearch_string_string_F0 a0 a1 0 (a0.length : Int)) (slices_BinarySearch_string_string_H0 a0 a1 0 (a0.length : Int)) [] (slices_BinarySearch_string_string_R r22)] (an (leni_eq e_str a0) (slices_BinarySearch_string_string_l0 a0 a1 0 (a0.length : Int) (.ret r22) h21)) (by kernel_rfl)

noncomputable def nl_has_c : Code := (Go.Proofs.Tryd.f84.body).getD .skip
theorem nl_has_fn : FnOk PG 84 nl_has_c 14 [.tmp 4] := ⟨⟨Go.Proofs.Tryd.f84, by kernel_rfl, by kernel_rfl, by kernel_rfl, by kernel_rfl, by kernel_rfl⟩⟩
noncomputable def nl_has (a0 : List ByteArray) (a1 : ByteArray) : Option Bool :=
 bnd (slices_BinarySearch_string_string a0 a1) fun r1 =>
 some r1.2
theorem nl_has_ok (a0 : List ByteArray) (a1 : ByteArray) (r : Bool) (h : nl_has a0 a1 = some r) : Spec PG 84 [lT 1 (List.map e_str a0), sT a1] [] (bA r) [] := by
  unfold nl_has at h
  obtain ⟨r1, h2, h⟩ := bnd_e h
  have h := Option.some.inj h
  subst h
  exact Spec.path XTok PGmix nl_has_fn 0 [.r [], .r [.val (.tup [iT r1.1, bT r1.2])], .r []] (slices_BinarySearch_string_string_ok a0 a1 r1 h2) (by kernel_rfl)

noncomputable def slices_BinarySearchFunc_api_Net_api_Net_string_c : Code := (Go.Proofs.Tryd.f139.body).getD .skip
theorem slices_BinarySearchFunc_api_Net_api_Net_string_fn : FnOk PG 139 slices_BinarySearchFunc_api_Net_api_Net_string_c 49 [.tmp 6, .tmp 7] := ⟨⟨Go.Proofs.Tryd.f139, by kernel_rfl, by kernel_rfl, by kernel_rfl, by kernel_rfl, by kernel_rfl⟩⟩
noncomputable def slices_BinarySearchFunc_api_Net_api_Net_string_c0 : Code := cL (cL (cL (cR (cR (cR slices_BinarySearchFunc_api_Net_api_Net_string_c)))))
noncomputable def slices_BinarySearchFunc_api_Net_api_Net_string_R (r : Int × Bool) : Oc := .ret [(6, iA r.1), (7, bA r.2)] []
noncomputable def slices_BinarySearchFunc_api_Net_api_Net_string_F0 (a2_k : FuncId) (a2_c : List C) (a0 : List Net) (a1 : ByteArray) (y1 : Int) (y2 : Int) : Fr := [(0, lA 3 (List.map e_Net a0)), (1, sA a1), (2, .t (.v (.c (.fn a2_k a2_c)))), (8, iA (a0.length : Int)), (9, iA y1), (10, iA y2)]
noncomputable def slices_BinarySearchFunc_api_Net_api_Net_string_H0 (a2_k : FuncId) (a2_c : List C) (a0 : List Net) (a1 : ByteArray) (y1 : Int) (y2 : Int) : Hp := []
noncomputable def slices_BinarySearchFunc_api_Net_api_Net_string_B0 (a2_k : FuncId) (a2_c : List C) (a0 : List Net) (a1 : ByteArray) (s : Int × Int) : Oc := .ex 0 [(0, lA 3 (List.map e_Net a0)), (1, sA a1), (2, .t (.v (.c (.fn a2_k a2_c)))), (8, iA (a0.length : Int)), (9, iA s.1)] []
noncomputable def slices_BinarySearchFunc_api_Net_api_Net_string_b0 (a2 : Net → ByteArray → Option Int) (a0 : List Net) (a1 : ByteArray) (y1 : Int) (y2 : Int) : Option (Stp (Int × Int) (Int × Bool)) :=
 cnd (decide (y1 < y2)) (grd ((0 : Int) ≤ 1) <|
 bnd (atI a0 (IntKind.i64.wrap ((IntKind.u64.wrap (w64 (y1 + y2))) / 2 ^ min (Int.toNat 1) 64))) fun x5 =>
 bnd (a2 x5 a1) fun r7 =>
 bnd2 (cnd (decide (r7 < 0)) (some (y2, w64 ((IntKind.i64.wrap ((IntKind.u64.wrap (w64 (y1 + y2))) / 2 ^ min (Int.toNat 1) 64)) + 1))) (some (IntKind.i64.wrap ((IntKind.u64.wrap (w64 (y1 + y2))) / 2 ^ min (Int.toNat 1) 64), y1))) fun v9 v10 =>
 some (.go (v10, v9))) (some (.brk (y1, y2)))
theorem slices_BinarySearchFunc_api_Net_api_Net_string_b0_r (a2_k : FuncId) (a2_c : List C) (a2 : Net → ByteArray → Option Int) (a2_ok : ∀ (z0 : Net) (z1 : ByteArray) (r : Int), a2 z0 z1 = some r → Spec PG a2_k ([gT (e_Net z0), sT z1] ++ List.map (fun x => TV.v (CV.c x)) a2_c) [] (iA r) []) (a0 : List Net) (a1 : ByteArray) (y1 : Int) (y2 : Int) (o : Stp (Int × Int) (Int × Bool)) (h : slices_BinarySearchFunc_api_Net_api_Net_string_b0 a2 a0 a1 y1 y2 = some o) :
    Runs PG 49 0 slices_BinarySearchFunc_api_Net_api_Net_string_c0 (slices_BinarySearchFunc_api_Net_api_Net_string_F0 a2_k a2_c a0 a1 y1 y2) (slices_BinarySearchFunc_api_Net_api_Net_string_H0 a2_k a2_c a0 a1 y1 y2) (stpOc (fun s' => .nor (slices_BinarySearchFunc_api_Net_api_Net_string_F0 a2_k a2_c a0 a1 s'.1 s'.2) (slices_BinarySearchFunc_api_Net_api_Net_string_H0 a2_k a2_c a0 a1 s'.1 s'.2)) (slices_BinarySearchFunc_api_Net_api_Net_string_B0 a2_k a2_c a0 a1) slices_BinarySearchFunc_api_Net_api_Net_string_R o) := by
  unfold slices_BinarySearchFunc_api_Net_api_Net_string_b0 at h
  rcases cnd_e h with ⟨h3, h⟩ | ⟨h3, h⟩
  · obtain ⟨h4, h⟩ := grd_e h
    obtain ⟨x5, h6, h⟩ := bnd_e h
    obtain ⟨r7, h8, h⟩ := bnd_e h
    obtain ⟨v9, v10, h11, h⟩ := bnd2_e h
    let q18_f : Fr := [(0, lA 3 (List.map e_Net a0)), (1, sA a1), (2, .t (.v (.c (.fn a2_k a2_c)))), (8, iA (a0.length : Int)), (9, iA y1), (10, iA y2), (11, iA (IntKind.i64.wrap ((IntKind.u64.wrap (w64 (y1 + y2))) / 2 ^ min (Int.toNat 1) 64))), (31, bA (decide (r7 < 0)))]
    let q18_g : Hp := []
    let q18_f' : Fr := [(0, lA 3 (List.map e_Net a0)), (1, sA a1), (2, .t (.v (.c (.fn a2_k a2_c)))), (8, iA (a0.length : Int)), (9, iA v10), (10, iA v9)]
    let q18_g' : Hp := []
    have R12 : Runs PG 49 0 (cR (cR (cL (cR slices_BinarySearchFunc_api_Net_api_Net_string_c0)))) q18_f q18_g (.nor q18_f' q18_g') := by
      rcases cnd_e h11 with ⟨h13, h11⟩ | ⟨h13, h11⟩
      · have h11 := Option.some.inj h11
        have q14 := (Prod.mk.inj h11).1
        have q15 := (Prod.mk.inj h11).2
        subst q14
        subst q15
        exact Runs.path XTok PGmix [.b true, .r []] [] h13 (by kernel_rfl)
      · have h11 := Option.some.inj h11
        have q16 := (Prod.mk.inj h11).1
        have q17 := (Prod.mk.inj h11).2
        subst q16
        subst q17
        exact Runs.path XTok PGmix [.b false, .r []] [] h13 (by kernel_rfl)
    have h := Option.some.inj h
    subst h
    exact Runs.path XTok PGmix [.r [], .b true, .r [], .r [.el (e_Net x5), .val (iA r7)], .s q18_f q18_g [] (.nor q18_f' q18_g')] [] (an h3 (an h4 (an (idx_ok e_Net h6) (an (a2_ok x5 a1 r7 h8) R12)))) (by kernel_rfl)
  · have h := Option.some.inj h
    subst h
    exact Runs.path XTok PGmix [.r [], .b false] [] h3 (by kernel_rfl)
theorem slices_BinarySearchFunc_api_Net_api_Net_string_l0 (a2_k : FuncId) (a2_c : List C) (a2 : Net → ByteArray → Option Int) (a2_ok : ∀ (z0 : Net) (z1 : ByteArray) (r : Int), a2 z0 z1 = some r → Spec PG a2_k ([gT (e_Net z0), sT z1] ++ List.map (fun x => TV.v (CV.c x)) a2_c) [] (iA r) []) (a0 : List Net) (a1 : ByteArray) (y1 : Int) (y2 : Int) (r : Fin' (Int × Int) (Int × Bool)) (h : loop (fun s => slices_BinarySearchFunc_api_Net_api_Net_string_b0 a2 a0 a1 s.1 s.2) (y1, y2) = some r) : Runs PG 49 0 (cL (cL (cR (cR (cR slices_BinarySearchFunc_api_Net_api_Net_string_c))))) (slices_BinarySearchFunc_api_Net_api_Net_string_F0 a2_k a2_c a0 a1 y1 y2) (slices_BinarySearchFunc_api_Net_api_Net_string_H0 a2_k a2_c a0 a1 y1 y2) (finOc (slices_BinarySearchFunc_api_Net_api_Net_string_B0 a2_k a2_c a0 a1) slices_BinarySearchFunc_api_Net_api_Net_string_R r) :=
  Runs.loop' (by kernel_rfl) (loop_rounds (σ := (Int × Int)) (ρ := (Int × Bool)) (body := fun s => slices_BinarySearchFunc_api_Net_api_Net_string_b0 a2 a0 a1 s.1 s.2) (F := fun s => slices_BinarySearchFunc_api_Net_api_Net_string_F0 a2_k a2_c a0 a1 s.1 s.2) (H := fun s => slices_BinarySearchFunc_api_Net_api_Net_string_H0 a2_k a2_c a0 a1 s.1 s.2) (B := slices_BinarySearchFunc_api_Net_api_Net_string_B0 a2_k a2_c a0 a1) (R := slices_BinarySearchFunc_api_Net_api_Net_string_R) (fun _ => rfl) (fun _ => rfl) (fun s o h => slices_BinarySearchFunc_api_Net_api_Net_string_b0_r a2_k a2_c a2 a2_ok a0 a1 s.1 s.2 o h) h)
noncomputable def slices_BinarySearchFunc_api_Net_api_Net_string (a0 : List Net) (a1 : ByteArray) (a2 : Net → ByteArray → Option Int) : Option (Int × Bool) :=
 aft2 (loop (fun s => slices_BinarySearchFunc_api_Net_api_Net_string_b0 a2 a0 a1 s.1 s.2) (0, (a0.length : Int))) (fun u19 u20 =>
 bnd1 (cnd (decide (u19 < (a0.length : Int))) (bnd (atI a0 u19) fun x27 =>
 bnd (a2 x27 a1) fun r29 =>
 some (r29 == 0)) (some false)) fun v23 =>
 some (u19, v23))
 (fun r22 =>
 some r22)
theorem slices_BinarySearchFunc_api_Net_api_Net_string_ok (a0 : List Net) (a1 : ByteArray) (a2_k : FuncId) (a2_c : List C) (a2 : Net → ByteArray → Option Int) (a2_ok : ∀ (z0 : Net) (z1 : ByteArray) (r : Int), a2 z0 z1 = some r → Spec PG a2_k ([gT (e_Net z0), sT z1] ++ List.map (fun x => TV.v (CV.c x)) a2_c) [] (iA r) []) (r : Int × Bool) (h : slices_BinarySearchFunc_api_Net_api_Net_string a0 a1 a2 = some r) : Spec PG 139 [lT 3 (List.map e_Net a0), sT a1, .v (.c (.fn a2_k a2_c))] [] (.tup [iT r.1, bT r.2]) [] := by
  unfold slices_BinarySearchFunc_api_Net_api_Net_string at h
  rcases aft2_e h with ⟨u19, u20, h21, h⟩ | ⟨r22, h21, h⟩
  · obtain ⟨v23, h24, h⟩ := bnd1_e h
    let q31_f : Fr := [(0, lA 3 (List.map e_Net a0)), (1, sA a1), (2, .t (.v (.c (.fn a2_k a2_c)))), (8, iA (a0.length : Int)), (9, iA u19)]
    let q31_g : Hp := []
    let q31_f' : Fr := [(6, iA u19), (7, bA v23)]
    let q31_g' : Hp := []
    have R25 : Runs PG 49 0 (cL (cR (cR (cR (cR slices_BinarySearchFunc_api_Net_api_Net_string_c))))) q31_f q31_g (.nor q31_f' q31_g') := by
      rcases cnd_e h24 with ⟨h26, h24⟩ | ⟨h26, h24⟩
      · obtain ⟨x27, h28, h24⟩ := bnd_e h24
        obtain ⟨r29, h30, h24⟩ := bnd_e h24
        have h24 := Option.some.inj h24
        subst h24
        exact Runs.path XTok PGmix [.r [.b true, .b true, .b true, .b true, .el (e_Net x27), .b true, .b true, .b true, .val (iA r29), .b true, .b true]] [] (an h26 (an h26 (an h26 (an h26 (an (idx_ok e_Net h28) (an h26 (an h26 (an h26 (an (a2_ok x27 a1 r29 h30) (an h26 h26)))))))))) (by kernel_rfl)
      · have h24 := Option.some.inj h24
        subst h24
        exact Runs.path XTok PGmix [.r [.b false, .b false, .b false, .b false, .b false, .b false, .b false, .b false, .b false]] [] (an h26 (an h26 (an h26 (an h26 (an h26 (an h26 (an h26 (an h26 h26)))))))) (by kernel_rfl)
    have h := Option.some.inj h
    subst h
    exact Spec.path XTok PGmix slices_BinarySearchFunc_api_Net_api_Net_string_fn 0 [.r [], .r [.eq 13 (iA (a0.length : Int))], .r [], .s (slices_BinarySearchFunc_api_Net_api_Net_string_F0 a2_k a2_c a0 a1 0 (a0.length : Int)) (slices_BinarySearchFunc_api_Net_api_Net_string_H0 a2_k a2_c a0 a1 0 (a0.length : Int)) [] (slices_BinarySearchFunc_api_Net_api_Net_string_B0 a2_k a2_c a0 a1 (u19, u20)), .s q31_f q31_g [] (.nor q31_f' q31_g')] (an (leni_eq e_Net a0) (an (slices_BinarySearchFunc_api_Net_api_Net_string_l0 a2_k a2_c a2 a2_ok a0 a1 0 (a0.length : Int) (.fin (u19, u20)) h21) R25)) (by kernel_rfl)
  · have h := Option.some.inj h
    subst h
    exact Spec.path XTok PGmix slices_BinarySearchFunc_api_Net_api_Net_string_fn 0 [.r [], .r [.eq 13 (iA (a0.length : Int))], .r [], .s (slices_BinarySearchFunc_api_Net_api_Net_string_F0 a2_k a2_c a0 a1 0 (a0.length : Int)) (slices_BinarySearchFunc_api_Net_api_Net_string_H0 a2_k a2_c a0 a1 0 (a0.length : Int)) [] (slices_BinarySearchFunc_api_Net_api_Net_string_R r22)] (an (leni_eq e_Net a0) (slices_BinarySearchFunc_api_Net_api_Net_string_l0 a2_k a2_c a2 a2_ok a0 a1 0 (a0.length : Int) (.ret r22) h21)) (by kernel_rfl)

noncomputable def nl_NetAt_1_c : Code := (Go.Proofs.Tryd.f140.body).getD .skip
theorem nl_NetAt_1_fn : FnOk PG 140 nl_NetAt_1_c 9 [.tmp 4] := ⟨⟨Go.Proofs.Tryd.f140, by kernel_rfl, by kernel_rfl, by kernel_rfl, by kernel_rfl, by kernel_rfl⟩⟩
noncomputable def nl_NetAt_1 (a0 : Net) (a1 : ByteArray) : Option Int :=
 bnd (strings_Compare a0.Name a1) fun r1 =>
 some r1
theorem nl_NetAt_1_ok (a0 : Net) (a1 : ByteArray) (r : Int) (h : nl_NetAt_1 a0 a1 = some r) : Spec PG 140 [gT (e_Net a0), sT a1] [] (iA r) [] := by
  unfold nl_NetAt_1 at h
  obtain ⟨r1, h2, h⟩ := bnd_e h
  have h := Option.some.inj h
  subst h
  exact Spec.path XTok PGmix nl_NetAt_1_fn 0 [.r [.id 0], .r [.val (iA r1)]] (strings_Compare_ok a0.Name a1 r1 h2) (by kernel_rfl)

noncomputable def nl_NetAt_c : Code := (Go.Proofs.Tryd.f95.body).getD .skip
theorem nl_NetAt_fn : FnOk PG 95 nl_NetAt_c 17 [.tmp 4] := ⟨⟨Go.Proofs.Tryd.f95, by kernel_rfl, by kernel_rfl, by kernel_rfl, by kernel_rfl, by kernel_rfl⟩⟩
noncomputable def nl_NetAt (a0 : Netlist) (a1 : ByteArray) : Option Int :=
 bnd (slices_BinarySearchFunc_api_Net_api_Net_string a0.Nets a1 (fun z0 z1 => nl_NetAt_1 z0 z1)) fun r1 =>
 cnd (!r1.2) (some (-1)) (some r1.1)
theorem nl_NetAt_ok (a0 : Netlist) (a1 : ByteArray) (r : Int) (h : nl_NetAt a0 a1 = some r) : Spec PG 95 [gT (e_Netlist a0), sT a1] [] (iA r) [] := by
  unfold nl_NetAt at h
  obtain ⟨r1, h2, h⟩ := bnd_e h
  rcases cnd_e h with ⟨h3, h⟩ | ⟨h3, h⟩
  · have h := Option.some.inj h
    subst h
    exact Spec.path XTok PGmix nl_NetAt_fn 0 [.r [.id 0], .r [.val (.tup [iT r1.1, bT r1.2])], .r [], .b true, .r []] (an (slices_BinarySearchFunc_api_Net_api_Net_string_ok a0.Nets a1 140 [] (fun z0 z1 => nl_NetAt_1 z0 z1) (fun z0 z1 r h => nl_NetAt_1_ok z0 z1 r h) r1 h2) h3) (by kernel_rfl)
  · have h := Option.some.inj h
    subst h
    exact Spec.path XTok PGmix nl_NetAt_fn 0 [.r [.id 0], .r [.val (.tup [iT r1.1, bT r1.2])], .r [], .b false, .r []] (an (slices_BinarySearchFunc_api_Net_api_Net_string_ok a0.Nets a1 140 [] (fun z0 z1 => nl_NetAt_1 z0 z1) (fun z0 z1 r h => nl_NetAt_1_ok z0 z1 r h) r1 h2) h3) (by kernel_rfl)

noncomputable def nl_Islands_1_c : Code := (Go.Proofs.Tryd.f94.body).getD .skip
theorem nl_Islands_1_fn : FnOk PG 94 nl_Islands_1_c 8 [.tmp 3] := ⟨⟨Go.Proofs.Tryd.f94, by kernel_rfl, by kernel_rfl, by kernel_rfl, by kernel_rfl, by kernel_rfl⟩⟩
noncomputable def nl_Islands_1 (a0 : ByteArray) (a1 : Netlist) : Option Bool :=
 bnd (nl_NetAt a1 a0) fun r1 =>
 some (decide (r1 ≥ 0))
theorem nl_Islands_1_ok (a0 : ByteArray) (a1 : Netlist) (r : Bool) (h : nl_Islands_1 a0 a1 = some r) : Spec PG 94 [sT a0, .v (.c (.ptr (e_Netlist a1)))] [] (bA r) [] := by
  unfold nl_Islands_1 at h
  obtain ⟨r1, h2, h⟩ := bnd_e h
  have h := Option.some.inj h
  subst h
  exact Spec.path XTok PGmix nl_Islands_1_fn 0 [.r [], .r [.val (iA r1)]] (nl_NetAt_ok a1 a0 r1 h2) (by kernel_rfl)

noncomputable def nl_NewUnion_c : Code := (Go.Proofs.Tryd.f96.body).getD .skip
theorem nl_NewUnion_fn : FnOk PG 96 nl_NewUnion_c 26 [.tmp 2] := ⟨⟨Go.Proofs.Tryd.f96, by kernel_rfl, by kernel_rfl, by kernel_rfl, by kernel_rfl, by kernel_rfl⟩⟩
noncomputable def nl_NewUnion_c0 : Code := cL (cL (cR (cL (cR (cR nl_NewUnion_c)))))
noncomputable def nl_NewUnion_R (r : Union) : Oc := .ret [(2, .t (.v (.ptr 0 0)))] [(1, .row 3 1 (List.map e_i64 r.up)), (0, .cells 185 [.rt 1])]
noncomputable def nl_NewUnion_F0 (a0 : Int) (i2 : Nat) (y3 : List Int) : Fr := [(3, .t (.v (.ptr 1 0))), (12, .t (.v (.rt 0))), (13, iA ((List.replicate (Int.toNat a0) (0 : Int)).length : Int)), (14, iA (i2 : Int))]
noncomputable def nl_NewUnion_H0 (a0 : Int) (i2 : Nat) (y3 : List Int) : Hp := [(0, .row 3 1 (List.map e_i64 y3)), (1, .cells 185 [.rt 0])]
noncomputable def nl_NewUnion_B0 (a0 : Int) (s : List Int) : Oc := .ex 0 [(3, .t (.v (.ptr 1 0)))] [(0, .row 3 1 (List.map e_i64 s)), (1, .cells 185 [.rt 0])]
noncomputable def nl_NewUnion_b0 (a0 : Int) (i2 : Nat) (y3 : List Int) : Option (Stp (List Int) Union) :=
 bnd (atI y3 (i2 : Int)) fun x4 =>
 some (.go (y3.set (Int.toNat (i2 : Int)) (i2 : Int)))
theorem nl_NewUnion_b0_r (a0 : Int) (i2 : Nat) (y3 : List Int) (o : Stp (List Int) Union) (hM : (List.replicate (Int.toNat a0) (0 : Int)).length ≤ lim) (hi : i2 < (List.replicate (Int.toNat a0) (0 : Int)).length) (h : nl_NewUnion_b0 a0 i2 y3 = some o) :
    Runs PG 26 0 nl_NewUnion_c0 (nl_NewUnion_F0 a0 i2 y3) (nl_NewUnion_H0 a0 i2 y3) (stpOc (fun s' => .nor (nl_NewUnion_F0 a0 (i2 + 1) s') (nl_NewUnion_H0 a0 (i2 + 1) s')) (nl_NewUnion_B0 a0) nl_NewUnion_R o) := by
  unfold nl_NewUnion_b0 at h
  obtain ⟨x4, h5, h⟩ := bnd_e h
  have h := Option.some.inj h
  subst h
  exact Runs.path XTok PGmix [.r [], .b true, .r [], .r [.el (e_i64 x4), .row (List.map e_i64 (y3.set (Int.toNat (i2 : Int)) (i2 : Int)))], .r [.eq 24 (iA ((i2 + 1 : Nat) : Int))]] [] (an (lt_true hi) (an (idx_lt e_i64 h5) (an (set_ok e_i64 h5 (i2 : Int) 0 [iC (i2 : Int)] (by kernel_rfl)) (wrap_eq hi hM)))) (by kernel_rfl)
theorem nl_NewUnion_b0_e (a0 : Int) (y3 : List Int) : Runs PG 26 0 nl_NewUnion_c0 (nl_NewUnion_F0 a0 ((List.replicate (Int.toNat a0) (0 : Int)).length) y3) (nl_NewUnion_H0 a0 ((List.replicate (Int.toNat a0) (0 : Int)).length) y3) (nl_NewUnion_B0 a0 y3) := by
  exact Runs.path XTok PGmix [.r [], .b false] [] (lt_false ((List.replicate (Int.toNat a0) (0 : Int)).length)) (by kernel_rfl)
theorem nl_NewUnion_l0 (a0 : Int) (y3 : List Int) (hM : (List.replicate (Int.toNat a0) (0 : Int)).length ≤ lim) (r : Fin' (List Int) Union) (h : forN (fun i2 s => nl_NewUnion_b0 a0 i2 s) ((List.replicate (Int.toNat a0) (0 : Int)).length) 0 y3 = some r) : Runs PG 26 0 (cL (cR (cL (cR (cR nl_NewUnion_c))))) (nl_NewUnion_F0 a0 0 y3) (nl_NewUnion_H0 a0 0 y3) (finOc (nl_NewUnion_B0 a0) nl_NewUnion_R r) :=
  Runs.loop' (by kernel_rfl) (forN_rounds (σ := (List Int)) (ρ := Union) (body := fun i2 s => nl_NewUnion_b0 a0 i2 s) (F := fun i2 s => nl_NewUnion_F0 a0 i2 s) (H := fun i2 s => nl_NewUnion_H0 a0 i2 s) (B := nl_NewUnion_B0 a0) (R := nl_NewUnion_R) (M := (List.replicate (Int.toNat a0) (0 : Int)).length) (fun _ => rfl) (fun _ => rfl) (fun s => nl_NewUnion_b0_e a0 s) (fun i s o hi h => nl_NewUnion_b0_r a0 i s o hM hi h) _ 0 _ r (Nat.zero_add _) h)
noncomputable def nl_NewUnion (a0 : Int) : Option Union :=
 grd ((0 : Int) ≤ a0 ∧ a0 ≤ (lim : Int)) <|
 grd ((List.replicate (Int.toNat a0) (0 : Int)).length ≤ lim) <|
 aft1 (forN (fun i2 s => nl_NewUnion_b0 a0 i2 s) ((List.replicate (Int.toNat a0) (0 : Int)).length) 0 (List.replicate (Int.toNat a0) (0 : Int))) (fun u6 =>
 some (⟨u6⟩ : Union))
 (fun r8 =>
 some r8)
theorem nl_NewUnion_ok (a0 : Int) (r : Union) (h : nl_NewUnion a0 = some r) : Spec PG 96 [iT a0] [] (.t (.v (.ptr 0 0))) [(1, .row 3 1 (List.map e_i64 r.up)), (0, .cells 185 [.rt 1])] := by
  unfold nl_NewUnion at h
  obtain ⟨h1, h⟩ := grd_e h
  obtain ⟨h9, h⟩ := grd_e h
  rcases aft1_e h with ⟨u6, h7, h⟩ | ⟨r8, h7, h⟩
  · have h := Option.some.inj h
    subst h
    exact Spec.path XTok PGmix nl_NewUnion_fn 0 [.r [], .r [.id 0, .el (e_i64 0), .row (List.map e_i64 (List.replicate (Int.toNat a0) (0 : Int))), .id 1], .r [.eq 13 (iA ((List.replicate (Int.toNat a0) (0 : Int)).length : Int))], .s (nl_NewUnion_F0 a0 0 (List.replicate (Int.toNat a0) (0 : Int))) (nl_NewUnion_H0 a0 0 (List.replicate (Int.toNat a0) (0 : Int))) [] (nl_NewUnion_B0 a0 u6), .r [], .w [(2, .t (.v (.ptr 0 0)))] [(1, .row 3 1 (List.map e_i64 u6)), (0, .cells 185 [.rt 1])] [(0, 1), (1, 0)]] (an (mk_ok e_i64 0 h1) (an (leni_eq e_i64 (List.replicate (Int.toNat a0) (0 : Int))) (nl_NewUnion_l0 a0 (List.replicate (Int.toNat a0) (0 : Int)) h9 (.fin u6) h7))) (by kernel_rfl)
  · have h := Option.some.inj h
    subst h
    exact Spec.path XTok PGmix nl_NewUnion_fn 0 [.r [], .r [.id 0, .el (e_i64 0), .row (List.map e_i64 (List.replicate (Int.toNat a0) (0 : Int))), .id 1], .r [.eq 13 (iA ((List.replicate (Int.toNat a0) (0 : Int)).length : Int))], .s (nl_NewUnion_F0 a0 0 (List.replicate (Int.toNat a0) (0 : Int))) (nl_NewUnion_H0 a0 0 (List.replicate (Int.toNat a0) (0 : Int))) [] (nl_NewUnion_R r8)] (an (mk_ok e_i64 0 h1) (an (leni_eq e_i64 (List.replicate (Int.toNat a0) (0 : Int))) (nl_NewUnion_l0 a0 (List.replicate (Int.toNat a0) (0 : Int)) h9 (.ret r8) h7))) (by kernel_rfl)

noncomputable def nl_Union_Top_c : Code := (Go.Proofs.Tryd.f141.body).getD .skip
theorem nl_Union_Top_fn : FnOk PG 141 nl_Union_Top_c 41 [.tmp 4] := ⟨⟨Go.Proofs.Tryd.f141, by kernel_rfl, by kernel_rfl, by kernel_rfl, by kernel_rfl, by kernel_rfl⟩⟩
noncomputable def nl_Union_Top_c0 : Code := cL (cL (cL (cR nl_Union_Top_c)))
noncomputable def nl_Union_Top_R (r : Int × Union) : Oc := .ret [(4, iA r.1)] [(0, .cells 185 [.rt 1]), (1, .row 3 1 (List.map e_i64 r.2.up))]
noncomputable def nl_Union_Top_F0 (y1 : Int) (y2 : List Int) : Fr := [(0, .t (.v (.ptr 0 0))), (1, iA y1)]
noncomputable def nl_Union_Top_H0 (y1 : Int) (y2 : List Int) : Hp := [(0, .cells 185 [.rt 1]), (1, .row 3 1 (List.map e_i64 y2))]
noncomputable def nl_Union_Top_B0 (s : Int × List Int) : Oc := .ex 0 [(1, iA s.1)] [(0, .cells 185 [.rt 1]), (1, .row 3 1 (List.map e_i64 s.2))]
noncomputable def nl_Union_Top_b0 (y1 : Int) (y2 : List Int) : Option (Stp (Int × List Int) (Int × Union)) :=
 bnd (atI y2 y1) fun x3 =>
 cnd (x3 != y1) (bnd (atI y2 y1) fun x6 =>
 bnd (atI y2 x6) fun x8 =>
 bnd (atI y2 y1) fun x10 =>
 bnd (atI (y2.set (Int.toNat y1) x8) y1) fun x12 =>
 some (.go (x12, y2.set (Int.toNat y1) x8))) (some (.brk (y1, y2)))
theorem nl_Union_Top_b0_r (y1 : Int) (y2 : List Int) (o : Stp (Int × List Int) (Int × Union)) (h : nl_Union_Top_b0 y1 y2 = some o) :
    Runs PG 41 2 nl_Union_Top_c0 (nl_Union_Top_F0 y1 y2) (nl_Union_Top_H0 y1 y2) (stpOc (fun s' => .nor (nl_Union_Top_F0 s'.1 s'.2) (nl_Union_Top_H0 s'.1 s'.2)) (nl_Union_Top_B0 ) nl_Union_Top_R o) := by
  unfold nl_Union_Top_b0 at h
  obtain ⟨x3, h4, h⟩ := bnd_e h
  rcases cnd_e h with ⟨h5, h⟩ | ⟨h5, h⟩
  · obtain ⟨x6, h7, h⟩ := bnd_e h
    obtain ⟨x8, h9, h⟩ := bnd_e h
    obtain ⟨x10, h11, h⟩ := bnd_e h
    obtain ⟨x12, h13, h⟩ := bnd_e h
    have h := Option.some.inj h
    subst h
    exact Runs.path XTok PGmix [.r [.el [iC x3]], .b true, .d [([], []), ([], []), ([], []), ([0], []), ([], []), ([], []), ([], []), ([], []), ([0], []), ([], []), ([], []), ([], []), ([0], []), ([], []), ([1], []), ([1], [.el [iC x6]]), ([1], []), ([1], [.el [iC x8]]), ([1], []), ([1], [.el (e_i64 x10), .row (List.map e_i64 (y2.set (Int.toNat y1) x8))])], .r [.el [iC x12]]] [] (an (idx_lt e_i64 h4) (an (idx_el e_i64 h4) (an h5 (an (idx_lt e_i64 h7) (an (idx_el e_i64 h7) (an (idx_lt e_i64 h9) (an (idx_el e_i64 h9) (an (idx_lt e_i64 h11) (an (set_ok e_i64 h11 x8 0 [iC x8] (by kernel_rfl)) (an (idx_lt e_i64 h13) (idx_el e_i64 h13))))))))))) (by kernel_rfl)
  · have h := Option.some.inj h
    subst h
    exact Runs.path XTok PGmix [.r [.el [iC x3]], .b false] [] (an (idx_lt e_i64 h4) (an (idx_el e_i64 h4) h5)) (by kernel_rfl)
theorem nl_Union_Top_l0 (y1 : Int) (y2 : List Int) (r : Fin' (Int × List Int) (Int × Union)) (h : loop (fun s => nl_Union_Top_b0 s.1 s.2) (y1, y2) = some r) : Runs PG 41 2 (cL (cL (cR nl_Union_Top_c))) (nl_Union_Top_F0 y1 y2) (nl_Union_Top_H0 y1 y2) (finOc (nl_Union_Top_B0 ) nl_Union_Top_R r) :=
  Runs.loop' (by kernel_rfl) (loop_rounds (σ := (Int × List Int)) (ρ := (Int × Union)) (body := fun s => nl_Union_Top_b0 s.1 s.2) (F := fun s => nl_Union_Top_F0 s.1 s.2) (H := fun s => nl_Union_Top_H0 s.1 s.2) (B := nl_Union_Top_B0 ) (R := nl_Union_Top_R) (fun _ => rfl) (fun _ => rfl) (fun s o h => nl_Union_Top_b0_r s.1 s.2 o h) h)
noncomputable def nl_Union_Top (a0 : Union) (a1 : Int) : Option (Int × Union) :=
 aft2 (loop (fun s => nl_Union_Top_b0 s.1 s.2) (a1, a0.up)) (fun u14 u15 =>
 some (u14, (⟨u15⟩ : Union)))
 (fun r17 =>
 some r17)
theorem nl_Union_Top_ok (a0 : Union) (a1 : Int) (r : Int × Union) (h : nl_Union_Top a0 a1 = some r) : Spec PG 141 [.v (.ptr 0 0), iT a1] [(0, .cells 185 [.rt 1]), (1, .row 3 1 (List.map e_i64 a0.up))] (iA r.1) [(0, .cells 185 [.rt 1]), (1, .row 3 1 (List.map e_i64 r.2.up))] := by
  unfold nl_Union_Top at h
  rcases aft2_e h with ⟨u14, u15, h16, h⟩ | ⟨r17, h16, h⟩
  · have h := Option.some.inj h
    subst h
    exact Spec.path XTok PGmix nl_Union_Top_fn 2 [.r [], .s (nl_Union_Top_F0 a1 a0.up) (nl_Union_Top_H0 a1 a0.up) [] (nl_Union_Top_B0 (u14, u15)), .r []] (nl_Union_Top_l0 a1 a0.up (.fin (u14, u15)) h16) (by kernel_rfl)
  · have h := Option.some.inj h
    subst h
    exact Spec.path XTok PGmix nl_Union_Top_fn 2 [.r [], .s (nl_Union_Top_F0 a1 a0.up) (nl_Union_Top_H0 a1 a0.up) [] (nl_Union_Top_R r17)] (nl_Union_Top_l0 a1 a0.up (.ret r17) h16) (by kernel_rfl)

noncomputable def nl_Union_Join_c : Code := (Go.Proofs.Tryd.f97.body).getD .skip
theorem nl_Union_Join_fn : FnOk PG 97 nl_Union_Join_c 25 [] := ⟨⟨Go.Proofs.Tryd.f97, by kernel_rfl, by kernel_rfl, by kernel_rfl, by kernel_rfl, by kernel_rfl⟩⟩
noncomputable def nl_Union_Join (a0 : Union) (a1 : Int) (a2 : Int) : Option Union :=
 bnd (nl_Union_Top a0 a1) fun r1 =>
 bnd (nl_Union_Top r1.2 a2) fun r3 =>
 bnd (atI r3.2.up (mx r1.1 r3.1)) fun x5 =>
 some (⟨r3.2.up.set (Int.toNat (mx r1.1 r3.1)) (mn r1.1 r3.1)⟩ : Union)
theorem nl_Union_Join_ok (a0 : Union) (a1 : Int) (a2 : Int) (r : Union) (h : nl_Union_Join a0 a1 a2 = some r) : Spec PG 97 [.v (.ptr 0 0), iT a1, iT a2] [(0, .cells 185 [.rt 1]), (1, .row 3 1 (List.map e_i64 a0.up))] (.tup []) [(0, .cells 185 [.rt 1]), (1, .row 3 1 (List.map e_i64 r.up))] := by
  unfold nl_Union_Join at h
  obtain ⟨r1, h2, h⟩ := bnd_e h
  obtain ⟨r3, h4, h⟩ := bnd_e h
  obtain ⟨x5, h6, h⟩ := bnd_e h
  have h := Option.some.inj h
  subst h
  exact Spec.path XTok PGmix nl_Union_Join_fn 2 [.r [.call [(0, 0), (1, 1)] [.v (.ptr 0 0), iT a1] [(0, .cells 185 [.rt 1]), (1, .row 3 1 (List.map e_i64 a0.up))] (iA r1.1) [(0, .cells 185 [.rt 1]), (1, .row 3 1 (List.map e_i64 r1.2.up))], .call [(0, 0), (1, 1)] [.v (.ptr 0 0), iT a2] [(0, .cells 185 [.rt 1]), (1, .row 3 1 (List.map e_i64 r1.2.up))] (iA r3.1) [(0, .cells 185 [.rt 1]), (1, .row 3 1 (List.map e_i64 r3.2.up))]], .r [.el (e_i64 x5), .row (List.map e_i64 (r3.2.up.set (Int.toNat (mx r1.1 r3.1)) (mn r1.1 r3.1)))]] (an (an (nl_Union_Top_ok a0 a1 r1 h2) (an (Eq.refl ([.v (.ptr 0 0), iT a1] : List TV)) (Eq.refl (renH (asg [(0, 0), (1, 1)]) [(0, .cells 185 [.rt 1]), (1, .row 3 1 (List.map e_i64 a0.up))])))) (an (an (nl_Union_Top_ok r1.2 a2 r3 h4) (an (Eq.refl ([.v (.ptr 0 0), iT a2] : List TV)) (Eq.refl (renH (asg [(0, 0), (1, 1)]) [(0, .cells 185 [.rt 1]), (1, .row 3 1 (List.map e_i64 r1.2.up))])))) (an (idx_lt e_i64 h6) (set_ok e_i64 h6 (mn r1.1 r3.1) 0 [iC (mn r1.1 r3.1)] (by kernel_rfl))))) (by kernel_rfl)

noncomputable def nl_Union_Sets_c : Code := (Go.Proofs.Tryd.f98.body).getD .skip
theorem nl_Union_Sets_fn : FnOk PG 98 nl_Union_Sets_c 45 [.tmp 2] := ⟨⟨Go.Proofs.Tryd.f98, by kernel_rfl, by kernel_rfl, by kernel_rfl, by kernel_rfl, by kernel_rfl⟩⟩
noncomputable def nl_Union_Sets_c0 : Code := cL (cL (cR (cL (cR (cR (cR nl_Union_Sets_c))))))
noncomputable def nl_Union_Sets_R (r : List (List Int) × Union) : Oc := .ret [(2, lA 1 (List.map e_sl_i64 r.1))] [(0, .cells 185 [.rt 1]), (1, .row 3 1 (List.map e_i64 r.2.up))]
noncomputable def nl_Union_Sets_F0 (a0 : Union) (i1 : Nat) (y2 : List Int) (y3 : List (Int × Int)) (y4 : List (List Int)) : Fr := [(0, .t (.v (.ptr 0 0))), (3, .t (.v (.rt 2))), (4, .t (.v (.rt 3))), (11, .t (.v (.rt 1))), (12, iA (a0.up.length : Int)), (13, iA (i1 : Int))]
noncomputable def nl_Union_Sets_H0 (a0 : Union) (i1 : Nat) (y2 : List Int) (y3 : List (Int × Int)) (y4 : List (List Int)) : Hp := [(0, .cells 185 [.rt 1]), (1, .row 3 1 (List.map e_i64 y2)), (2, .nrow 144 1 0 3 1 (y4).length none (List.map e_sl_i64 y4)), (3, .map (keys PG 3) (encM kv_i64 dv_i64 y3))]
noncomputable def nl_Union_Sets_B0 (a0 : Union) (s : List Int × (List (Int × Int)) × List (List Int)) : Oc := .ex 0 [(3, .t (.v (.rt 2)))] [(0, .cells 185 [.rt 1]), (1, .row 3 1 (List.map e_i64 s.1)), (2, .nrow 144 1 0 3 1 (s.2.2).length none (List.map e_sl_i64 s.2.2))]
noncomputable def nl_Union_Sets_b0 (a0 : Union) (i1 : Nat) (y2 : List Int) (y3 : List (Int × Int)) (y4 : List (List Int)) : Option (Stp (List Int × (List (Int × Int)) × List (List Int)) (List (List Int) × Union)) :=
 bnd (nl_Union_Top (⟨y2⟩ : Union) (i1 : Int)) fun r5 =>
 bnd2 (cnd (r5.1 == (i1 : Int)) (grd (r64 (i1 : Int)) <|
 grd (y4.length + ([([] : List Int)] : List (List Int)).length ≤ lim) <|
 some (tput y3 (i1 : Int) (y4.length : Int), y4 ++ [([] : List Int)])) (some (y3, y4))) fun v7 v8 =>
 bnd1 (grd (r64 r5.1) <|
 opt (tlook v7 r5.1) (fun v22 =>
 bnd (atI v8 v22) fun x27 =>
 grd (x27.length + [(i1 : Int)].length ≤ lim) <|
 bnd (atI v8 v22) fun x30 =>
 some (v8.set (Int.toNat v22) (x27 ++ [(i1 : Int)]))) (bnd (atI v8 0) fun x34 =>
 grd (x34.length + [(i1 : Int)].length ≤ lim) <|
 bnd (atI v8 0) fun x37 =>
 some (v8.set (Int.toNat 0) (x34 ++ [(i1 : Int)])))) fun v19 =>
 some (.go (r5.2.up, v7, v19))
theorem nl_Union_Sets_b0_r (a0 : Union) (i1 : Nat) (y2 : List Int) (y3 : List (Int × Int)) (y4 : List (List Int)) (o : Stp (List Int × (List (Int × Int)) × List (List Int)) (List (List Int) × Union)) (hM : a0.up.length ≤ lim) (hi : i1 < a0.up.length) (h : nl_Union_Sets_b0 a0 i1 y2 y3 y4 = some o) :
    Runs PG 45 2 nl_Union_Sets_c0 (nl_Union_Sets_F0 a0 i1 y2 y3 y4) (nl_Union_Sets_H0 a0 i1 y2 y3 y4) (stpOc (fun s' => .nor (nl_Union_Sets_F0 a0 (i1 + 1) s'.1 s'.2.1 s'.2.2) (nl_Union_Sets_H0 a0 (i1 + 1) s'.1 s'.2.1 s'.2.2)) (nl_Union_Sets_B0 a0) nl_Union_Sets_R o) := by
  unfold nl_Union_Sets_b0 at h
  obtain ⟨r5, h6, h⟩ := bnd_e h
  obtain ⟨v7, v8, h9, h⟩ := bnd2_e h
  let q18_f : Fr := [(0, .t (.v (.ptr 0 0))), (3, .t (.v (.rt 2))), (4, .t (.v (.rt 3))), (5, iA (i1 : Int)), (6, iA r5.1), (11, .t (.v (.rt 1))), (12, iA (a0.up.length : Int)), (13, iA (i1 : Int)), (21, bA (r5.1 == (i1 : Int)))]
  let q18_g : Hp := [(0, .cells 185 [.rt 1]), (1, .row 3 1 (List.map e_i64 r5.2.up)), (2, .nrow 144 1 0 3 1 (y4).length none (List.map e_sl_i64 y4)), (3, .map (keys PG 3) (encM kv_i64 dv_i64 y3))]
  let q18_f' : Fr := [(0, .t (.v (.ptr 0 0))), (3, .t (.v (.rt 5))), (4, .t (.v (.rt 3))), (5, iA (i1 : Int)), (6, iA r5.1), (11, .t (.v (.rt 1))), (12, iA (a0.up.length : Int)), (13, iA (i1 : Int))]
  let q18_g' : Hp := [(0, .cells 185 [.rt 1]), (1, .row 3 1 (List.map e_i64 r5.2.up)), (3, .map (keys PG 3) (encM kv_i64 dv_i64 v7)), (5, .nrow 144 1 0 3 1 (v8).length none (List.map e_sl_i64 v8))]
  have R10 : Runs PG 45 2 (cR (cL (cR (cR (cL (cL (cR (cR nl_Union_Sets_c0)))))))) q18_f q18_g (.nor q18_f' q18_g') := by
    rcases cnd_e h9 with ⟨h11, h9⟩ | ⟨h11, h9⟩
    · obtain ⟨h12, h9⟩ := grd_e h9
      obtain ⟨h13, h9⟩ := grd_e h9
      have h9 := Option.some.inj h9
      have q14 := (Prod.mk.inj h9).1
      have q15 := (Prod.mk.inj h9).2
      subst q14
      subst q15
      exact Runs.path XTok PGmix [.b true, .r [.eq 25 (iA (y4.length : Int)), .es (encM kv_i64 dv_i64 (tput y3 (i1 : Int) (y4.length : Int)))], .r [.id 4, .row [[.nil]], .id 5, .row (List.map e_sl_i64 y4 ++ [[.nil]])], .g (.n 5 (y4 ++ [([] : List Int)]).length [.nil] (List.map e_sl_i64 (y4 ++ [([] : List Int)])))] [] (an h11 (an (leni_eq e_sl_i64 y4) (an (an kd_i64 (an (Eq.refl (keys PG 3)) (an (kf_i64 (i1 : Int) h12) (put_ok dv_i64 ki_i64 y3 (i1 : Int) (y4.length : Int))))) (an (Eq.refl (List.flatten ([[.nil]] : List El))) (an (an (Eq.refl (List.map e_sl_i64 y4 ++ [[.nil]])) (app_lenr (r := [[.nil]]) e_sl_i64 h13 (by kernel_rfl))) (an (nn_len y4 ([] : List Int)) (an (nn_el e_sl_i64 y4 [.nil]) (nn_set e_sl_i64 y4 ([] : List Int) [.nil] 0 (.sl 1 []) (by kernel_rfl))))))))) (by kernel_rfl)
    · have h9 := Option.some.inj h9
      have q16 := (Prod.mk.inj h9).1
      have q17 := (Prod.mk.inj h9).2
      subst q16
      subst q17
      exact Runs.path XTok PGmix [.b false] [(5, 2)] h11 (by kernel_rfl)
  obtain ⟨v19, h20, h⟩ := bnd1_e h
  let q39_f : Fr := [(0, .t (.v (.ptr 0 0))), (3, .t (.v (.rt 5))), (4, .t (.v (.rt 3))), (5, iA (i1 : Int)), (6, iA r5.1), (11, .t (.v (.rt 1))), (12, iA (a0.up.length : Int)), (13, iA (i1 : Int))]
  let q39_g : Hp := [(0, .cells 185 [.rt 1]), (1, .row 3 1 (List.map e_i64 r5.2.up)), (3, .map (keys PG 3) (encM kv_i64 dv_i64 v7)), (5, .nrow 144 1 0 3 1 (v8).length none (List.map e_sl_i64 v8))]
  let q39_f' : Fr := [(0, .t (.v (.ptr 0 0))), (3, .t (.v (.rt 5))), (4, .t (.v (.rt 3))), (11, .t (.v (.rt 1))), (12, iA (a0.up.length : Int)), (13, iA (i1 : Int))]
  let q39_g' : Hp := [(0, .cells 185 [.rt 1]), (1, .row 3 1 (List.map e_i64 r5.2.up)), (3, .map (keys PG 3) (encM kv_i64 dv_i64 v7)), (5, .nrow 144 1 0 3 1 (v19).length none (List.map e_sl_i64 v19))]
  have R21 : Runs PG 45 2 (cR (cR (cR (cL (cL (cR (cR nl_Union_Sets_c0))))))) q39_f q39_g (.nor q39_f' q39_g') := by
    obtain ⟨h24, h20⟩ := grd_e h20
    rcases opt_e h20 with ⟨v22, h23, h20⟩ | ⟨h23, h20⟩
    · obtain ⟨x27, h28, h20⟩ := bnd_e h20
      obtain ⟨h29, h20⟩ := grd_e h20
      obtain ⟨x30, h31, h20⟩ := bnd_e h20
      have h20 := Option.some.inj h20
      subst h20
      exact Runs.path XTok PGmix [.g (.t 5 (Int.toNat v22) 6 [.sl 1 (List.map e_i64 x27)]), .d [([], []), ([], []), ([], []), ([3], [.look (some (dv_i64 v22))]), ([], []), ([], []), ([], []), ([3], [.look (some (dv_i64 v22))]), ([5], []), ([5], [.b true]), ([], []), ([], [.id 7, .row (List.map e_i64 [(i1 : Int)])]), ([6, 7], [.id 8, .row (List.map e_i64 (x27 ++ [(i1 : Int)]))]), ([5], []), ([5], [.b true])], .g (.c 5 (v8.set (Int.toNat v22) (x27 ++ [(i1 : Int)])).length [.sl 1 (List.map e_i64 x30)] (List.map e_sl_i64 (v8.set (Int.toNat v22) (x27 ++ [(i1 : Int)]))))] [] (an (nt_lt h28) (an (nt_el e_sl_i64 h28) (an (an kd_i64 (an (Eq.refl (keys PG 3)) (an (kf_i64 r5.1 h24) (tl_some dv_i64 ki_i64 h23)))) (an (an kd_i64 (an (Eq.refl (keys PG 3)) (an (kf_i64 r5.1 h24) (tl_some dv_i64 ki_i64 h23)))) (an (idx_lt e_sl_i64 h28) (an (Eq.refl (Int.toNat v22)) (an (Eq.refl (List.flatten (List.map e_i64 [(i1 : Int)]))) (an (app_ok e_i64 h29) (an (idx_lt e_sl_i64 h31) (an (Eq.refl (Int.toNat v22)) (an (nc_len v8 (Int.toNat v22) (x27 ++ [(i1 : Int)])) (an (nt_el e_sl_i64 h31) (nc_set e_sl_i64 v8 (Int.toNat v22) (x27 ++ [(i1 : Int)]) x30 0 (.sl 1 (List.map e_i64 (x27 ++ [(i1 : Int)]))) (by kernel_rfl)))))))))))))) (by kernel_rfl)
    · obtain ⟨x34, h35, h20⟩ := bnd_e h20
      obtain ⟨h36, h20⟩ := grd_e h20
      obtain ⟨x37, h38, h20⟩ := bnd_e h20
      have h20 := Option.some.inj h20
      subst h20
      exact Runs.path XTok PGmix [.g (.t 5 (Int.toNat 0) 6 [.sl 1 (List.map e_i64 x34)]), .d [([], []), ([], []), ([], []), ([3], [.look (none)]), ([], []), ([], []), ([], []), ([3], [.look (none)]), ([5], []), ([5], [.b true]), ([], []), ([], [.id 7, .row (List.map e_i64 [(i1 : Int)])]), ([6, 7], [.id 8, .row (List.map e_i64 (x34 ++ [(i1 : Int)]))]), ([5], []), ([5], [.b true])], .g (.c 5 (v8.set (Int.toNat 0) (x34 ++ [(i1 : Int)])).length [.sl 1 (List.map e_i64 x37)] (List.map e_sl_i64 (v8.set (Int.toNat 0) (x34 ++ [(i1 : Int)]))))] [] (an (nt_lt h35) (an (nt_el e_sl_i64 h35) (an (an kd_i64 (an (Eq.refl (keys PG 3)) (an (kf_i64 r5.1 h24) (tl_none dv_i64 ki_i64 h23)))) (an (an kd_i64 (an (Eq.refl (keys PG 3)) (an (kf_i64 r5.1 h24) (tl_none dv_i64 ki_i64 h23)))) (an (idx_lt e_sl_i64 h35) (an (Eq.refl (Int.toNat 0)) (an (Eq.refl (List.flatten (List.map e_i64 [(i1 : Int)]))) (an (app_ok e_i64 h36) (an (idx_lt e_sl_i64 h38) (an (Eq.refl (Int.toNat 0)) (an (nc_len v8 (Int.toNat 0) (x34 ++ [(i1 : Int)])) (an (nt_el e_sl_i64 h38) (nc_set e_sl_i64 v8 (Int.toNat 0) (x34 ++ [(i1 : Int)]) x37 0 (.sl 1 (List.map e_i64 (x34 ++ [(i1 : Int)]))) (by kernel_rfl)))))))))))))) (by kernel_rfl)
  have h := Option.some.inj h
  subst h
  exact Runs.path XTok PGmix [.r [], .b true, .r [], .r [.call [(0, 0), (1, 1)] [.v (.ptr 0 0), iT (i1 : Int)] [(0, .cells 185 [.rt 1]), (1, .row 3 1 (List.map e_i64 y2))] (iA r5.1) [(0, .cells 185 [.rt 1]), (1, .row 3 1 (List.map e_i64 r5.2.up))]], .r [], .s q18_f q18_g [] (.nor q18_f' q18_g'), .s q39_f q39_g [] (.nor q39_f' q39_g'), .r [.eq 43 (iA ((i1 + 1 : Nat) : Int))]] [(2, 5)] (an (lt_true hi) (an (an (nl_Union_Top_ok (⟨y2⟩ : Union) (i1 : Int) r5 h6) (an (Eq.refl ([.v (.ptr 0 0), iT (i1 : Int)] : List TV)) (Eq.refl (renH (asg [(0, 0), (1, 1)]) [(0, .cells 185 [.rt 1]), (1, .row 3 1 (List.map e_i64 y2))])))) (an R10 (an R21 (wrap_eq hi hM))))) (by kernel_rfl)
theorem nl_Union_Sets_b0_e (a0 : Union) (y2 : List Int) (y3 : List (Int × Int)) (y4 : List (List Int)) : Runs PG 45 2 nl_Union_Sets_c0 (nl_Union_Sets_F0 a0 (a0.up.length) y2 y3 y4) (nl_Union_Sets_H0 a0 (a0.up.length) y2 y3 y4) (nl_Union_Sets_B0 a0 (y2, y3, y4)) := by
  exact Runs.path XTok PGmix [.r [], .b false] [] (lt_false (a0.up.length)) (by kernel_rfl)
theorem nl_Union_Sets_l0 (a0 : Union) (y2 : List Int) (y3 : List (Int × Int)) (y4 : List (List Int)) (hM : a0.up.length ≤ lim) (r : Fin' (List Int × (List (Int × Int)) × List (List Int)) (List (List Int) × Union)) (h : forN (fun i1 s => nl_Union_Sets_b0 a0 i1 s.1 s.2.1 s.2.2) (a0.up.length) 0 (y2, y3, y4) = some r) : Runs PG 45 2 (cL (cR (cL (cR (cR (cR nl_Union_Sets_c)))))) (nl_Union_Sets_F0 a0 0 y2 y3 y4) (nl_Union_Sets_H0 a0 0 y2 y3 y4) (finOc (nl_Union_Sets_B0 a0) nl_Union_Sets_R r) :=
  Runs.loop' (by kernel_rfl) (forN_rounds (σ := (List Int × (List (Int × Int)) × List (List Int))) (ρ := (List (List Int) × Union)) (body := fun i1 s => nl_Union_Sets_b0 a0 i1 s.1 s.2.1 s.2.2) (F := fun i1 s => nl_Union_Sets_F0 a0 i1 s.1 s.2.1 s.2.2) (H := fun i1 s => nl_Union_Sets_H0 a0 i1 s.1 s.2.1 s.2.2) (B := nl_Union_Sets_B0 a0) (R := nl_Union_Sets_R) (M := a0.up.length) (fun _ => rfl) (fun _ => rfl) (fun s => nl_Union_Sets_b0_e a0 s.1 s.2.1 s.2.2) (fun i s o hi h => nl_Union_Sets_b0_r a0 i s.1 s.2.1 s.2.2 o hM hi h) _ 0 _ r (Nat.zero_add _) h)
noncomputable def nl_Union_Sets (a0 : Union) : Option (List (List Int) × Union) :=
 grd (a0.up.length ≤ lim) <|
 aft3 (forN (fun i1 s => nl_Union_Sets_b0 a0 i1 s.1 s.2.1 s.2.2) (a0.up.length) 0 (a0.up, [], [])) (fun u40 u41 u42 =>
 some (u42, (⟨u40⟩ : Union)))
 (fun r44 =>
 some r44)
theorem nl_Union_Sets_ok (a0 : Union) (r : List (List Int) × Union) (h : nl_Union_Sets a0 = some r) : Spec PG 98 [.v (.ptr 0 0)] [(0, .cells 185 [.rt 1]), (1, .row 3 1 (List.map e_i64 a0.up))] (lA 1 (List.map e_sl_i64 r.1)) [(0, .cells 185 [.rt 1]), (1, .row 3 1 (List.map e_i64 r.2.up))] := by
  unfold nl_Union_Sets at h
  obtain ⟨h45, h⟩ := grd_e h
  rcases aft3_e h with ⟨u40, u41, u42, h43, h⟩ | ⟨r44, h43, h⟩
  · have h := Option.some.inj h
    subst h
    exact Spec.path XTok PGmix nl_Union_Sets_fn 2 [.r [.nl 1], .r [.mk 2 144 1], .g (.w 2 0 3 1), .r [.id 3], .r [.eq 12 (iA (a0.up.length : Int))], .s (nl_Union_Sets_F0 a0 0 a0.up [] []) (nl_Union_Sets_H0 a0 0 a0.up [] []) [] (nl_Union_Sets_B0 a0 (u40, u41, u42)), .r [], .g (.z 2), .f 2] (an (leni_eq e_i64 a0.up) (nl_Union_Sets_l0 a0 a0.up [] [] h45 (.fin (u40, u41, u42)) h43)) (by kernel_rfl)
  · have h := Option.some.inj h
    subst h
    exact Spec.path XTok PGmix nl_Union_Sets_fn 2 [.r [.nl 1], .r [.mk 2 144 1], .g (.w 2 0 3 1), .r [.id 3], .r [.eq 12 (iA (a0.up.length : Int))], .s (nl_Union_Sets_F0 a0 0 a0.up [] []) (nl_Union_Sets_H0 a0 0 a0.up [] []) [] (nl_Union_Sets_R r44)] (an (leni_eq e_i64 a0.up) (nl_Union_Sets_l0 a0 a0.up [] [] h45 (.ret r44) h43)) (by kernel_rfl)
end Go.Proofs.YtlbndchfmdogeaaDoor.Sym
