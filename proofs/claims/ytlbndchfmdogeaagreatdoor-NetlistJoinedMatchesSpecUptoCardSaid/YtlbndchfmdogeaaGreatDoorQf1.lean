/- Printed by gen2.py: the plain forms of functions, and that calling them gives what these give. Conditions: none. -/
import Derived.Test.YtlbndchfmdogeaaGreatDoorQf0
set_option linter.unusedVariables false
set_option maxHeartbeats 4000000
namespace Go.Proofs.YtlbndchfmdogeaaGreatDoor.Sym
open Go Go.RowKit
noncomputable def slices_BinarySearchFunc_api_PinType_api_PinType_string_c : Code := (Go.Proofs.Tryz.f74.body).getD .skip
theorem slices_BinarySearchFunc_api_PinType_api_PinType_string_fn : FnOk PG 74 slices_BinarySearchFunc_api_PinType_api_PinType_string_c 49 [.tmp 6, .tmp 7] := ⟨⟨Go.Proofs.Tryz.f74, by kernel_rfl, by kernel_rfl, by kernel_rfl, by kernel_rfl, by kernel_rfl⟩⟩
noncomputable def slices_BinarySearchFunc_api_PinType_api_PinType_string_c0 : Code := cL (cL (cL (cR (cR (cR slices_BinarySearchFunc_api_PinType_api_PinType_string_c)))))
noncomputable def slices_BinarySearchFunc_api_PinType_api_PinType_string_R (r : Int × Bool) : Oc := .ret [(6, iA r.1), (7, bA r.2)] []
noncomputable def slices_BinarySearchFunc_api_PinType_api_PinType_string_F0 (a2_k : FuncId) (a2_c : List C) (a0 : List PinType) (a1 : ByteArray) (y1 : Int) (y2 : Int) : Fr := [(0, lA 3 (List.map e_PinType a0)), (1, sA a1), (2, .t (.v (.c (.fn a2_k a2_c)))), (8, iA (a0.length : Int)), (9, iA y1), (10, iA y2)]
noncomputable def slices_BinarySearchFunc_api_PinType_api_PinType_string_H0 (a2_k : FuncId) (a2_c : List C) (a0 : List PinType) (a1 : ByteArray) (y1 : Int) (y2 : Int) : Hp := []
noncomputable def slices_BinarySearchFunc_api_PinType_api_PinType_string_B0 (a2_k : FuncId) (a2_c : List C) (a0 : List PinType) (a1 : ByteArray) (s : Int × Int) : Oc := .ex 0 [(0, lA 3 (List.map e_PinType a0)), (1, sA a1), (2, .t (.v (.c (.fn a2_k a2_c)))), (8, iA (a0.length : Int)), (9, iA s.1)] []
noncomputable def slices_BinarySearchFunc_api_PinType_api_PinType_string_b0 (a2 : PinType → ByteArray → Option Int) (a0 : List PinType) (a1 : ByteArray) (y1 : Int) (y2 : Int) : Option (Stp (Int × Int) (Int × Bool)) :=
 cnd (decide (y1 < y2)) (grd ((0 : Int) ≤ 1) <|
 bnd (atI a0 (IntKind.i64.wrap ((IntKind.u64.wrap (w64 (y1 + y2))) / 2 ^ min (Int.toNat 1) 64))) fun x5 =>
 bnd (a2 x5 a1) fun r7 =>
 bnd2 (cnd (decide (r7 < 0)) (some (y2, w64 ((IntKind.i64.wrap ((IntKind.u64.wrap (w64 (y1 + y2))) / 2 ^ min (Int.toNat 1) 64)) + 1))) (some (IntKind.i64.wrap ((IntKind.u64.wrap (w64 (y1 + y2))) / 2 ^ min (Int.toNat 1) 64), y1))) fun v9 v10 =>
 some (.go (v10, v9))) (some (.brk (y1, y2)))
theorem slices_BinarySearchFunc_api_PinType_api_PinType_string_b0_r (a2_k : FuncId) (a2_c : List C) (a2 : PinType → ByteArray → Option Int) (a2_ok : ∀ (z0 : PinType) (z1 : ByteArray) (r : Int), a2 z0 z1 = some r → Spec PG a2_k ([gT (e_PinType z0), sT z1] ++ List.map (fun x => TV.v (CV.c x)) a2_c) [] (iA r) []) (a0 : List PinType) (a1 : ByteArray) (y1 : Int) (y2 : Int) (o : Stp (Int × Int) (Int × Bool)) (h : slices_BinarySearchFunc_api_PinType_api_PinType_string_b0 a2 a0 a1 y1 y2 = some o) :
    Runs PG 49 0 slices_BinarySearchFunc_api_PinType_api_PinType_string_c0 (slices_BinarySearchFunc_api_PinType_api_PinType_string_F0 a2_k a2_c a0 a1 y1 y2) (slices_BinarySearchFunc_api_PinType_api_PinType_string_H0 a2_k a2_c a0 a1 y1 y2) (stpOc (fun s' => .nor (slices_BinarySearchFunc_api_PinType_api_PinType_string_F0 a2_k a2_c a0 a1 s'.1 s'.2) (slices_BinarySearchFunc_api_PinType_api_PinType_string_H0 a2_k a2_c a0 a1 s'.1 s'.2)) (slices_BinarySearchFunc_api_PinType_api_PinType_string_B0 a2_k a2_c a0 a1) slices_BinarySearchFunc_api_PinType_api_PinType_string_R o) := by
  unfold slices_BinarySearchFunc_api_PinType_api_PinType_string_b0 at h
  rcases cnd_e h with ⟨h3, h⟩ | ⟨h3, h⟩
  · obtain ⟨h4, h⟩ := grd_e h
    obtain ⟨x5, h6, h⟩ := bnd_e h
    obtain ⟨r7, h8, h⟩ := bnd_e h
    obtain ⟨v9, v10, h11, h⟩ := bnd2_e h
    let q18_f : Fr := [(0, lA 3 (List.map e_PinType a0)), (1, sA a1), (2, .t (.v (.c (.fn a2_k a2_c)))), (8, iA (a0.length : Int)), (9, iA y1), (10, iA y2), (11, iA (IntKind.i64.wrap ((IntKind.u64.wrap (w64 (y1 + y2))) / 2 ^ min (Int.toNat 1) 64))), (31, bA (decide (r7 < 0)))]
    let q18_g : Hp := []
    let q18_f' : Fr := [(0, lA 3 (List.map e_PinType a0)), (1, sA a1), (2, .t (.v (.c (.fn a2_k a2_c)))), (8, iA (a0.length : Int)), (9, iA v10), (10, iA v9)]
    let q18_g' : Hp := []
    have R12 : Runs PG 49 0 (cR (cR (cL (cR slices_BinarySearchFunc_api_PinType_api_PinType_string_c0)))) q18_f q18_g (.nor q18_f' q18_g') := by
      rcases cnd_e h11 with ⟨h13, h11⟩ | ⟨h13, h11⟩
      · have h11 := Option.some.inj h11
        have q14 := (Prod.mk.inj h11).1
        have q15 := (Prod.mk.inj h11).2
        subst q14
        subst q15
        exact Runs.path XTok PGmix [.b true, .r []] [] h13 (by kernel_rfl)
      · have h11 := Option.some.inj h11
        have q16 := (Prod.mk.inj h11).1
        have q17 := (Prod.mk.inj h11).2
        subst q16
        subst q17
        exact Runs.path XTok PGmix [.b false, .r []] [] h13 (by kernel_rfl)
    have h := Option.some.inj h
    subst h
    exact Runs.path XTok PGmix [.r [], .b true, .r [], .r [.el (e_PinType x5), .val (iA r7)], .s q18_f q18_g [] (.nor q18_f' q18_g')] [] (an h3 (an h4 (an (idx_ok e_PinType h6) (an (a2_ok x5 a1 r7 h8) R12)))) (by kernel_rfl)
  · have h := Option.some.inj h
    subst h
    exact Runs.path XTok PGmix [.r [], .b false] [] h3 (by kernel_rfl)
theorem slices_BinarySearchFunc_api_PinType_api_PinType_string_l0 (a2_k : FuncId) (a2_c : List C) (a2 : PinType → ByteArray → Option Int) (a2_ok : ∀ (z0 : PinType) (z1 : ByteArray) (r : Int), a2 z0 z1 = some r → Spec PG a2_k ([gT (e_PinType z0), sT z1] ++ List.map (fun x => TV.v (CV.c x)) a2_c) [] (iA r) []) (a0 : List PinType) (a1 : ByteArray) (y1 : Int) (y2 : Int) (r : Fin' (Int × Int) (Int × Bool)) (h : loop (fun s => slices_BinarySearchFunc_api_PinType_api_PinType_string_b0 a2 a0 a1 s.1 s.2) (y1, y2) = some r) : Runs PG 49 0 (cL (cL (cR (cR (cR slices_BinarySearchFunc_api_PinType_api_PinType_string_c))))) (slices_BinarySearchFunc_api_PinType_api_PinType_string_F0 a2_k a2_c a0 a1 y1 y2) (slices_BinarySearchFunc_api_PinType_api_PinType_string_H0 a2_k a2_c a0 a1 y1 y2) (finOc (slices_BinarySearchFunc_api_PinType_api_PinType_string_B0 a2_k a2_c a0 a1) slices_BinarySearchFunc_api_PinType_api_PinType_string_R r) :=
  Runs.loop' (by kernel_rfl) (loop_rounds (σ := (Int × Int)) (ρ := (Int × Bool)) (body := fun s => slices_BinarySearchFunc_api_PinType_api_PinType_string_b0 a2 a0 a1 s.1 s.2) (F := fun s => slices_BinarySearchFunc_api_PinType_api_PinType_string_F0 a2_k a2_c a0 a1 s.1 s.2) (H := fun s => slices_BinarySearchFunc_api_PinType_api_PinType_string_H0 a2_k a2_c a0 a1 s.1 s.2) (B := slices_BinarySearchFunc_api_PinType_api_PinType_string_B0 a2_k a2_c a0 a1) (R := slices_BinarySearchFunc_api_PinType_api_PinType_string_R) (fun _ => rfl) (fun _ => rfl) (fun s o h => slices_BinarySearchFunc_api_PinType_api_PinType_string_b0_r a2_k a2_c a2 a2_ok a0 a1 s.1 s.2 o h) h)
noncomputable def slices_BinarySearchFunc_api_PinType_api_PinType_string (a0 : List PinType) (a1 : ByteArray) (a2 : PinType → ByteArray → Option Int) : Option (Int × Bool) :=
 aft2 (loop (fun s => slices_BinarySearchFunc_api_PinType_api_PinType_string_b0 a2 a0 a1 s.1 s.2) (0, (a0.length : Int))) (fun u19 u20 =>
 bnd1 (cnd (decide (u19 < (a0.length : Int))) (bnd (atI a0 u19) fun x27 =>
 bnd (a2 x27 a1) fun r29 =>
 some (r29 == 0)) (some false)) fun v23 =>
 some (u19, v23))
 (fun r22 =>
 some r22)
theorem slices_BinarySearchFunc_api_PinType_api_PinType_string_ok (a0 : List PinType) (a1 : ByteArray) (a2_k : FuncId) (a2_c : List C) (a2 : PinType → ByteArray → Option Int) (a2_ok : ∀ (z0 : PinType) (z1 : ByteArray) (r : Int), a2 z0 z1 = some r → Spec PG a2_k ([gT (e_PinType z0), sT z1] ++ List.map (fun x => TV.v (CV.c x)) a2_c) [] (iA r) []) (r : Int × Bool) (h : slices_BinarySearchFunc_api_PinType_api_PinType_string a0 a1 a2 = some r) : Spec PG 74 [lT 3 (List.map e_PinType a0), sT a1, .v (.c (.fn a2_k a2_c))] [] (.tup [iT r.1, bT r.2]) [] := by
  unfold slices_BinarySearchFunc_api_PinType_api_PinType_string at h
  rcases aft2_e h with ⟨u19, u20, h21, h⟩ | ⟨r22, h21, h⟩
  · obtain ⟨v23, h24, h⟩ := bnd1_e h
    let q31_f : Fr := [(0, lA 3 (List.map e_PinType a0)), (1, sA a1), (2, .t (.v (.c (.fn a2_k a2_c)))), (8, iA (a0.length : Int)), (9, iA u19)]
    let q31_g : Hp := []
    let q31_f' : Fr := [(6, iA u19), (7, bA v23)]
    let q31_g' : Hp := []
    have R25 : Runs PG 49 0 (cL (cR (cR (cR (cR slices_BinarySearchFunc_api_PinType_api_PinType_string_c))))) q31_f q31_g (.nor q31_f' q31_g') := by
      rcases cnd_e h24 with ⟨h26, h24⟩ | ⟨h26, h24⟩
      · obtain ⟨x27, h28, h24⟩ := bnd_e h24
        obtain ⟨r29, h30, h24⟩ := bnd_e h24
        have h24 := Option.some.inj h24
        subst h24
        exact Runs.path XTok PGmix [.r [.b true, .b true, .b true, .b true, .el (e_PinType x27), .b true, .b true, .b true, .val (iA r29), .b true, .b true]] [] (an h26 (an h26 (an h26 (an h26 (an (idx_ok e_PinType h28) (an h26 (an h26 (an h26 (an (a2_ok x27 a1 r29 h30) (an h26 h26)))))))))) (by kernel_rfl)
      · have h24 := Option.some.inj h24
        subst h24
        exact Runs.path XTok PGmix [.r [.b false, .b false, .b false, .b false, .b false, .b false, .b false, .b false, .b false]] [] (an h26 (an h26 (an h26 (an h26 (an h26 (an h26 (an h26 (an h26 h26)))))))) (by kernel_rfl)
    have h := Option.some.inj h
    subst h
    exact Spec.path XTok PGmix slices_BinarySearchFunc_api_PinType_api_PinType_string_fn 0 [.r [], .r [.eq 13 (iA (a0.length : Int))], .r [], .s (slices_BinarySearchFunc_api_PinType_api_PinType_string_F0 a2_k a2_c a0 a1 0 (a0.length : Int)) (slices_BinarySearchFunc_api_PinType_api_PinType_string_H0 a2_k a2_c a0 a1 0 (a0.length : Int)) [] (slices_BinarySearchFunc_api_PinType_api_PinType_string_B0 a2_k a2_c a0 a1 (u19, u20)), .s q31_f q31_g [] (.nor q31_f' q31_g')] (an (leni_eq e_PinType a0) (an (slices_BinarySearchFunc_api_PinType_api_PinType_string_l0 a2_k a2_c a2 a2_ok a0 a1 0 (a0.length : Int) (.fin (u19, u20)) h21) R25)) (by kernel_rfl)
  · have h := Option.some.inj h
    subst h
    exact Spec.path XTok PGmix slices_BinarySearchFunc_api_PinType_api_PinType_string_fn 0 [.r [], .r [.eq 13 (iA (a0.length : Int))], .r [], .s (slices_BinarySearchFunc_api_PinType_api_PinType_string_F0 a2_k a2_c a0 a1 0 (a0.length : Int)) (slices_BinarySearchFunc_api_PinType_api_PinType_string_H0 a2_k a2_c a0 a1 0 (a0.length : Int)) [] (slices_BinarySearchFunc_api_PinType_api_PinType_string_R r22)] (an (leni_eq e_PinType a0) (slices_BinarySearchFunc_api_PinType_api_PinType_string_l0 a2_k a2_c a2 a2_ok a0 a1 0 (a0.length : Int) (.ret r22) h21)) (by kernel_rfl)

noncomputable def nl_PinAt_1_c : Code := (Go.Proofs.Tryz.f75.body).getD .skip
theorem nl_PinAt_1_fn : FnOk PG 75 nl_PinAt_1_c 9 [.tmp 4] := ⟨⟨Go.Proofs.Tryz.f75, by kernel_rfl, by kernel_rfl, by kernel_rfl, by kernel_rfl, by kernel_rfl⟩⟩
noncomputable def nl_PinAt_1 (a0 : PinType) (a1 : ByteArray) : Option Int :=
 bnd (strings_Compare a0.Name a1) fun r1 =>
 some r1
theorem nl_PinAt_1_ok (a0 : PinType) (a1 : ByteArray) (r : Int) (h : nl_PinAt_1 a0 a1 = some r) : Spec PG 75 [gT (e_PinType a0), sT a1] [] (iA r) [] := by
  unfold nl_PinAt_1 at h
  obtain ⟨r1, h2, h⟩ := bnd_e h
  have h := Option.some.inj h
  subst h
  exact Spec.path XTok PGmix nl_PinAt_1_fn 0 [.r [.id 0], .r [.val (iA r1)]] (strings_Compare_ok a0.Name a1 r1 h2) (by kernel_rfl)

noncomputable def nl_PinAt_c : Code := (Go.Proofs.Tryz.f51.body).getD .skip
theorem nl_PinAt_fn : FnOk PG 51 nl_PinAt_c 17 [.tmp 4] := ⟨⟨Go.Proofs.Tryz.f51, by kernel_rfl, by kernel_rfl, by kernel_rfl, by kernel_rfl, by kernel_rfl⟩⟩
noncomputable def nl_PinAt (a0 : PartType) (a1 : ByteArray) : Option Int :=
 bnd (slices_BinarySearchFunc_api_PinType_api_PinType_string a0.Pins a1 (fun z0 z1 => nl_PinAt_1 z0 z1)) fun r1 =>
 cnd (!r1.2) (some (-1)) (some r1.1)
theorem nl_PinAt_ok (a0 : PartType) (a1 : ByteArray) (r : Int) (h : nl_PinAt a0 a1 = some r) : Spec PG 51 [gT (e_PartType a0), sT a1] [] (iA r) [] := by
  unfold nl_PinAt at h
  obtain ⟨r1, h2, h⟩ := bnd_e h
  rcases cnd_e h with ⟨h3, h⟩ | ⟨h3, h⟩
  · have h := Option.some.inj h
    subst h
    exact Spec.path XTok PGmix nl_PinAt_fn 0 [.r [.id 0], .r [.val (.tup [iT r1.1, bT r1.2])], .r [], .b true, .r []] (an (slices_BinarySearchFunc_api_PinType_api_PinType_string_ok a0.Pins a1 75 [] (fun z0 z1 => nl_PinAt_1 z0 z1) (fun z0 z1 r h => nl_PinAt_1_ok z0 z1 r h) r1 h2) h3) (by kernel_rfl)
  · have h := Option.some.inj h
    subst h
    exact Spec.path XTok PGmix nl_PinAt_fn 0 [.r [.id 0], .r [.val (.tup [iT r1.1, bT r1.2])], .r [], .b false, .r []] (an (slices_BinarySearchFunc_api_PinType_api_PinType_string_ok a0.Pins a1 75 [] (fun z0 z1 => nl_PinAt_1 z0 z1) (fun z0 z1 r h => nl_PinAt_1_ok z0 z1 r h) r1 h2) h3) (by kernel_rfl)

noncomputable def nl_hasPin_c : Code := (Go.Proofs.Tryz.f65.body).getD .skip
theorem nl_hasPin_fn : FnOk PG 65 nl_hasPin_c 30 [.tmp 6] := ⟨⟨Go.Proofs.Tryz.f65, by kernel_rfl, by kernel_rfl, by kernel_rfl, by kernel_rfl, by kernel_rfl⟩⟩
noncomputable def nl_hasPin (a0 : List PartType) (a1 : List Part) (a2 : Pin) : Option Bool :=
 bnd (nl_partAt a1 a2.Part) fun r1 =>
 bnd1 (cnd (decide (r1 ≥ 0)) (bnd (atI a1 r1) fun x7 =>
 bnd (nl_TypeAt a0 x7.Type_) fun r9 =>
 bnd (atI a0 r9) fun x11 =>
 bnd (nl_PinAt x11 a2.Pin) fun r13 =>
 some (decide (r13 ≥ 0))) (some false)) fun v3 =>
 some v3
theorem nl_hasPin_ok (a0 : List PartType) (a1 : List Part) (a2 : Pin) (r : Bool) (h : nl_hasPin a0 a1 a2 = some r) : Spec PG 65 [lT 2 (List.map e_PartType a0), lT 2 (List.map e_Part a1), gT (e_Pin a2)] [] (bA r) [] := by
  unfold nl_hasPin at h
  obtain ⟨r1, h2, h⟩ := bnd_e h
  obtain ⟨v3, h4, h⟩ := bnd1_e h
  let q15_f : Fr := [(0, lA 2 (List.map e_PartType a0)), (1, lA 2 (List.map e_Part a1)), (5, .t (.v (.ptr 0 0))), (7, iA r1)]
  let q15_g : Hp := [(0, .cells 55 [.c (sC a2.Part), .c (sC a2.Pin)])]
  let q15_f' : Fr := [(6, bA v3)]
  let q15_g' : Hp := []
  have R5 : Runs PG 30 0 (cL (cR (cR nl_hasPin_c))) q15_f q15_g (.nor q15_f' q15_g') := by
    rcases cnd_e h4 with ⟨h6, h4⟩ | ⟨h6, h4⟩
    · obtain ⟨x7, h8, h4⟩ := bnd_e h4
      obtain ⟨r9, h10, h4⟩ := bnd_e h4
      obtain ⟨x11, h12, h4⟩ := bnd_e h4
      obtain ⟨r13, h14, h4⟩ := bnd_e h4
      have h4 := Option.some.inj h4
      subst h4
      exact Runs.path XTok PGmix [.d [([], []), ([], []), ([], []), ([], [.b true]), ([], [.b true]), ([], [.b true]), ([], [.b true]), ([], [.b true, .el (e_Part x7)]), ([], [.b true]), ([], [.b true]), ([], [.b true, .val (iA r9)]), ([], [.b true, .el (e_PartType x11)]), ([], [.b true]), ([], [.b true]), ([0], [.b true]), ([], [.b true, .val (iA r13)]), ([], [.b true]), ([], [.b true]), ([], [])]] [] (an h6 (an h6 (an h6 (an h6 (an h6 (an (idx_ok e_Part h8) (an h6 (an h6 (an h6 (an (nl_TypeAt_ok a0 x7.Type_ r9 h10) (an h6 (an (idx_ok e_PartType h12) (an h6 (an h6 (an h6 (an h6 (an (nl_PinAt_ok x11 a2.Pin r13 h14) (an h6 h6)))))))))))))))))) (by kernel_rfl)
    · have h4 := Option.some.inj h4
      subst h4
      exact Runs.path XTok PGmix [.d [([], []), ([], []), ([], []), ([], [.b false]), ([], [.b false]), ([], [.b false]), ([], [.b false]), ([], [.b false]), ([], [.b false]), ([], [.b false]), ([], [.b false]), ([], [.b false]), ([], [.b false]), ([], [.b false]), ([], [.b false]), ([], [.b false]), ([], [.b false]), ([], [.b false]), ([], [])]] [] (an h6 (an h6 (an h6 (an h6 (an h6 (an h6 (an h6 (an h6 (an h6 (an h6 (an h6 (an h6 (an h6 (an h6 h6)))))))))))))) (by kernel_rfl)
  have h := Option.some.inj h
  subst h
  exact Spec.path XTok PGmix nl_hasPin_fn 0 [.r [.id 0], .r [.val (iA r1)], .s q15_f q15_g [] (.nor q15_f' q15_g')] (an (nl_partAt_ok a1 a2.Part r1 h2) R5) (by kernel_rfl)

noncomputable def nl_CheckList_1_c : Code := (Go.Proofs.Tryz.f64.body).getD .skip
theorem nl_CheckList_1_fn : FnOk PG 64 nl_CheckList_1_c 10 [.tmp 4] := ⟨⟨Go.Proofs.Tryz.f64, by kernel_rfl, by kernel_rfl, by kernel_rfl, by kernel_rfl, by kernel_rfl⟩⟩
noncomputable def nl_CheckList_1 (a0 : Pin) (a1 : List PartType) (a2 : Netlist) : Option Bool :=
 bnd (nl_hasPin a1 a2.Parts a0) fun r1 =>
 some r1
theorem nl_CheckList_1_ok (a0 : Pin) (a1 : List PartType) (a2 : Netlist) (r : Bool) (h : nl_CheckList_1 a0 a1 a2 = some r) : Spec PG 64 [gT (e_Pin a0), .v (.c (.ptr [.sl 2 (List.map e_PartType a1)])), .v (.c (.ptr (e_Netlist a2)))] [] (bA r) [] := by
  unfold nl_CheckList_1 at h
  obtain ⟨r1, h2, h⟩ := bnd_e h
  have h := Option.some.inj h
  subst h
  exact Spec.path XTok PGmix nl_CheckList_1_fn 0 [.r [.id 0], .r [.val (bA r1)]] (nl_hasPin_ok a1 a2.Parts a0 r1 h2) (by kernel_rfl)

noncomputable def nl_CheckList_c : Code := (Go.Proofs.Tryz.f31.body).getD .skip
theorem nl_CheckList_fn : FnOk PG 31 nl_CheckList_c 71 [.tmp 4] := ⟨⟨Go.Proofs.Tryz.f31, by kernel_rfl, by kernel_rfl, by kernel_rfl, by kernel_rfl, by kernel_rfl⟩⟩
noncomputable def nl_CheckList_c0 : Code := cL (cL (cR (cL (cR (cR (cR (cR (cR nl_CheckList_c))))))))
noncomputable def nl_CheckList_R (r : Int) : Oc := .ret [(4, iA r)] []
noncomputable def nl_CheckList_F0 (a0 : List PartType) (a1 : Netlist) (i8 : Nat) (y9 : List (Pin × Bool)) : Fr := [(2, .t (.v (.c (.ptr [.sl 2 (List.map e_PartType a0)])))), (3, .t (.v (.c (.ptr (e_Netlist a1))))), (7, .t (.v (.rt 2))), (29, lA 3 (List.map e_Net a1.Nets)), (30, iA (a1.Nets.length : Int)), (31, iA (i8 : Int))]
noncomputable def nl_CheckList_H0 (a0 : List PartType) (a1 : Netlist) (i8 : Nat) (y9 : List (Pin × Bool)) : Hp := [(2, .map (keys PG 55) (encM kv_Pin dv_bool y9))]
noncomputable def nl_CheckList_B0 (a0 : List PartType) (a1 : Netlist) (s : (List (Pin × Bool))) : Oc := .ex 0 [] []
noncomputable def nl_CheckList_b0 (a0 : List PartType) (a1 : Netlist) (i8 : Nat) (y9 : List (Pin × Bool)) : Option (Stp (List (Pin × Bool)) Int) :=
 bnd (atI a1.Nets (i8 : Int)) fun x10 =>
 bnd (nl_IsPath x10.Name) fun r12 =>
 cnd (!r12) (some (.ret 5)) (cnd ((x10.Pins.length : Int) == 0) (some (.ret 9)) (bnd (nl_checkNetPins x10.Pins (fun z0 => nl_CheckList_1 z0 a0 a1) y9) fun r16 =>
 cnd (r16.1 != 0) (some (.ret r16.1)) (cnd (decide ((x10.Ports.length : Int) > 0)) (some (.ret 3)) (bnd1 (cnd (decide ((i8 : Int) > 0)) (bnd (atI a1.Nets (w64 ((i8 : Int) - 1))) fun x24 =>
 some (sLe x10.Name x24.Name)) (some false)) fun v20 =>
 cnd v20 (some (.ret 8)) (some (.go r16.2))))))
theorem nl_CheckList_b0_r (a0 : List PartType) (a1 : Netlist) (i8 : Nat) (y9 : List (Pin × Bool)) (o : Stp (List (Pin × Bool)) Int) (hi : i8 < a1.Nets.length) (h : nl_CheckList_b0 a0 a1 i8 y9 = some o) :
    Runs PG 71 0 nl_CheckList_c0 (nl_CheckList_F0 a0 a1 i8 y9) (nl_CheckList_H0 a0 a1 i8 y9) (stpOc (fun s' => .nor (nl_CheckList_F0 a0 a1 (i8 + 1) s') (nl_CheckList_H0 a0 a1 (i8 + 1) s')) (nl_CheckList_B0 a0 a1) nl_CheckList_R o) := by
  unfold nl_CheckList_b0 at h
  refine Runs.len (s := 29) (sz := 3) (xs := List.map e_Net a1.Nets) (by kernel_rfl) fun hl => ?_
  have hM : a1.Nets.length ≤ lim := len_of hl
  obtain ⟨x10, h11, h⟩ := bnd_e h
  obtain ⟨r12, h13, h⟩ := bnd_e h
  rcases cnd_e h with ⟨h14, h⟩ | ⟨h14, h⟩
  · have h := Option.some.inj h
    subst h
    exact Runs.path XTok PGmix [.r [], .b true, .r [.el (e_Net x10), .id 3], .r [.val (bA r12)], .b true, .r []] [] (an (lt_true hi) (an (idx_ok e_Net h11) (an (nl_IsPath_ok x10.Name r12 h13) h14))) (by kernel_rfl)
  · rcases cnd_e h with ⟨h15, h⟩ | ⟨h15, h⟩
    · have h := Option.some.inj h
      subst h
      exact Runs.path XTok PGmix [.r [], .b true, .r [.el (e_Net x10), .id 3], .r [.val (bA r12)], .b false, .r [.eq 42 (iA (x10.Pins.length : Int))], .b true, .r []] [] (an (lt_true hi) (an (idx_ok e_Net h11) (an (nl_IsPath_ok x10.Name r12 h13) (an h14 (an (leni_eq e_Pin x10.Pins) h15))))) (by kernel_rfl)
    · obtain ⟨r16, h17, h⟩ := bnd_e h
      rcases cnd_e h with ⟨h18, h⟩ | ⟨h18, h⟩
      · have h := Option.some.inj h
        subst h
        exact Runs.path XTok PGmix [.r [], .b true, .r [.el (e_Net x10), .id 3], .r [.val (bA r12)], .b false, .r [.eq 42 (iA (x10.Pins.length : Int))], .b false, .r [.call [(0, 2)] [lT 2 (List.map e_Pin x10.Pins), .v (.c (.fn 64 [.ptr [.sl 2 (List.map e_PartType a0)], .ptr (e_Netlist a1)])), .v (.rt 0)] [(0, .map (keys PG 55) (encM kv_Pin dv_bool y9))] (iA r16.1) [(0, .map (keys PG 55) (encM kv_Pin dv_bool r16.2))]], .r [], .b true, .r []] [] (an (lt_true hi) (an (idx_ok e_Net h11) (an (nl_IsPath_ok x10.Name r12 h13) (an h14 (an (leni_eq e_Pin x10.Pins) (an h15 (an (an (nl_checkNetPins_ok x10.Pins 64 [.ptr [.sl 2 (List.map e_PartType a0)], .ptr (e_Netlist a1)] (fun z0 => nl_CheckList_1 z0 a0 a1) (fun z0 r h => nl_CheckList_1_ok z0 a0 a1 r h) y9 r16 h17) (an (Eq.refl ([lT 2 (List.map e_Pin x10.Pins), .v (.c (.fn 64 [.ptr [.sl 2 (List.map e_PartType a0)], .ptr (e_Netlist a1)])), .v (.rt 2)] : List TV)) (Eq.refl (renH (asg [(0, 2)]) [(0, .map (keys PG 55) (encM kv_Pin dv_bool y9))])))) h18))))))) (by kernel_rfl)
      · rcases cnd_e h with ⟨h19, h⟩ | ⟨h19, h⟩
        · have h := Option.some.inj h
          subst h
          exact Runs.path XTok PGmix [.r [], .b true, .r [.el (e_Net x10), .id 3], .r [.val (bA r12)], .b false, .r [.eq 42 (iA (x10.Pins.length : Int))], .b false, .r [.call [(0, 2)] [lT 2 (List.map e_Pin x10.Pins), .v (.c (.fn 64 [.ptr [.sl 2 (List.map e_PartType a0)], .ptr (e_Netlist a1)])), .v (.rt 0)] [(0, .map (keys PG 55) (encM kv_Pin dv_bool y9))] (iA r16.1) [(0, .map (keys PG 55) (encM kv_Pin dv_bool r16.2))]], .r [], .b false, .r [.eq 54 (iA (x10.Ports.length : Int))], .b true, .r []] [] (an (lt_true hi) (an (idx_ok e_Net h11) (an (nl_IsPath_ok x10.Name r12 h13) (an h14 (an (leni_eq e_Pin x10.Pins) (an h15 (an (an (nl_checkNetPins_ok x10.Pins 64 [.ptr [.sl 2 (List.map e_PartType a0)], .ptr (e_Netlist a1)] (fun z0 => nl_CheckList_1 z0 a0 a1) (fun z0 r h => nl_CheckList_1_ok z0 a0 a1 r h) y9 r16 h17) (an (Eq.refl ([lT 2 (List.map e_Pin x10.Pins), .v (.c (.fn 64 [.ptr [.sl 2 (List.map e_PartType a0)], .ptr (e_Netlist a1)])), .v (.rt 2)] : List TV)) (Eq.refl (renH (asg [(0, 2)]) [(0, .map (keys PG 55) (encM kv_Pin dv_bool y9))])))) (an h18 (an (leni_eq e_str x10.Ports) h19))))))))) (by kernel_rfl)
        · obtain ⟨v20, h21, h⟩ := bnd1_e h
          let q26_f : Fr := [(2, .t (.v (.c (.ptr [.sl 2 (List.map e_PartType a0)])))), (3, .t (.v (.c (.ptr (e_Netlist a1))))), (7, .t (.v (.rt 2))), (8, iA (i8 : Int)), (9, .t (.v (.ptr 3 0))), (29, lA 3 (List.map e_Net a1.Nets)), (30, iA (a1.Nets.length : Int)), (31, iA (i8 : Int))]
          let q26_g : Hp := [(2, .map (keys PG 55) (encM kv_Pin dv_bool r16.2)), (3, .cells 53 [.c (sC x10.Name), .c (.sl 2 (List.map e_Pin x10.Pins)), .c (.sl 1 (List.map e_str x10.Ports))])]
          let q26_f' : Fr := [(2, .t (.v (.c (.ptr [.sl 2 (List.map e_PartType a0)])))), (3, .t (.v (.c (.ptr (e_Netlist a1))))), (7, .t (.v (.rt 2))), (29, lA 3 (List.map e_Net a1.Nets)), (30, iA (a1.Nets.length : Int)), (31, iA (i8 : Int)), (69, bA v20)]
          let q26_g' : Hp := [(2, .map (keys PG 55) (encM kv_Pin dv_bool r16.2))]
          have R22 : Runs PG 71 0 (cL (cR (cR (cR (cR (cR (cL (cL (cR (cR nl_CheckList_c0)))))))))) q26_f q26_g (.nor q26_f' q26_g') := by
            rcases cnd_e h21 with ⟨h23, h21⟩ | ⟨h23, h21⟩
            · obtain ⟨x24, h25, h21⟩ := bnd_e h21
              have h21 := Option.some.inj h21
              subst h21
              exact Runs.path XTok PGmix [.d [([], []), ([], []), ([], []), ([], [.b true]), ([3], [.b true]), ([], [.b true]), ([], [.b true]), ([], [.b true]), ([], [.b true]), ([], [.b true, .el (e_Net x24)]), ([], [.b true]), ([], [.b true]), ([], [.b true]), ([], [.b true])]] [] (an h23 (an h23 (an h23 (an h23 (an h23 (an h23 (an h23 (an (idx_ok e_Net h25) (an h23 (an h23 (an h23 h23))))))))))) (by kernel_rfl)
            · have h21 := Option.some.inj h21
              subst h21
              exact Runs.path XTok PGmix [.d [([], []), ([], []), ([], []), ([], [.b false]), ([], [.b false]), ([], [.b false]), ([], [.b false]), ([], [.b false]), ([], [.b false]), ([], [.b false]), ([], [.b false]), ([], [.b false]), ([], [.b false]), ([], [.b false])]] [] (an h23 (an h23 (an h23 (an h23 (an h23 (an h23 (an h23 (an h23 (an h23 (an h23 h23)))))))))) (by kernel_rfl)
          rcases cnd_e h with ⟨h27, h⟩ | ⟨h27, h⟩
          · have h := Option.some.inj h
            subst h
            exact Runs.path XTok PGmix [.r [], .b true, .r [.el (e_Net x10), .id 3], .r [.val (bA r12)], .b false, .r [.eq 42 (iA (x10.Pins.length : Int))], .b false, .r [.call [(0, 2)] [lT 2 (List.map e_Pin x10.Pins), .v (.c (.fn 64 [.ptr [.sl 2 (List.map e_PartType a0)], .ptr (e_Netlist a1)])), .v (.rt 0)] [(0, .map (keys PG 55) (encM kv_Pin dv_bool y9))] (iA r16.1) [(0, .map (keys PG 55) (encM kv_Pin dv_bool r16.2))]], .r [], .b false, .r [.eq 54 (iA (x10.Ports.length : Int))], .b false, .s q26_f q26_g [] (.nor q26_f' q26_g'), .b true, .r []] [] (an (lt_true hi) (an (idx_ok e_Net h11) (an (nl_IsPath_ok x10.Name r12 h13) (an h14 (an (leni_eq e_Pin x10.Pins) (an h15 (an (an (nl_checkNetPins_ok x10.Pins 64 [.ptr [.sl 2 (List.map e_PartType a0)], .ptr (e_Netlist a1)] (fun z0 => nl_CheckList_1 z0 a0 a1) (fun z0 r h => nl_CheckList_1_ok z0 a0 a1 r h) y9 r16 h17) (an (Eq.refl ([lT 2 (List.map e_Pin x10.Pins), .v (.c (.fn 64 [.ptr [.sl 2 (List.map e_PartType a0)], .ptr (e_Netlist a1)])), .v (.rt 2)] : List TV)) (Eq.refl (renH (asg [(0, 2)]) [(0, .map (keys PG 55) (encM kv_Pin dv_bool y9))])))) (an h18 (an (leni_eq e_str x10.Ports) (an h19 (an R22 h27))))))))))) (by kernel_rfl)
          · have h := Option.some.inj h
            subst h
            exact Runs.path XTok PGmix [.r [], .b true, .r [.el (e_Net x10), .id 3], .r [.val (bA r12)], .b false, .r [.eq 42 (iA (x10.Pins.length : Int))], .b false, .r [.call [(0, 2)] [lT 2 (List.map e_Pin x10.Pins), .v (.c (.fn 64 [.ptr [.sl 2 (List.map e_PartType a0)], .ptr (e_Netlist a1)])), .v (.rt 0)] [(0, .map (keys PG 55) (encM kv_Pin dv_bool y9))] (iA r16.1) [(0, .map (keys PG 55) (encM kv_Pin dv_bool r16.2))]], .r [], .b false, .r [.eq 54 (iA (x10.Ports.length : Int))], .b false, .s q26_f q26_g [] (.nor q26_f' q26_g'), .b false, .r [.eq 70 (iA ((i8 + 1 : Nat) : Int))]] [] (an (lt_true hi) (an (idx_ok e_Net h11) (an (nl_IsPath_ok x10.Name r12 h13) (an h14 (an (leni_eq e_Pin x10.Pins) (an h15 (an (an (nl_checkNetPins_ok x10.Pins 64 [.ptr [.sl 2 (List.map e_PartType a0)], .ptr (e_Netlist a1)] (fun z0 => nl_CheckList_1 z0 a0 a1) (fun z0 r h => nl_CheckList_1_ok z0 a0 a1 r h) y9 r16 h17) (an (Eq.refl ([lT 2 (List.map e_Pin x10.Pins), .v (.c (.fn 64 [.ptr [.sl 2 (List.map e_PartType a0)], .ptr (e_Netlist a1)])), .v (.rt 2)] : List TV)) (Eq.refl (renH (asg [(0, 2)]) [(0, .map (keys PG 55) (encM kv_Pin dv_bool y9))])))) (an h18 (an (leni_eq e_str x10.Ports) (an h19 (an R22 (an h27 (wrap_eq hi hM))))))))))))) (by kernel_rfl)
theorem nl_CheckList_b0_e (a0 : List PartType) (a1 : Netlist) (y9 : List (Pin × Bool)) : Runs PG 71 0 nl_CheckList_c0 (nl_CheckList_F0 a0 a1 (a1.Nets.length) y9) (nl_CheckList_H0 a0 a1 (a1.Nets.length) y9) (nl_CheckList_B0 a0 a1 y9) := by
  exact Runs.path XTok PGmix [.r [], .b false] [] (lt_false (a1.Nets.length)) (by kernel_rfl)
theorem nl_CheckList_l0 (a0 : List PartType) (a1 : Netlist) (y9 : List (Pin × Bool)) (r : Fin' (List (Pin × Bool)) Int) (h : forN (fun i8 s => nl_CheckList_b0 a0 a1 i8 s) (a1.Nets.length) 0 y9 = some r) : Runs PG 71 0 (cL (cR (cL (cR (cR (cR (cR (cR nl_CheckList_c)))))))) (nl_CheckList_F0 a0 a1 0 y9) (nl_CheckList_H0 a0 a1 0 y9) (finOc (nl_CheckList_B0 a0 a1) nl_CheckList_R r) :=
  Runs.loop' (by kernel_rfl) (forN_rounds (σ := (List (Pin × Bool))) (ρ := Int) (body := fun i8 s => nl_CheckList_b0 a0 a1 i8 s) (F := fun i8 s => nl_CheckList_F0 a0 a1 i8 s) (H := fun i8 s => nl_CheckList_H0 a0 a1 i8 s) (B := nl_CheckList_B0 a0 a1) (R := nl_CheckList_R) (M := a1.Nets.length) (fun _ => rfl) (fun _ => rfl) (fun s => nl_CheckList_b0_e a0 a1 s) (fun i s o hi h => nl_CheckList_b0_r a0 a1 i s o hi h) _ 0 _ r (Nat.zero_add _) h)
noncomputable def nl_CheckList (a0 : List PartType) (a1 : Netlist) : Option Int :=
 bnd (nl_CheckTypes a0) fun r1 =>
 cnd (r1 != 0) (some r1) (bnd (nl_checkParts a0 a1.Parts (fun z0 => nl_IsPath z0)) fun r4 =>
 cnd (r4 != 0) (some r4) (cnd (decide ((a1.Nets.length : Int) > 1000)) (some 2) (aft1 (forN (fun i8 s => nl_CheckList_b0 a0 a1 i8 s) (a1.Nets.length) 0 []) (fun u28 =>
 some 0)
 (fun r30 =>
 some r30))))
theorem nl_CheckList_ok (a0 : List PartType) (a1 : Netlist) (r : Int) (h : nl_CheckList a0 a1 = some r) : Spec PG 31 [lT 2 (List.map e_PartType a0), gT (e_Netlist a1)] [] (iA r) [] := by
  unfold nl_CheckList at h
  obtain ⟨r1, h2, h⟩ := bnd_e h
  rcases cnd_e h with ⟨h3, h⟩ | ⟨h3, h⟩
  · have h := Option.some.inj h
    subst h
    exact Spec.path XTok PGmix nl_CheckList_fn 0 [.r [.id 0, .id 1], .r [.val (iA r1)], .r [], .b true, .r []] (an (nl_CheckTypes_ok a0 r1 h2) h3) (by kernel_rfl)
  · obtain ⟨r4, h5, h⟩ := bnd_e h
    rcases cnd_e h with ⟨h6, h⟩ | ⟨h6, h⟩
    · have h := Option.some.inj h
      subst h
      exact Spec.path XTok PGmix nl_CheckList_fn 0 [.r [.id 0, .id 1], .r [.val (iA r1)], .r [], .b false, .r [.val (iA r4)], .r [], .b true, .r []] (an (nl_CheckTypes_ok a0 r1 h2) (an h3 (an (nl_checkParts_ok a0 a1.Parts 62 [] (fun z0 => nl_IsPath z0) (fun z0 r h => nl_IsPath_ok z0 r h) r4 h5) h6))) (by kernel_rfl)
    · rcases cnd_e h with ⟨h7, h⟩ | ⟨h7, h⟩
      · have h := Option.some.inj h
        subst h
        exact Spec.path XTok PGmix nl_CheckList_fn 0 [.r [.id 0, .id 1], .r [.val (iA r1)], .r [], .b false, .r [.val (iA r4)], .r [], .b false, .r [.eq 25 (iA (a1.Nets.length : Int))], .b true, .r []] (an (nl_CheckTypes_ok a0 r1 h2) (an h3 (an (nl_checkParts_ok a0 a1.Parts 62 [] (fun z0 => nl_IsPath z0) (fun z0 r h => nl_IsPath_ok z0 r h) r4 h5) (an h6 (an (leni_eq e_Net a1.Nets) h7))))) (by kernel_rfl)
      · rcases aft1_e h with ⟨u28, h29, h⟩ | ⟨r30, h29, h⟩
        · have h := Option.some.inj h
          subst h
          exact Spec.path XTok PGmix nl_CheckList_fn 0 [.r [.id 0, .id 1], .r [.val (iA r1)], .r [], .b false, .r [.val (iA r4)], .r [], .b false, .r [.eq 25 (iA (a1.Nets.length : Int))], .b false, .r [.id 2], .r [.eq 30 (iA (a1.Nets.length : Int))], .fb 0, .fb 1, .s (nl_CheckList_F0 a0 a1 0 []) (nl_CheckList_H0 a0 a1 0 []) [] (nl_CheckList_B0 a0 a1 u28), .r []] (an (nl_CheckTypes_ok a0 r1 h2) (an h3 (an (nl_checkParts_ok a0 a1.Parts 62 [] (fun z0 => nl_IsPath z0) (fun z0 r h => nl_IsPath_ok z0 r h) r4 h5) (an h6 (an (leni_eq e_Net a1.Nets) (an h7 (an (leni_eq e_Net a1.Nets) (nl_CheckList_l0 a0 a1 [] (.fin u28) h29)))))))) (by kernel_rfl)
        · have h := Option.some.inj h
          subst h
          exact Spec.path XTok PGmix nl_CheckList_fn 0 [.r [.id 0, .id 1], .r [.val (iA r1)], .r [], .b false, .r [.val (iA r4)], .r [], .b false, .r [.eq 25 (iA (a1.Nets.length : Int))], .b false, .r [.id 2], .r [.eq 30 (iA (a1.Nets.length : Int))], .fb 0, .fb 1, .s (nl_CheckList_F0 a0 a1 0 []) (nl_CheckList_H0 a0 a1 0 []) [] (nl_CheckList_R r30)] (an (nl_CheckTypes_ok a0 r1 h2) (an h3 (an (nl_checkParts_ok a0 a1.Parts 62 [] (fun z0 => nl_IsPath z0) (fun z0 r h => nl_IsPath_ok z0 r h) r4 h5) (an h6 (an (leni_eq e_Net a1.Nets) (an h7 (an (leni_eq e_Net a1.Nets) (nl_CheckList_l0 a0 a1 [] (.ret r30) h29)))))))) (by kernel_rfl)

noncomputable def nl_Nets_c : Code := (Go.Proofs.Tryz.f80.body).getD .skip
theorem nl_Nets_fn : FnOk PG 80 nl_Nets_c 30 [.tmp 2] := ⟨⟨Go.Proofs.Tryz.f80, by kernel_rfl, by kernel_rfl, by kernel_rfl, by kernel_rfl, by kernel_rfl⟩⟩
noncomputable def nl_Nets_c0 : Code := cL (cL (cR (cL (cR (cR nl_Nets_c)))))
noncomputable def nl_Nets_R (r : (List (Pin × Int))) : Oc := .ret [(2, .t (.v (.rt 0)))] [(0, .map (keys PG 55) (encM kv_Pin dv_i64 r))]
noncomputable def nl_Nets_c1 : Code := cL (cL (cR (cR (cL (cL (cR (cR nl_Nets_c0)))))))
noncomputable def nl_Nets_F1 (a0 : Netlist) (i1 : Nat) (x3 : Net) (i5 : Nat) (y6 : List (Pin × Int)) : Fr := [(3, .t (.v (.rt 1))), (4, iA (i1 : Int)), (10, lA 3 (List.map e_Net a0.Nets)), (11, iA (a0.Nets.length : Int)), (12, iA (i1 : Int)), (18, lA 2 (List.map e_Pin x3.Pins)), (19, iA (x3.Pins.length : Int)), (20, iA (i5 : Int))]
noncomputable def nl_Nets_H1 (a0 : Netlist) (i1 : Nat) (x3 : Net) (i5 : Nat) (y6 : List (Pin × Int)) : Hp := [(1, .map (keys PG 55) (encM kv_Pin dv_i64 y6))]
noncomputable def nl_Nets_B1 (a0 : Netlist) (i1 : Nat) (x3 : Net) (s : (List (Pin × Int))) : Oc := .ex 2 [(3, .t (.v (.rt 1))), (10, lA 3 (List.map e_Net a0.Nets)), (11, iA (a0.Nets.length : Int)), (12, iA (i1 : Int))] [(1, .map (keys PG 55) (encM kv_Pin dv_i64 s))]
noncomputable def nl_Nets_b1 (a0 : Netlist) (i1 : Nat) (x3 : Net) (i5 : Nat) (y6 : List (Pin × Int)) : Option (Stp (List (Pin × Int)) (List (Pin × Int))) :=
 bnd (atI x3.Pins (i5 : Int)) fun x7 =>
 some (.go (tput y6 x7 (i1 : Int)))
theorem nl_Nets_b1_r (a0 : Netlist) (i1 : Nat) (x3 : Net) (i5 : Nat) (y6 : List (Pin × Int)) (o : Stp (List (Pin × Int)) (List (Pin × Int))) (hi : i5 < x3.Pins.length) (h : nl_Nets_b1 a0 i1 x3 i5 y6 = some o) :
    Runs PG 30 0 nl_Nets_c1 (nl_Nets_F1 a0 i1 x3 i5 y6) (nl_Nets_H1 a0 i1 x3 i5 y6) (stpOc (fun s' => .nor (nl_Nets_F1 a0 i1 x3 (i5 + 1) s') (nl_Nets_H1 a0 i1 x3 (i5 + 1) s')) (nl_Nets_B1 a0 i1 x3) nl_Nets_R o) := by
  unfold nl_Nets_b1 at h
  refine Runs.len (s := 18) (sz := 2) (xs := List.map e_Pin x3.Pins) (by kernel_rfl) fun hl => ?_
  have hM : x3.Pins.length ≤ lim := len_of hl
  obtain ⟨x7, h8, h⟩ := bnd_e h
  have h := Option.some.inj h
  subst h
  exact Runs.path XTok PGmix [.r [], .b true, .r [.el (e_Pin x7), .id 2], .r [.es (encM kv_Pin dv_i64 (tput y6 x7 (i1 : Int)))], .r [.eq 27 (iA ((i5 + 1 : Nat) : Int))]] [] (an (lt_true hi) (an (idx_ok e_Pin h8) (an (an kd_Pin (an (Eq.refl (keys PG 55)) (an (kf_Pin x7) (put_ok dv_i64 ki_Pin y6 x7 (i1 : Int))))) (wrap_eq hi hM)))) (by kernel_rfl)
theorem nl_Nets_b1_e (a0 : Netlist) (i1 : Nat) (x3 : Net) (y6 : List (Pin × Int)) : Runs PG 30 0 nl_Nets_c1 (nl_Nets_F1 a0 i1 x3 (x3.Pins.length) y6) (nl_Nets_H1 a0 i1 x3 (x3.Pins.length) y6) (nl_Nets_B1 a0 i1 x3 y6) := by
  exact Runs.path XTok PGmix [.r [], .b false] [] (lt_false (x3.Pins.length)) (by kernel_rfl)
theorem nl_Nets_l1 (a0 : Netlist) (i1 : Nat) (x3 : Net) (y6 : List (Pin × Int)) (r : Fin' (List (Pin × Int)) (List (Pin × Int))) (h : forN (fun i5 s => nl_Nets_b1 a0 i1 x3 i5 s) (x3.Pins.length) 0 y6 = some r) : Runs PG 30 0 (cL (cR (cR (cL (cL (cR (cR nl_Nets_c0))))))) (nl_Nets_F1 a0 i1 x3 0 y6) (nl_Nets_H1 a0 i1 x3 0 y6) (finOc (nl_Nets_B1 a0 i1 x3) nl_Nets_R r) :=
  Runs.loop' (by kernel_rfl) (forN_rounds (σ := (List (Pin × Int))) (ρ := (List (Pin × Int))) (body := fun i5 s => nl_Nets_b1 a0 i1 x3 i5 s) (F := fun i5 s => nl_Nets_F1 a0 i1 x3 i5 s) (H := fun i5 s => nl_Nets_H1 a0 i1 x3 i5 s) (B := nl_Nets_B1 a0 i1 x3) (R := nl_Nets_R) (M := x3.Pins.length) (fun _ => rfl) (fun _ => rfl) (fun s => nl_Nets_b1_e a0 i1 x3 s) (fun i s o hi h => nl_Nets_b1_r a0 i1 x3 i s o hi h) _ 0 _ r (Nat.zero_add _) h)
noncomputable def nl_Nets_F0 (a0 : Netlist) (i1 : Nat) (y2 : List (Pin × Int)) : Fr := [(3, .t (.v (.rt 1))), (10, lA 3 (List.map e_Net a0.Nets)), (11, iA (a0.Nets.length : Int)), (12, iA (i1 : Int))]
noncomputable def nl_Nets_H0 (a0 : Netlist) (i1 : Nat) (y2 : List (Pin × Int)) : Hp := [(1, .map (keys PG 55) (encM kv_Pin dv_i64 y2))]
noncomputable def nl_Nets_B0 (a0 : Netlist) (s : (List (Pin × Int))) : Oc := .ex 0 [(3, .t (.v (.rt 1)))] [(1, .map (keys PG 55) (encM kv_Pin dv_i64 s))]
noncomputable def nl_Nets_b0 (a0 : Netlist) (i1 : Nat) (y2 : List (Pin × Int)) : Option (Stp (List (Pin × Int)) (List (Pin × Int))) :=
 bnd (atI a0.Nets (i1 : Int)) fun x3 =>
 aft1 (forN (fun i5 s => nl_Nets_b1 a0 i1 x3 i5 s) (x3.Pins.length) 0 y2) (fun u9 =>
 some (.go u9))
 (fun r11 =>
 some (.ret r11))
theorem nl_Nets_b0_r (a0 : Netlist) (i1 : Nat) (y2 : List (Pin × Int)) (o : Stp (List (Pin × Int)) (List (Pin × Int))) (hi : i1 < a0.Nets.length) (h : nl_Nets_b0 a0 i1 y2 = some o) :
    Runs PG 30 0 nl_Nets_c0 (nl_Nets_F0 a0 i1 y2) (nl_Nets_H0 a0 i1 y2) (stpOc (fun s' => .nor (nl_Nets_F0 a0 (i1 + 1) s') (nl_Nets_H0 a0 (i1 + 1) s')) (nl_Nets_B0 a0) nl_Nets_R o) := by
  unfold nl_Nets_b0 at h
  refine Runs.len (s := 10) (sz := 3) (xs := List.map e_Net a0.Nets) (by kernel_rfl) fun hl => ?_
  have hM : a0.Nets.length ≤ lim := len_of hl
  obtain ⟨x3, h4, h⟩ := bnd_e h
  rcases aft1_e h with ⟨u9, h10, h⟩ | ⟨r11, h10, h⟩
  · have h := Option.some.inj h
    subst h
    exact Runs.path XTok PGmix [.r [], .b true, .r [.el (e_Net x3), .id 2], .r [.eq 19 (iA (x3.Pins.length : Int))], .s (nl_Nets_F1 a0 i1 x3 0 y2) (nl_Nets_H1 a0 i1 x3 0 y2) [] (nl_Nets_B1 a0 i1 x3 u9), .r [.eq 28 (iA ((i1 + 1 : Nat) : Int))]] [] (an (lt_true hi) (an (idx_ok e_Net h4) (an (leni_eq e_Pin x3.Pins) (an (nl_Nets_l1 a0 i1 x3 y2 (.fin u9) h10) (wrap_eq hi hM))))) (by kernel_rfl)
  · have h := Option.some.inj h
    subst h
    exact Runs.path XTok PGmix [.r [], .b true, .r [.el (e_Net x3), .id 2], .r [.eq 19 (iA (x3.Pins.length : Int))], .s (nl_Nets_F1 a0 i1 x3 0 y2) (nl_Nets_H1 a0 i1 x3 0 y2) [] (nl_Nets_R r11)] [] (an (lt_true hi) (an (idx_ok e_Net h4) (an (leni_eq e_Pin x3.Pins) (nl_Nets_l1 a0 i1 x3 y2 (.ret r11) h10)))) (by kernel_rfl)
theorem nl_Nets_b0_e (a0 : Netlist) (y2 : List (Pin × Int)) : Runs PG 30 0 nl_Nets_c0 (nl_Nets_F0 a0 (a0.Nets.length) y2) (nl_Nets_H0 a0 (a0.Nets.length) y2) (nl_Nets_B0 a0 y2) := by
  exact Runs.path XTok PGmix [.r [], .b false] [] (lt_false (a0.Nets.length)) (by kernel_rfl)
theorem nl_Nets_l0 (a0 : Netlist) (y2 : List (Pin × Int)) (r : Fin' (List (Pin × Int)) (List (Pin × Int))) (h : forN (fun i1 s => nl_Nets_b0 a0 i1 s) (a0.Nets.length) 0 y2 = some r) : Runs PG 30 0 (cL (cR (cL (cR (cR nl_Nets_c))))) (nl_Nets_F0 a0 0 y2) (nl_Nets_H0 a0 0 y2) (finOc (nl_Nets_B0 a0) nl_Nets_R r) :=
  Runs.loop' (by kernel_rfl) (forN_rounds (σ := (List (Pin × Int))) (ρ := (List (Pin × Int))) (body := fun i1 s => nl_Nets_b0 a0 i1 s) (F := fun i1 s => nl_Nets_F0 a0 i1 s) (H := fun i1 s => nl_Nets_H0 a0 i1 s) (B := nl_Nets_B0 a0) (R := nl_Nets_R) (M := a0.Nets.length) (fun _ => rfl) (fun _ => rfl) (fun s => nl_Nets_b0_e a0 s) (fun i s o hi h => nl_Nets_b0_r a0 i s o hi h) _ 0 _ r (Nat.zero_add _) h)
noncomputable def nl_Nets (a0 : Netlist) : Option ((List (Pin × Int))) :=
 aft1 (forN (fun i1 s => nl_Nets_b0 a0 i1 s) (a0.Nets.length) 0 []) (fun u12 =>
 some u12)
 (fun r14 =>
 some r14)
theorem nl_Nets_ok (a0 : Netlist) (r : (List (Pin × Int))) (h : nl_Nets a0 = some r) : Spec PG 80 [gT (e_Netlist a0)] [] (.t (.v (.rt 0))) [(0, .map (keys PG 55) (encM kv_Pin dv_i64 r))] := by
  unfold nl_Nets at h
  rcases aft1_e h with ⟨u12, h13, h⟩ | ⟨r14, h13, h⟩
  · have h := Option.some.inj h
    subst h
    exact Spec.path XTok PGmix nl_Nets_fn 0 [.r [.id 0], .r [.id 1], .r [.eq 11 (iA (a0.Nets.length : Int))], .s (nl_Nets_F0 a0 0 []) (nl_Nets_H0 a0 0 []) [] (nl_Nets_B0 a0 u12), .r [], .w [(2, .t (.v (.rt 0)))] [(0, .map (keys PG 55) (encM kv_Pin dv_i64 u12))] [(0, 1)]] (an (leni_eq e_Net a0.Nets) (nl_Nets_l0 a0 [] (.fin u12) h13)) (by kernel_rfl)
  · have h := Option.some.inj h
    subst h
    exact Spec.path XTok PGmix nl_Nets_fn 0 [.r [.id 0], .r [.id 1], .r [.eq 11 (iA (a0.Nets.length : Int))], .s (nl_Nets_F0 a0 0 []) (nl_Nets_H0 a0 0 []) [] (nl_Nets_R r14)] (an (leni_eq e_Net a0.Nets) (nl_Nets_l0 a0 [] (.ret r14) h13)) (by kernel_rfl)

noncomputable def nl_pinsOf_c : Code := (Go.Proofs.Tryz.f81.body).getD .skip
theorem nl_pinsOf_fn : FnOk PG 81 nl_pinsOf_c 31 [.tmp 4] := ⟨⟨Go.Proofs.Tryz.f81, by kernel_rfl, by kernel_rfl, by kernel_rfl, by kernel_rfl, by kernel_rfl⟩⟩
noncomputable def nl_pinsOf_c0 : Code := cL (cL (cR (cL (cR (cR nl_pinsOf_c)))))
noncomputable def nl_pinsOf_R (r : List Pin) : Oc := .ret [(4, lA 2 (List.map e_Pin r))] []
noncomputable def nl_pinsOf_F0 (a1 : Part) (x3 : PartType) (i5 : Nat) (y6 : List Pin) : Fr := [(3, .t (.v (.ptr 0 0))), (5, .t (.v (.rt 1))), (15, lA 3 (List.map e_PinType x3.Pins)), (16, iA (x3.Pins.length : Int)), (17, iA (i5 : Int))]
noncomputable def nl_pinsOf_H0 (a1 : Part) (x3 : PartType) (i5 : Nat) (y6 : List Pin) : Hp := [(0, .cells 43 [.c (sC a1.Name), .c (sC a1.Type_)]), (1, .row 55 2 (List.map e_Pin y6))]
noncomputable def nl_pinsOf_B0 (a1 : Part) (x3 : PartType) (s : List Pin) : Oc := .ex 0 [(5, .t (.v (.rt 1)))] [(1, .row 55 2 (List.map e_Pin s))]
noncomputable def nl_pinsOf_b0 (a1 : Part) (x3 : PartType) (i5 : Nat) (y6 : List Pin) : Option (Stp (List Pin) (List Pin)) :=
 bnd (atI x3.Pins (i5 : Int)) fun x7 =>
 grd (y6.length + [(⟨a1.Name, x7.Name⟩ : Pin)].length ≤ lim) <|
 some (.go (y6 ++ [(⟨a1.Name, x7.Name⟩ : Pin)]))
theorem nl_pinsOf_b0_r (a1 : Part) (x3 : PartType) (i5 : Nat) (y6 : List Pin) (o : Stp (List Pin) (List Pin)) (hi : i5 < x3.Pins.length) (h : nl_pinsOf_b0 a1 x3 i5 y6 = some o) :
    Runs PG 31 0 nl_pinsOf_c0 (nl_pinsOf_F0 a1 x3 i5 y6) (nl_pinsOf_H0 a1 x3 i5 y6) (stpOc (fun s' => .nor (nl_pinsOf_F0 a1 x3 (i5 + 1) s') (nl_pinsOf_H0 a1 x3 (i5 + 1) s')) (nl_pinsOf_B0 a1 x3) nl_pinsOf_R o) := by
  unfold nl_pinsOf_b0 at h
  refine Runs.len (s := 15) (sz := 3) (xs := List.map e_PinType x3.Pins) (by kernel_rfl) fun hl => ?_
  have hM : x3.Pins.length ≤ lim := len_of hl
  obtain ⟨x7, h8, h⟩ := bnd_e h
  obtain ⟨h9, h⟩ := grd_e h
  have h := Option.some.inj h
  subst h
  exact Runs.path XTok PGmix [.r [], .b true, .r [.el (e_PinType x7), .id 2], .r [.id 3, .row (List.map e_Pin [(⟨a1.Name, x7.Name⟩ : Pin)]), .id 4, .row (List.map e_Pin (y6 ++ [(⟨a1.Name, x7.Name⟩ : Pin)]))], .r [.eq 29 (iA ((i5 + 1 : Nat) : Int))]] [(1, 4)] (an (lt_true hi) (an (idx_ok e_PinType h8) (an (Eq.refl (List.flatten (List.map e_Pin [(⟨a1.Name, x7.Name⟩ : Pin)]))) (an (app_ok e_Pin h9) (wrap_eq hi hM))))) (by kernel_rfl)
theorem nl_pinsOf_b0_e (a1 : Part) (x3 : PartType) (y6 : List Pin) : Runs PG 31 0 nl_pinsOf_c0 (nl_pinsOf_F0 a1 x3 (x3.Pins.length) y6) (nl_pinsOf_H0 a1 x3 (x3.Pins.length) y6) (nl_pinsOf_B0 a1 x3 y6) := by
  exact Runs.path XTok PGmix [.r [], .b false] [] (lt_false (x3.Pins.length)) (by kernel_rfl)
theorem nl_pinsOf_l0 (a1 : Part) (x3 : PartType) (y6 : List Pin) (r : Fin' (List Pin) (List Pin)) (h : forN (fun i5 s => nl_pinsOf_b0 a1 x3 i5 s) (x3.Pins.length) 0 y6 = some r) : Runs PG 31 0 (cL (cR (cL (cR (cR nl_pinsOf_c))))) (nl_pinsOf_F0 a1 x3 0 y6) (nl_pinsOf_H0 a1 x3 0 y6) (finOc (nl_pinsOf_B0 a1 x3) nl_pinsOf_R r) :=
  Runs.loop' (by kernel_rfl) (forN_rounds (σ := (List Pin)) (ρ := (List Pin)) (body := fun i5 s => nl_pinsOf_b0 a1 x3 i5 s) (F := fun i5 s => nl_pinsOf_F0 a1 x3 i5 s) (H := fun i5 s => nl_pinsOf_H0 a1 x3 i5 s) (B := nl_pinsOf_B0 a1 x3) (R := nl_pinsOf_R) (M := x3.Pins.length) (fun _ => rfl) (fun _ => rfl) (fun s => nl_pinsOf_b0_e a1 x3 s) (fun i s o hi h => nl_pinsOf_b0_r a1 x3 i s o hi h) _ 0 _ r (Nat.zero_add _) h)
noncomputable def nl_pinsOf (a0 : List PartType) (a1 : Part) : Option (List Pin) :=
 bnd (nl_TypeAt a0 a1.Type_) fun r1 =>
 bnd (atI a0 r1) fun x3 =>
 aft1 (forN (fun i5 s => nl_pinsOf_b0 a1 x3 i5 s) (x3.Pins.length) 0 []) (fun u10 =>
 some u10)
 (fun r12 =>
 some r12)
theorem nl_pinsOf_ok (a0 : List PartType) (a1 : Part) (r : List Pin) (h : nl_pinsOf a0 a1 = some r) : Spec PG 81 [lT 2 (List.map e_PartType a0), gT (e_Part a1)] [] (lA 2 (List.map e_Pin r)) [] := by
  unfold nl_pinsOf at h
  obtain ⟨r1, h2, h⟩ := bnd_e h
  obtain ⟨x3, h4, h⟩ := bnd_e h
  rcases aft1_e h with ⟨u10, h11, h⟩ | ⟨r12, h11, h⟩
  · have h := Option.some.inj h
    subst h
    exact Spec.path XTok PGmix nl_pinsOf_fn 0 [.r [.id 0, .nl 2], .r [.mk 1 55 2], .r [.val (iA r1), .el (e_PartType x3), .eq 16 (iA (x3.Pins.length : Int))], .s (nl_pinsOf_F0 a1 x3 0 []) (nl_pinsOf_H0 a1 x3 0 []) [] (nl_pinsOf_B0 a1 x3 u10), .r [], .f 1] (an (nl_TypeAt_ok a0 a1.Type_ r1 h2) (an (idx_ok e_PartType h4) (an (leni_eq e_PinType x3.Pins) (nl_pinsOf_l0 a1 x3 [] (.fin u10) h11)))) (by kernel_rfl)
  · have h := Option.some.inj h
    subst h
    exact Spec.path XTok PGmix nl_pinsOf_fn 0 [.r [.id 0, .nl 2], .r [.mk 1 55 2], .r [.val (iA r1), .el (e_PartType x3), .eq 16 (iA (x3.Pins.length : Int))], .s (nl_pinsOf_F0 a1 x3 0 []) (nl_pinsOf_H0 a1 x3 0 []) [] (nl_pinsOf_R r12)] (an (nl_TypeAt_ok a0 a1.Type_ r1 h2) (an (idx_ok e_PartType h4) (an (leni_eq e_PinType x3.Pins) (nl_pinsOf_l0 a1 x3 [] (.ret r12) h11)))) (by kernel_rfl)

noncomputable def nl_LooseOf_c : Code := (Go.Proofs.Tryz.f59.body).getD .skip
theorem nl_LooseOf_fn : FnOk PG 59 nl_LooseOf_c 45 [.tmp 4] := ⟨⟨Go.Proofs.Tryz.f59, by kernel_rfl, by kernel_rfl, by kernel_rfl, by kernel_rfl, by kernel_rfl⟩⟩
noncomputable def nl_LooseOf_c0 : Code := cL (cL (cR (cL (cR (cR (cR nl_LooseOf_c))))))
noncomputable def nl_LooseOf_R (r : List Pin) : Oc := .ret [(4, lA 2 (List.map e_Pin r))] []
noncomputable def nl_LooseOf_c1 : Code := cL (cL (cR (cR (cL (cL (cR (cR nl_LooseOf_c0)))))))
noncomputable def nl_LooseOf_F1 (a0 : List PartType) (a1 : Netlist) (r1 : (List (Pin × Int))) (i3 : Nat) (r7 : List Pin) (i9 : Nat) (y10 : List Pin) : Fr := [(0, lA 2 (List.map e_PartType a0)), (5, .t (.v (.rt 1))), (6, .t (.v (.rt 2))), (16, lA 2 (List.map e_Part a1.Parts)), (17, iA (a1.Parts.length : Int)), (18, iA (i3 : Int)), (24, lA 2 (List.map e_Pin r7)), (25, iA (r7.length : Int)), (26, iA (i9 : Int))]
noncomputable def nl_LooseOf_H1 (a0 : List PartType) (a1 : Netlist) (r1 : (List (Pin × Int))) (i3 : Nat) (r7 : List Pin) (i9 : Nat) (y10 : List Pin) : Hp := [(1, .map (keys PG 55) (encM kv_Pin dv_i64 r1)), (2, .row 55 2 (List.map e_Pin y10))]
noncomputable def nl_LooseOf_B1 (a0 : List PartType) (a1 : Netlist) (r1 : (List (Pin × Int))) (i3 : Nat) (r7 : List Pin) (s : List Pin) : Oc := .ex 2 [(0, lA 2 (List.map e_PartType a0)), (5, .t (.v (.rt 1))), (6, .t (.v (.rt 2))), (16, lA 2 (List.map e_Part a1.Parts)), (17, iA (a1.Parts.length : Int)), (18, iA (i3 : Int))] [(1, .map (keys PG 55) (encM kv_Pin dv_i64 r1)), (2, .row 55 2 (List.map e_Pin s))]
noncomputable def nl_LooseOf_b1 (a0 : List PartType) (a1 : Netlist) (r1 : (List (Pin × Int))) (i3 : Nat) (r7 : List Pin) (i9 : Nat) (y10 : List Pin) : Option (Stp (List Pin) (List Pin)) :=
 bnd (atI r7 (i9 : Int)) fun x11 =>
 bnd1 (opt (tlook r1 x11) (fun v16 =>
 some true) (some false)) fun v13 =>
 bnd1 (cnd (!v13) (grd (y10.length + [x11].length ≤ lim) <|
 some (y10 ++ [x11])) (some y10)) fun v19 =>
 some (.go v19)
theorem nl_LooseOf_b1_r (a0 : List PartType) (a1 : Netlist) (r1 : (List (Pin × Int))) (i3 : Nat) (r7 : List Pin) (i9 : Nat) (y10 : List Pin) (o : Stp (List Pin) (List Pin)) (hi : i9 < r7.length) (h : nl_LooseOf_b1 a0 a1 r1 i3 r7 i9 y10 = some o) :
    Runs PG 45 0 nl_LooseOf_c1 (nl_LooseOf_F1 a0 a1 r1 i3 r7 i9 y10) (nl_LooseOf_H1 a0 a1 r1 i3 r7 i9 y10) (stpOc (fun s' => .nor (nl_LooseOf_F1 a0 a1 r1 i3 r7 (i9 + 1) s') (nl_LooseOf_H1 a0 a1 r1 i3 r7 (i9 + 1) s')) (nl_LooseOf_B1 a0 a1 r1 i3 r7) nl_LooseOf_R o) := by
  unfold nl_LooseOf_b1 at h
  refine Runs.len (s := 24) (sz := 2) (xs := List.map e_Pin r7) (by kernel_rfl) fun hl => ?_
  have hM : r7.length ≤ lim := len_of hl
  obtain ⟨x11, h12, h⟩ := bnd_e h
  obtain ⟨v13, h14, h⟩ := bnd1_e h
  let q18_f : Fr := [(0, lA 2 (List.map e_PartType a0)), (5, .t (.v (.rt 1))), (6, .t (.v (.rt 2))), (10, .t (.v (.ptr 3 0))), (16, lA 2 (List.map e_Part a1.Parts)), (17, iA (a1.Parts.length : Int)), (18, iA (i3 : Int)), (24, lA 2 (List.map e_Pin r7)), (25, iA (r7.length : Int)), (26, iA (i9 : Int))]
  let q18_g : Hp := [(1, .map (keys PG 55) (encM kv_Pin dv_i64 r1)), (2, .row 55 2 (List.map e_Pin y10)), (3, .cells 55 [.c (sC x11.Part), .c (sC x11.Pin)])]
  let q18_f' : Fr := [(0, lA 2 (List.map e_PartType a0)), (5, .t (.v (.rt 1))), (6, .t (.v (.rt 2))), (10, .t (.v (.ptr 3 0))), (16, lA 2 (List.map e_Part a1.Parts)), (17, iA (a1.Parts.length : Int)), (18, iA (i3 : Int)), (24, lA 2 (List.map e_Pin r7)), (25, iA (r7.length : Int)), (26, iA (i9 : Int)), (12, bA v13)]
  let q18_g' : Hp := [(1, .map (keys PG 55) (encM kv_Pin dv_i64 r1)), (2, .row 55 2 (List.map e_Pin y10)), (3, .cells 55 [.c (sC x11.Part), .c (sC x11.Pin)])]
  have R15 : Runs PG 45 0 (cL (cR (cL (cL (cR (cR nl_LooseOf_c1)))))) q18_f q18_g (.nor q18_f' q18_g') := by
    rcases opt_e h14 with ⟨v16, h17, h14⟩ | ⟨h17, h14⟩
    · have h14 := Option.some.inj h14
      subst h14
      exact Runs.path XTok PGmix [.r [.look (some (dv_i64 v16))]] [] (an kd_Pin (an (Eq.refl (keys PG 55)) (an (kf_Pin x11) (tl_some dv_i64 ki_Pin h17)))) (by kernel_rfl)
    · have h14 := Option.some.inj h14
      subst h14
      exact Runs.path XTok PGmix [.r [.look (none)]] [] (an kd_Pin (an (Eq.refl (keys PG 55)) (an (kf_Pin x11) (tl_none dv_i64 ki_Pin h17)))) (by kernel_rfl)
  obtain ⟨v19, h20, h⟩ := bnd1_e h
  let q24_f : Fr := [(0, lA 2 (List.map e_PartType a0)), (5, .t (.v (.rt 1))), (6, .t (.v (.rt 2))), (10, .t (.v (.ptr 3 0))), (16, lA 2 (List.map e_Part a1.Parts)), (17, iA (a1.Parts.length : Int)), (18, iA (i3 : Int)), (24, lA 2 (List.map e_Pin r7)), (25, iA (r7.length : Int)), (26, iA (i9 : Int)), (37, bA (!v13))]
  let q24_g : Hp := [(1, .map (keys PG 55) (encM kv_Pin dv_i64 r1)), (2, .row 55 2 (List.map e_Pin y10)), (3, .cells 55 [.c (sC x11.Part), .c (sC x11.Pin)])]
  let q24_f' : Fr := [(0, lA 2 (List.map e_PartType a0)), (5, .t (.v (.rt 1))), (6, .t (.v (.rt 5))), (16, lA 2 (List.map e_Part a1.Parts)), (17, iA (a1.Parts.length : Int)), (18, iA (i3 : Int)), (24, lA 2 (List.map e_Pin r7)), (25, iA (r7.length : Int)), (26, iA (i9 : Int))]
  let q24_g' : Hp := [(1, .map (keys PG 55) (encM kv_Pin dv_i64 r1)), (5, .row 55 2 (List.map e_Pin v19))]
  have R21 : Runs PG 45 0 (cR (cR (cR (cL (cL (cR (cR nl_LooseOf_c1))))))) q24_f q24_g (.nor q24_f' q24_g') := by
    rcases cnd_e h20 with ⟨h22, h20⟩ | ⟨h22, h20⟩
    · obtain ⟨h23, h20⟩ := grd_e h20
      have h20 := Option.some.inj h20
      subst h20
      exact Runs.path XTok PGmix [.b true, .r [.id 4, .row (List.map e_Pin [x11]), .id 5, .row (List.map e_Pin (y10 ++ [x11]))]] [] (an h22 (an (Eq.refl (List.flatten (List.map e_Pin [x11]))) (app_ok e_Pin h23))) (by kernel_rfl)
    · have h20 := Option.some.inj h20
      subst h20
      exact Runs.path XTok PGmix [.b false] [(5, 2)] h22 (by kernel_rfl)
  have h := Option.some.inj h
  subst h
  exact Runs.path XTok PGmix [.r [], .b true, .r [.el (e_Pin x11), .id 3], .s q18_f q18_g [] (.nor q18_f' q18_g'), .r [], .s q24_f q24_g [] (.nor q24_f' q24_g'), .r [.eq 42 (iA ((i9 + 1 : Nat) : Int))]] [(2, 5)] (an (lt_true hi) (an (idx_ok e_Pin h12) (an R15 (an R21 (wrap_eq hi hM))))) (by kernel_rfl)
theorem nl_LooseOf_b1_e (a0 : List PartType) (a1 : Netlist) (r1 : (List (Pin × Int))) (i3 : Nat) (r7 : List Pin) (y10 : List Pin) : Runs PG 45 0 nl_LooseOf_c1 (nl_LooseOf_F1 a0 a1 r1 i3 r7 (r7.length) y10) (nl_LooseOf_H1 a0 a1 r1 i3 r7 (r7.length) y10) (nl_LooseOf_B1 a0 a1 r1 i3 r7 y10) := by
  exact Runs.path XTok PGmix [.r [], .b false] [] (lt_false (r7.length)) (by kernel_rfl)
theorem nl_LooseOf_l1 (a0 : List PartType) (a1 : Netlist) (r1 : (List (Pin × Int))) (i3 : Nat) (r7 : List Pin) (y10 : List Pin) (r : Fin' (List Pin) (List Pin)) (h : forN (fun i9 s => nl_LooseOf_b1 a0 a1 r1 i3 r7 i9 s) (r7.length) 0 y10 = some r) : Runs PG 45 0 (cL (cR (cR (cL (cL (cR (cR nl_LooseOf_c0))))))) (nl_LooseOf_F1 a0 a1 r1 i3 r7 0 y10) (nl_LooseOf_H1 a0 a1 r1 i3 r7 0 y10) (finOc (nl_LooseOf_B1 a0 a1 r1 i3 r7) nl_LooseOf_R r) :=
  Runs.loop' (by kernel_rfl) (forN_rounds (σ := (List Pin)) (ρ := (List Pin)) (body := fun i9 s => nl_LooseOf_b1 a0 a1 r1 i3 r7 i9 s) (F := fun i9 s => nl_LooseOf_F1 a0 a1 r1 i3 r7 i9 s) (H := fun i9 s => nl_LooseOf_H1 a0 a1 r1 i3 r7 i9 s) (B := nl_LooseOf_B1 a0 a1 r1 i3 r7) (R := nl_LooseOf_R) (M := r7.length) (fun _ => rfl) (fun _ => rfl) (fun s => nl_LooseOf_b1_e a0 a1 r1 i3 r7 s) (fun i s o hi h => nl_LooseOf_b1_r a0 a1 r1 i3 r7 i s o hi h) _ 0 _ r (Nat.zero_add _) h)
noncomputable def nl_LooseOf_F0 (a0 : List PartType) (a1 : Netlist) (r1 : (List (Pin × Int))) (i3 : Nat) (y4 : List Pin) : Fr := [(0, lA 2 (List.map e_PartType a0)), (5, .t (.v (.rt 1))), (6, .t (.v (.rt 2))), (16, lA 2 (List.map e_Part a1.Parts)), (17, iA (a1.Parts.length : Int)), (18, iA (i3 : Int))]
noncomputable def nl_LooseOf_H0 (a0 : List PartType) (a1 : Netlist) (r1 : (List (Pin × Int))) (i3 : Nat) (y4 : List Pin) : Hp := [(1, .map (keys PG 55) (encM kv_Pin dv_i64 r1)), (2, .row 55 2 (List.map e_Pin y4))]
noncomputable def nl_LooseOf_B0 (a0 : List PartType) (a1 : Netlist) (r1 : (List (Pin × Int))) (s : List Pin) : Oc := .ex 0 [(6, .t (.v (.rt 2)))] [(2, .row 55 2 (List.map e_Pin s))]
noncomputable def nl_LooseOf_b0 (a0 : List PartType) (a1 : Netlist) (r1 : (List (Pin × Int))) (i3 : Nat) (y4 : List Pin) : Option (Stp (List Pin) (List Pin)) :=
 bnd (atI a1.Parts (i3 : Int)) fun x5 =>
 bnd (nl_pinsOf a0 x5) fun r7 =>
 aft1 (forN (fun i9 s => nl_LooseOf_b1 a0 a1 r1 i3 r7 i9 s) (r7.length) 0 y4) (fun u25 =>
 some (.go u25))
 (fun r27 =>
 some (.ret r27))
theorem nl_LooseOf_b0_r (a0 : List PartType) (a1 : Netlist) (r1 : (List (Pin × Int))) (i3 : Nat) (y4 : List Pin) (o : Stp (List Pin) (List Pin)) (hi : i3 < a1.Parts.length) (h : nl_LooseOf_b0 a0 a1 r1 i3 y4 = some o) :
    Runs PG 45 0 nl_LooseOf_c0 (nl_LooseOf_F0 a0 a1 r1 i3 y4) (nl_LooseOf_H0 a0 a1 r1 i3 y4) (stpOc (fun s' => .nor (nl_LooseOf_F0 a0 a1 r1 (i3 + 1) s') (nl_LooseOf_H0 a0 a1 r1 (i3 + 1) s')) (nl_LooseOf_B0 a0 a1 r1) nl_LooseOf_R o) := by
  unfold nl_LooseOf_b0 at h
  refine Runs.len (s := 16) (sz := 2) (xs := List.map e_Part a1.Parts) (by kernel_rfl) fun hl => ?_
  have hM : a1.Parts.length ≤ lim := len_of hl
  obtain ⟨x5, h6, h⟩ := bnd_e h
  obtain ⟨r7, h8, h⟩ := bnd_e h
  rcases aft1_e h with ⟨u25, h26, h⟩ | ⟨r27, h26, h⟩
  · have h := Option.some.inj h
    subst h
    exact Runs.path XTok PGmix [.r [], .b true, .r [.el (e_Part x5), .id 3], .r [.val (lA 2 (List.map e_Pin r7)), .eq 25 (iA (r7.length : Int))], .s (nl_LooseOf_F1 a0 a1 r1 i3 r7 0 y4) (nl_LooseOf_H1 a0 a1 r1 i3 r7 0 y4) [] (nl_LooseOf_B1 a0 a1 r1 i3 r7 u25), .r [.eq 43 (iA ((i3 + 1 : Nat) : Int))]] [] (an (lt_true hi) (an (idx_ok e_Part h6) (an (nl_pinsOf_ok a0 x5 r7 h8) (an (leni_eq e_Pin r7) (an (nl_LooseOf_l1 a0 a1 r1 i3 r7 y4 (.fin u25) h26) (wrap_eq hi hM)))))) (by kernel_rfl)
  · have h := Option.some.inj h
    subst h
    exact Runs.path XTok PGmix [.r [], .b true, .r [.el (e_Part x5), .id 3], .r [.val (lA 2 (List.map e_Pin r7)), .eq 25 (iA (r7.length : Int))], .s (nl_LooseOf_F1 a0 a1 r1 i3 r7 0 y4) (nl_LooseOf_H1 a0 a1 r1 i3 r7 0 y4) [] (nl_LooseOf_R r27)] [] (an (lt_true hi) (an (idx_ok e_Part h6) (an (nl_pinsOf_ok a0 x5 r7 h8) (an (leni_eq e_Pin r7) (nl_LooseOf_l1 a0 a1 r1 i3 r7 y4 (.ret r27) h26))))) (by kernel_rfl)
theorem nl_LooseOf_b0_e (a0 : List PartType) (a1 : Netlist) (r1 : (List (Pin × Int))) (y4 : List Pin) : Runs PG 45 0 nl_LooseOf_c0 (nl_LooseOf_F0 a0 a1 r1 (a1.Parts.length) y4) (nl_LooseOf_H0 a0 a1 r1 (a1.Parts.length) y4) (nl_LooseOf_B0 a0 a1 r1 y4) := by
  exact Runs.path XTok PGmix [.r [], .b false] [] (lt_false (a1.Parts.length)) (by kernel_rfl)
theorem nl_LooseOf_l0 (a0 : List PartType) (a1 : Netlist) (r1 : (List (Pin × Int))) (y4 : List Pin) (r : Fin' (List Pin) (List Pin)) (h : forN (fun i3 s => nl_LooseOf_b0 a0 a1 r1 i3 s) (a1.Parts.length) 0 y4 = some r) : Runs PG 45 0 (cL (cR (cL (cR (cR (cR nl_LooseOf_c)))))) (nl_LooseOf_F0 a0 a1 r1 0 y4) (nl_LooseOf_H0 a0 a1 r1 0 y4) (finOc (nl_LooseOf_B0 a0 a1 r1) nl_LooseOf_R r) :=
  Runs.loop' (by kernel_rfl) (forN_rounds (σ := (List Pin)) (ρ := (List Pin)) (body := fun i3 s => nl_LooseOf_b0 a0 a1 r1 i3 s) (F := fun i3 s => nl_LooseOf_F0 a0 a1 r1 i3 s) (H := fun i3 s => nl_LooseOf_H0 a0 a1 r1 i3 s) (B := nl_LooseOf_B0 a0 a1 r1) (R := nl_LooseOf_R) (M := a1.Parts.length) (fun _ => rfl) (fun _ => rfl) (fun s => nl_LooseOf_b0_e a0 a1 r1 s) (fun i s o hi h => nl_LooseOf_b0_r a0 a1 r1 i s o hi h) _ 0 _ r (Nat.zero_add _) h)
noncomputable def nl_LooseOf (a0 : List PartType) (a1 : Netlist) : Option (List Pin) :=
 bnd (nl_Nets a1) fun r1 =>
 aft1 (forN (fun i3 s => nl_LooseOf_b0 a0 a1 r1 i3 s) (a1.Parts.length) 0 []) (fun u28 =>
 some u28)
 (fun r30 =>
 some r30)
theorem nl_LooseOf_ok (a0 : List PartType) (a1 : Netlist) (r : List Pin) (h : nl_LooseOf a0 a1 = some r) : Spec PG 59 [lT 2 (List.map e_PartType a0), gT (e_Netlist a1)] [] (lA 2 (List.map e_Pin r)) [] := by
  unfold nl_LooseOf at h
  obtain ⟨r1, h2, h⟩ := bnd_e h
  rcases aft1_e h with ⟨u28, h29, h⟩ | ⟨r30, h29, h⟩
  · have h := Option.some.inj h
    subst h
    exact Spec.path XTok PGmix nl_LooseOf_fn 0 [.r [.id 0, .nl 2], .r [.call [(0, 1)] [gT (e_Netlist a1)] [] (.t (.v (.rt 0))) [(0, .map (keys PG 55) (encM kv_Pin dv_i64 r1))]], .r [.mk 2 55 2], .r [.eq 17 (iA (a1.Parts.length : Int))], .s (nl_LooseOf_F0 a0 a1 r1 0 []) (nl_LooseOf_H0 a0 a1 r1 0 []) [] (nl_LooseOf_B0 a0 a1 r1 u28), .r [], .f 2] (an (an (nl_Nets_ok a1 r1 h2) (an (Eq.refl ([gT (e_Netlist a1)] : List TV)) (Eq.refl (renH (asg [(0, 1)]) [])))) (an (leni_eq e_Part a1.Parts) (nl_LooseOf_l0 a0 a1 r1 [] (.fin u28) h29))) (by kernel_rfl)
  · have h := Option.some.inj h
    subst h
    exact Spec.path XTok PGmix nl_LooseOf_fn 0 [.r [.id 0, .nl 2], .r [.call [(0, 1)] [gT (e_Netlist a1)] [] (.t (.v (.rt 0))) [(0, .map (keys PG 55) (encM kv_Pin dv_i64 r1))]], .r [.mk 2 55 2], .r [.eq 17 (iA (a1.Parts.length : Int))], .s (nl_LooseOf_F0 a0 a1 r1 0 []) (nl_LooseOf_H0 a0 a1 r1 0 []) [] (nl_LooseOf_R r30)] (an (an (nl_Nets_ok a1 r1 h2) (an (Eq.refl ([gT (e_Netlist a1)] : List TV)) (Eq.refl (renH (asg [(0, 1)]) [])))) (an (leni_eq e_Part a1.Parts) (nl_LooseOf_l0 a0 a1 r1 [] (.ret r30) h29))) (by kernel_rfl)

noncomputable def nl_Loose_c : Code := (Go.Proofs.Tryz.f30.body).getD .skip
theorem nl_Loose_fn : FnOk PG 30 nl_Loose_c 16 [.tmp 4, .tmp 5] := ⟨⟨Go.Proofs.Tryz.f30, by kernel_rfl, by kernel_rfl, by kernel_rfl, by kernel_rfl, by kernel_rfl⟩⟩
noncomputable def nl_Loose (a0 : List PartType) (a1 : Netlist) : Option (List Pin × Int) :=
 bnd (nl_CheckList a0 a1) fun r1 =>
 cnd (r1 != 0) (some ([], r1)) (bnd (nl_LooseOf a0 a1) fun r4 =>
 some (r4, 0))
theorem nl_Loose_ok (a0 : List PartType) (a1 : Netlist) (r : List Pin × Int) (h : nl_Loose a0 a1 = some r) : Spec PG 30 [lT 2 (List.map e_PartType a0), gT (e_Netlist a1)] [] (.tup [lT 2 (List.map e_Pin r.1), iT r.2]) [] := by
  unfold nl_Loose at h
  obtain ⟨r1, h2, h⟩ := bnd_e h
  rcases cnd_e h with ⟨h3, h⟩ | ⟨h3, h⟩
  · have h := Option.some.inj h
    subst h
    exact Spec.path XTok PGmix nl_Loose_fn 0 [.r [.id 0, .nl 2], .r [.val (iA r1)], .r [], .b true, .r [.nl 2]] (an (nl_CheckList_ok a0 a1 r1 h2) h3) (by kernel_rfl)
  · obtain ⟨r4, h5, h⟩ := bnd_e h
    have h := Option.some.inj h
    subst h
    exact Spec.path XTok PGmix nl_Loose_fn 0 [.r [.id 0, .nl 2], .r [.val (iA r1)], .r [], .b false, .r [.val (lA 2 (List.map e_Pin r4))]] (an (nl_CheckList_ok a0 a1 r1 h2) (an h3 (nl_LooseOf_ok a0 a1 r4 h5))) (by kernel_rfl)

noncomputable def law_awake_c : Code := (Go.Proofs.Tryz.f7.body).getD .skip
theorem law_awake_fn : FnOk PG 7 law_awake_c 30 [.tmp 0] := ⟨⟨Go.Proofs.Tryz.f7, by kernel_rfl, by kernel_rfl, by kernel_rfl, by kernel_rfl, by kernel_rfl⟩⟩
noncomputable def law_awake : Option Bool :=
 bnd (nl_Loose ([(⟨(⟨#[114]⟩ : ByteArray), [(⟨(⟨#[49]⟩ : ByteArray), 6, 0⟩ : PinType)]⟩ : PartType)]) (⟨[(⟨(⟨#[97]⟩ : ByteArray), (⟨#[114]⟩ : ByteArray)⟩ : Part)], []⟩ : Netlist)) fun r1 =>
 bnd1 (cnd (r1.2 == 0) (cnd ((r1.1.length : Int) == 1) (bnd (atI r1.1 0) fun x8 =>
 some (sEq x8.Part (⟨#[97]⟩ : ByteArray) && (sEq x8.Pin (⟨#[49]⟩ : ByteArray) && true))) (some false)) (some false)) fun v3 =>
 some v3
theorem law_awake_ok (r : Bool) (h : law_awake = some r) : Spec PG 7 [] [] (bA r) [] := by
  unfold law_awake at h
  obtain ⟨r1, h2, h⟩ := bnd_e h
  obtain ⟨v3, h4, h⟩ := bnd1_e h
  let q10_f : Fr := [(2, lA 2 (List.map e_Pin r1.1)), (3, iA r1.2)]
  let q10_g : Hp := []
  let q10_f' : Fr := [(0, bA v3)]
  let q10_g' : Hp := []
  have R5 : Runs PG 30 0 (cL (cR (cR (cR law_awake_c)))) q10_f q10_g (.nor q10_f' q10_g') := by
    rcases cnd_e h4 with ⟨h6, h4⟩ | ⟨h6, h4⟩
    · rcases cnd_e h4 with ⟨h7, h4⟩ | ⟨h7, h4⟩
      · obtain ⟨x8, h9, h4⟩ := bnd_e h4
        have h4 := Option.some.inj h4
        subst h4
        exact Runs.path XTok PGmix [.r [.b true, .b true, .eq 20 (iA (r1.1.length : Int)), .b true, .b true, .b true, .b true, .el (e_Pin x8), .b true, .b true, .b true, .b true]] [] (an h6 (an h6 (an (leni_eq e_Pin r1.1) (an h6 (an h6 (an h7 (an h7 (an (idx_ok e_Pin h9) (an h7 (an h7 (an h7 h7))))))))))) (by kernel_rfl)
      · have h4 := Option.some.inj h4
        subst h4
        exact Runs.path XTok PGmix [.r [.b true, .b true, .eq 20 (iA (r1.1.length : Int)), .b true, .b true, .b false, .b false, .b false, .b false, .b false, .b false]] [] (an h6 (an h6 (an (leni_eq e_Pin r1.1) (an h6 (an h6 (an h7 (an h7 (an h7 (an h7 (an h7 h7)))))))))) (by kernel_rfl)
    · have h4 := Option.some.inj h4
      subst h4
      exact Runs.path XTok PGmix [.r [.b false, .b false, .b false, .b false, .b false, .b false, .b false, .b false, .b false, .b false]] [] (an h6 (an h6 (an h6 (an h6 (an (Eq.refl false) (an (Eq.refl false) (an (Eq.refl false) (an (Eq.refl false) (an (Eq.refl false) (Eq.refl false)))))))))) (by kernel_rfl)
  have h := Option.some.inj h
  subst h
  exact Spec.path XTok PGmix law_awake_fn 0 [.r [], .r [.id 0, .row (List.map e_PinType [(⟨(⟨#[49]⟩ : ByteArray), 6, 0⟩ : PinType)]), .fz 0, .id 0, .row (List.map e_PartType [(⟨(⟨#[114]⟩ : ByteArray), [(⟨(⟨#[49]⟩ : ByteArray), 6, 0⟩ : PinType)]⟩ : PartType)])], .r [.id 1, .row (List.map e_Part [(⟨(⟨#[97]⟩ : ByteArray), (⟨#[114]⟩ : ByteArray)⟩ : Part)]), .fz 0, .fz 1, .val (.tup [lT 2 (List.map e_Pin r1.1), iT r1.2])], .s q10_f q10_g [] (.nor q10_f' q10_g')] (an (Eq.refl (List.flatten (List.map e_PinType [(⟨(⟨#[49]⟩ : ByteArray), 6, 0⟩ : PinType)]))) (an (Eq.refl (List.flatten (List.map e_PartType [(⟨(⟨#[114]⟩ : ByteArray), [(⟨(⟨#[49]⟩ : ByteArray), 6, 0⟩ : PinType)]⟩ : PartType)]))) (an (Eq.refl (List.flatten (List.map e_Part [(⟨(⟨#[97]⟩ : ByteArray), (⟨#[114]⟩ : ByteArray)⟩ : Part)]))) (an (Spec.fit (nl_Loose_ok ([(⟨(⟨#[114]⟩ : ByteArray), [(⟨(⟨#[49]⟩ : ByteArray), 6, 0⟩ : PinType)]⟩ : PartType)]) (⟨[(⟨(⟨#[97]⟩ : ByteArray), (⟨#[114]⟩ : ByteArray)⟩ : Part)], []⟩ : Netlist) r1 h2) (.cons (FitT.v (FitC.same _)) (.cons (FitT.agg (.cons (FitC.same _) (.cons (FitC.nil 3) .nil))) .nil))) R5)))) (by kernel_rfl)

noncomputable def slices_BinarySearchFunc_api_Net_api_Net_string_c : Code := (Go.Proofs.Tryz.f47.body).getD .skip
theorem slices_BinarySearchFunc_api_Net_api_Net_string_fn : FnOk PG 47 slices_BinarySearchFunc_api_Net_api_Net_string_c 49 [.tmp 6, .tmp 7] := ⟨⟨Go.Proofs.Tryz.f47, by kernel_rfl, by kernel_rfl, by kernel_rfl, by kernel_rfl, by kernel_rfl⟩⟩
noncomputable def slices_BinarySearchFunc_api_Net_api_Net_string_c0 : Code := cL (cL (cL (cR (cR (cR slices_BinarySearchFunc_api_Net_api_Net_string_c)))))
noncomputable def slices_BinarySearchFunc_api_Net_api_Net_string_R (r : Int × Bool) : Oc := .ret [(6, iA r.1), (7, bA r.2)] []
noncomputable def slices_BinarySearchFunc_api_Net_api_Net_string_F0 (a2_k : FuncId) (a2_c : List C) (a0 : List Net) (a1 : ByteArray) (y1 : Int) (y2 : Int) : Fr := [(0, lA 3 (List.map e_Net a0)), (1, sA a1), (2, .t (.v (.c (.fn a2_k a2_c)))), (8, iA (a0.length : Int)), (9, iA y1), (10, iA y2)]
noncomputable def slices_BinarySearchFunc_api_Net_api_Net_string_H0 (a2_k : FuncId) (a2_c : List C) (a0 : List Net) (a1 : ByteArray) (y1 : Int) (y2 : Int) : Hp := []
noncomputable def slices_BinarySearchFunc_api_Net_api_Net_string_B0 (a2_k : FuncId) (a2_c : List C) (a0 : List Net) (a1 : ByteArray) (s : Int × Int) : Oc := .ex 0 [(0, lA 3 (List.map e_Net a0)), (1, sA a1), (2, .t (.v (.c (.fn a2_k a2_c)))), (8, iA (a0.length : Int)), (9, iA s.1)] []
noncomputable def slices_BinarySearchFunc_api_Net_api_Net_string_b0 (a2 : Net → ByteArray → Option Int) (a0 : List Net) (a1 : ByteArray) (y1 : Int) (y2 : Int) : Option (Stp (Int × Int) (Int × Bool)) :=
 cnd (decide (y1 < y2)) (grd ((0 : Int) ≤ 1) <|
 bnd (atI a0 (IntKind.i64.wrap ((IntKind.u64.wrap (w64 (y1 + y2))) / 2 ^ min (Int.toNat 1) 64))) fun x5 =>
 bnd (a2 x5 a1) fun r7 =>
 bnd2 (cnd (decide (r7 < 0)) (some (y2, w64 ((IntKind.i64.wrap ((IntKind.u64.wrap (w64 (y1 + y2))) / 2 ^ min (Int.toNat 1) 64)) + 1))) (some (IntKind.i64.wrap ((IntKind.u64.wrap (w64 (y1 + y2))) / 2 ^ min (Int.toNat 1) 64), y1))) fun v9 v10 =>
 some (.go (v10, v9))) (some (.brk (y1, y2)))
theorem slices_BinarySearchFunc_api_Net_api_Net_string_b0_r (a2_k : FuncId) (a2_c : List C) (a2 : Net → ByteArray → Option Int) (a2_ok : ∀ (z0 : Net) (z1 : ByteArray) (r : Int), a2 z0 z1 = some r → Spec PG a2_k ([gT (e_Net z0), sT z1] ++ List.map (fun x => TV.v (CV.c x)) a2_c) [] (iA r) []) (a0 : List Net) (a1 : ByteArray) (y1 : Int) (y2 : Int) (o : Stp (Int × Int) (Int × Bool)) (h : slices_BinarySearchFunc_api_Net_api_Net_string_b0 a2 a0 a1 y1 y2 = some o) :
    Runs PG 49 0 slices_BinarySearchFunc_api_Net_api_Net_string_c0 (slices_BinarySearchFunc_api_Net_api_Net_string_F0 a2_k a2_c a0 a1 y1 y2) (slices_BinarySearchFunc_api_Net_api_Net_string_H0 a2_k a2_c a0 a1 y1 y2) (stpOc (fun s' => .nor (slices_BinarySearchFunc_api_Net_api_Net_string_F0 a2_k a2_c a0 a1 s'.1 s'.2) (slices_BinarySearchFunc_api_Net_api_Net_string_H0 a2_k a2_c a0 a1 s'.1 s'.2)) (slices_BinarySearchFunc_api_Net_api_Net_string_B0 a2_k a2_c a0 a1) slices_BinarySearchFunc_api_Net_api_Net_string_R o) := by
  unfold slices_BinarySearchFunc_api_Net_api_Net_string_b0 at h
  rcases cnd_e h with ⟨h3, h⟩ | ⟨h3, h⟩
  · obtain ⟨h4, h⟩ := grd_e h
    obtain ⟨x5, h6, h⟩ := bnd_e h
    obtain ⟨r7, h8, h⟩ := bnd_e h
    obtain ⟨v9, v10, h11, h⟩ := bnd2_e h
    let q18_f : Fr := [(0, lA 3 (List.map e_Net a0)), (1, sA a1), (2, .t (.v (.c (.fn a2_k a2_c)))), (8, iA (a0.length : Int)), (9, iA y1), (10, iA y2), (11, iA (IntKind.i64.wrap ((IntKind.u64.wrap (w64 (y1 + y2))) / 2 ^ min (Int.toNat 1) 64))), (31, bA (decide (r7 < 0)))]
    let q18_g : Hp := []
    let q18_f' : Fr := [(0, lA 3 (List.map e_Net a0)), (1, sA a1), (2, .t (.v (.c (.fn a2_k a2_c)))), (8, iA (a0.length : Int)), (9, iA v10), (10, iA v9)]
    let q18_g' : Hp := []
    have R12 : Runs PG 49 0 (cR (cR (cL (cR slices_BinarySearchFunc_api_Net_api_Net_string_c0)))) q18_f q18_g (.nor q18_f' q18_g') := by
      rcases cnd_e h11 with ⟨h13, h11⟩ | ⟨h13, h11⟩
      · have h11 := Option.some.inj h11
        have q14 := (Prod.mk.inj h11).1
        have q15 := (Prod.mk.inj h11).2
        subst q14
        subst q15
        exact Runs.path XTok PGmix [.b true, .r []] [] h13 (by kernel_rfl)
      · have h11 := Option.some.inj h11
        have q16 := (Prod.mk.inj h11).1
        have q17 := (Prod.mk.inj h11).2
        subst q16
        subst q17
        exact Runs.path XTok PGmix [.b false, .r []] [] h13 (by kernel_rfl)
    have h := Option.some.inj h
    subst h
    exact Runs.path XTok PGmix [.r [], .b true, .r [], .r [.el (e_Net x5), .val (iA r7)], .s q18_f q18_g [] (.nor q18_f' q18_g')] [] (an h3 (an h4 (an (idx_ok e_Net h6) (an (a2_ok x5 a1 r7 h8) R12)))) (by kernel_rfl)
  · have h := Option.some.inj h
    subst h
    exact Runs.path XTok PGmix [.r [], .b false] [] h3 (by kernel_rfl)
theorem slices_BinarySearchFunc_api_Net_api_Net_string_l0 (a2_k : FuncId) (a2_c : List C) (a2 : Net → ByteArray → Option Int) (a2_ok : ∀ (z0 : Net) (z1 : ByteArray) (r : Int), a2 z0 z1 = some r → Spec PG a2_k ([gT (e_Net z0), sT z1] ++ List.map (fun x => TV.v (CV.c x)) a2_c) [] (iA r) []) (a0 : List Net) (a1 : ByteArray) (y1 : Int) (y2 : Int) (r : Fin' (Int × Int) (Int × Bool)) (h : loop (fun s => slices_BinarySearchFunc_api_Net_api_Net_string_b0 a2 a0 a1 s.1 s.2) (y1, y2) = some r) : Runs PG 49 0 (cL (cL (cR (cR (cR slices_BinarySearchFunc_api_Net_api_Net_string_c))))) (slices_BinarySearchFunc_api_Net_api_Net_string_F0 a2_k a2_c a0 a1 y1 y2) (slices_BinarySearchFunc_api_Net_api_Net_string_H0 a2_k a2_c a0 a1 y1 y2) (finOc (slices_BinarySearchFunc_api_Net_api_Net_string_B0 a2_k a2_c a0 a1) slices_BinarySearchFunc_api_Net_api_Net_string_R r) :=
  Runs.loop' (by kernel_rfl) (loop_rounds (σ := (Int × Int)) (ρ := (Int × Bool)) (body := fun s => slices_BinarySearchFunc_api_Net_api_Net_string_b0 a2 a0 a1 s.1 s.2) (F := fun s => slices_BinarySearchFunc_api_Net_api_Net_string_F0 a2_k a2_c a0 a1 s.1 s.2) (H := fun s => slices_BinarySearchFunc_api_Net_api_Net_string_H0 a2_k a2_c a0 a1 s.1 s.2) (B := slices_BinarySearchFunc_api_Net_api_Net_string_B0 a2_k a2_c a0 a1) (R := slices_BinarySearchFunc_api_Net_api_Net_string_R) (fun _ => rfl) (fun _ => rfl) (fun s o h => slices_BinarySearchFunc_api_Net_api_Net_string_b0_r a2_k a2_c a2 a2_ok a0 a1 s.1 s.2 o h) h)
noncomputable def slices_BinarySearchFunc_api_Net_api_Net_string (a0 : List Net) (a1 : ByteArray) (a2 : Net → ByteArray → Option Int) : Option (Int × Bool) :=
 aft2 (loop (fun s => slices_BinarySearchFunc_api_Net_api_Net_string_b0 a2 a0 a1 s.1 s.2) (0, (a0.length : Int))) (fun u19 u20 =>
 bnd1 (cnd (decide (u19 < (a0.length : Int))) (bnd (atI a0 u19) fun x27 =>
 bnd (a2 x27 a1) fun r29 =>
 some (r29 == 0)) (some false)) fun v23 =>
 some (u19, v23))
 (fun r22 =>
 some r22)
theorem slices_BinarySearchFunc_api_Net_api_Net_string_ok (a0 : List Net) (a1 : ByteArray) (a2_k : FuncId) (a2_c : List C) (a2 : Net → ByteArray → Option Int) (a2_ok : ∀ (z0 : Net) (z1 : ByteArray) (r : Int), a2 z0 z1 = some r → Spec PG a2_k ([gT (e_Net z0), sT z1] ++ List.map (fun x => TV.v (CV.c x)) a2_c) [] (iA r) []) (r : Int × Bool) (h : slices_BinarySearchFunc_api_Net_api_Net_string a0 a1 a2 = some r) : Spec PG 47 [lT 3 (List.map e_Net a0), sT a1, .v (.c (.fn a2_k a2_c))] [] (.tup [iT r.1, bT r.2]) [] := by
  unfold slices_BinarySearchFunc_api_Net_api_Net_string at h
  rcases aft2_e h with ⟨u19, u20, h21, h⟩ | ⟨r22, h21, h⟩
  · obtain ⟨v23, h24, h⟩ := bnd1_e h
    let q31_f : Fr := [(0, lA 3 (List.map e_Net a0)), (1, sA a1), (2, .t (.v (.c (.fn a2_k a2_c)))), (8, iA (a0.length : Int)), (9, iA u19)]
    let q31_g : Hp := []
    let q31_f' : Fr := [(6, iA u19), (7, bA v23)]
    let q31_g' : Hp := []
    have R25 : Runs PG 49 0 (cL (cR (cR (cR (cR slices_BinarySearchFunc_api_Net_api_Net_string_c))))) q31_f q31_g (.nor q31_f' q31_g') := by
      rcases cnd_e h24 with ⟨h26, h24⟩ | ⟨h26, h24⟩
      · obtain ⟨x27, h28, h24⟩ := bnd_e h24
        obtain ⟨r29, h30, h24⟩ := bnd_e h24
        have h24 := Option.some.inj h24
        subst h24
        exact Runs.path XTok PGmix [.r [.b true, .b true, .b true, .b true, .el (e_Net x27), .b true, .b true, .b true, .val (iA r29), .b true, .b true]] [] (an h26 (an h26 (an h26 (an h26 (an (idx_ok e_Net h28) (an h26 (an h26 (an h26 (an (a2_ok x27 a1 r29 h30) (an h26 h26)))))))))) (by kernel_rfl)
      · have h24 := Option.some.inj h24
        subst h24
        exact Runs.path XTok PGmix [.r [.b false, .b false, .b false, .b false, .b false, .b false, .b false, .b false, .b false]] [] (an h26 (an h26 (an h26 (an h26 (an h26 (an h26 (an h26 (an h26 h26)))))))) (by kernel_rfl)
    have h := Option.some.inj h
    subst h
    exact Spec.path XTok PGmix slices_BinarySearchFunc_api_Net_api_Net_string_fn 0 [.r [], .r [.eq 13 (iA (a0.length : Int))], .r [], .s (slices_BinarySearchFunc_api_Net_api_Net_string_F0 a2_k a2_c a0 a1 0 (a0.length : Int)) (slices_BinarySearchFunc_api_Net_api_Net_string_H0 a2_k a2_c a0 a1 0 (a0.length : Int)) [] (slices_BinarySearchFunc_api_Net_api_Net_string_B0 a2_k a2_c a0 a1 (u19, u20)), .s q31_f q31_g [] (.nor q31_f' q31_g')] (an (leni_eq e_Net a0) (an (slices_BinarySearchFunc_api_Net_api_Net_string_l0 a2_k a2_c a2 a2_ok a0 a1 0 (a0.length : Int) (.fin (u19, u20)) h21) R25)) (by kernel_rfl)
  · have h := Option.some.inj h
    subst h
    exact Spec.path XTok PGmix slices_BinarySearchFunc_api_Net_api_Net_string_fn 0 [.r [], .r [.eq 13 (iA (a0.length : Int))], .r [], .s (slices_BinarySearchFunc_api_Net_api_Net_string_F0 a2_k a2_c a0 a1 0 (a0.length : Int)) (slices_BinarySearchFunc_api_Net_api_Net_string_H0 a2_k a2_c a0 a1 0 (a0.length : Int)) [] (slices_BinarySearchFunc_api_Net_api_Net_string_R r22)] (an (leni_eq e_Net a0) (slices_BinarySearchFunc_api_Net_api_Net_string_l0 a2_k a2_c a2 a2_ok a0 a1 0 (a0.length : Int) (.ret r22) h21)) (by kernel_rfl)

noncomputable def nl_NetAt_1_c : Code := (Go.Proofs.Tryz.f48.body).getD .skip
theorem nl_NetAt_1_fn : FnOk PG 48 nl_NetAt_1_c 9 [.tmp 4] := ⟨⟨Go.Proofs.Tryz.f48, by kernel_rfl, by kernel_rfl, by kernel_rfl, by kernel_rfl, by kernel_rfl⟩⟩
noncomputable def nl_NetAt_1 (a0 : Net) (a1 : ByteArray) : Option Int :=
 bnd (strings_Compare a0.Name a1) fun r1 =>
 some r1
theorem nl_NetAt_1_ok (a0 : Net) (a1 : ByteArray) (r : Int) (h : nl_NetAt_1 a0 a1 = some r) : Spec PG 48 [gT (e_Net a0), sT a1] [] (iA r) [] := by
  unfold nl_NetAt_1 at h
  obtain ⟨r1, h2, h⟩ := bnd_e h
  have h := Option.some.inj h
  subst h
  exact Spec.path XTok PGmix nl_NetAt_1_fn 0 [.r [.id 0], .r [.val (iA r1)]] (strings_Compare_ok a0.Name a1 r1 h2) (by kernel_rfl)

noncomputable def nl_NetAt_c : Code := (Go.Proofs.Tryz.f17.body).getD .skip
theorem nl_NetAt_fn : FnOk PG 17 nl_NetAt_c 17 [.tmp 4] := ⟨⟨Go.Proofs.Tryz.f17, by kernel_rfl, by kernel_rfl, by kernel_rfl, by kernel_rfl, by kernel_rfl⟩⟩
noncomputable def nl_NetAt (a0 : Netlist) (a1 : ByteArray) : Option Int :=
 bnd (slices_BinarySearchFunc_api_Net_api_Net_string a0.Nets a1 (fun z0 z1 => nl_NetAt_1 z0 z1)) fun r1 =>
 cnd (!r1.2) (some (-1)) (some r1.1)
theorem nl_NetAt_ok (a0 : Netlist) (a1 : ByteArray) (r : Int) (h : nl_NetAt a0 a1 = some r) : Spec PG 17 [gT (e_Netlist a0), sT a1] [] (iA r) [] := by
  unfold nl_NetAt at h
  obtain ⟨r1, h2, h⟩ := bnd_e h
  rcases cnd_e h with ⟨h3, h⟩ | ⟨h3, h⟩
  · have h := Option.some.inj h
    subst h
    exact Spec.path XTok PGmix nl_NetAt_fn 0 [.r [.id 0], .r [.val (.tup [iT r1.1, bT r1.2])], .r [], .b true, .r []] (an (slices_BinarySearchFunc_api_Net_api_Net_string_ok a0.Nets a1 48 [] (fun z0 z1 => nl_NetAt_1 z0 z1) (fun z0 z1 r h => nl_NetAt_1_ok z0 z1 r h) r1 h2) h3) (by kernel_rfl)
  · have h := Option.some.inj h
    subst h
    exact Spec.path XTok PGmix nl_NetAt_fn 0 [.r [.id 0], .r [.val (.tup [iT r1.1, bT r1.2])], .r [], .b false, .r []] (an (slices_BinarySearchFunc_api_Net_api_Net_string_ok a0.Nets a1 48 [] (fun z0 z1 => nl_NetAt_1 z0 z1) (fun z0 z1 r h => nl_NetAt_1_ok z0 z1 r h) r1 h2) h3) (by kernel_rfl)

noncomputable def slices_Clone_api_Part_api_Part_c : Code := (Go.Proofs.Tryz.f37.body).getD .skip
theorem slices_Clone_api_Part_api_Part_fn : FnOk PG 37 slices_Clone_api_Part_api_Part_c 8 [.tmp 2] := ⟨⟨Go.Proofs.Tryz.f37, by kernel_rfl, by kernel_rfl, by kernel_rfl, by kernel_rfl, by kernel_rfl⟩⟩
noncomputable def slices_Clone_api_Part_api_Part (a0 : List Part) : Option (List Part) :=
 grd (([] : List Part).length + a0.length ≤ lim) <|
 some (([] : List Part) ++ a0)
theorem slices_Clone_api_Part_api_Part_ok (a0 : List Part) (r : List Part) (h : slices_Clone_api_Part_api_Part a0 = some r) : Spec PG 37 [lT 2 (List.map e_Part a0)] [] (lA 2 (List.map e_Part r)) [] := by
  refine Spec.nilcase (pre := []) (fun hx => ?_) ?_
  · have hx := List.map_eq_nil_iff.1 hx
    subst hx
    have h : some [] = some r := h
    have h := Option.some.inj h
    subst h
    exact Spec.path XTok PGmix slices_Clone_api_Part_api_Part_fn 0 [.r [.nl 2], .r [], .b true, .r [.nl 2]] (Eq.refl true) (by kernel_rfl)
  · unfold slices_Clone_api_Part_api_Part at h
    obtain ⟨h1, h⟩ := grd_e h
    have h := Option.some.inj h
    subst h
    exact Spec.path XTok PGmix slices_Clone_api_Part_api_Part_fn 0 [.r [.nl 2], .r [], .b false, .r [.id 0, .row (List.map e_Part ([] : List Part)), .id 1, .row (List.map e_Part (([] : List Part) ++ a0))], .f 1] (an (Eq.refl false) (an (Eq.refl (List.flatten (List.map e_Part ([] : List Part)))) (app_ok e_Part h1))) (by kernel_rfl)

noncomputable def slices_Clone_api_Pin_api_Pin_c : Code := (Go.Proofs.Tryz.f40.body).getD .skip
theorem slices_Clone_api_Pin_api_Pin_fn : FnOk PG 40 slices_Clone_api_Pin_api_Pin_c 8 [.tmp 2] := ⟨⟨Go.Proofs.Tryz.f40, by kernel_rfl, by kernel_rfl, by kernel_rfl, by kernel_rfl, by kernel_rfl⟩⟩
noncomputable def slices_Clone_api_Pin_api_Pin (a0 : List Pin) : Option (List Pin) :=
 grd (([] : List Pin).length + a0.length ≤ lim) <|
 some (([] : List Pin) ++ a0)
theorem slices_Clone_api_Pin_api_Pin_ok (a0 : List Pin) (r : List Pin) (h : slices_Clone_api_Pin_api_Pin a0 = some r) : Spec PG 40 [lT 2 (List.map e_Pin a0)] [] (lA 2 (List.map e_Pin r)) [] := by
  refine Spec.nilcase (pre := []) (fun hx => ?_) ?_
  · have hx := List.map_eq_nil_iff.1 hx
    subst hx
    have h : some [] = some r := h
    have h := Option.some.inj h
    subst h
    exact Spec.path XTok PGmix slices_Clone_api_Pin_api_Pin_fn 0 [.r [.nl 2], .r [], .b true, .r [.nl 2]] (Eq.refl true) (by kernel_rfl)
  · unfold slices_Clone_api_Pin_api_Pin at h
    obtain ⟨h1, h⟩ := grd_e h
    have h := Option.some.inj h
    subst h
    exact Spec.path XTok PGmix slices_Clone_api_Pin_api_Pin_fn 0 [.r [.nl 2], .r [], .b false, .r [.id 0, .row (List.map e_Pin ([] : List Pin)), .id 1, .row (List.map e_Pin (([] : List Pin) ++ a0))], .f 1] (an (Eq.refl false) (an (Eq.refl (List.flatten (List.map e_Pin ([] : List Pin)))) (app_ok e_Pin h1))) (by kernel_rfl)

noncomputable def slices_Clone_api_Net_api_Net_c : Code := (Go.Proofs.Tryz.f66.body).getD .skip
theorem slices_Clone_api_Net_api_Net_fn : FnOk PG 66 slices_Clone_api_Net_api_Net_c 8 [.tmp 2] := ⟨⟨Go.Proofs.Tryz.f66, by kernel_rfl, by kernel_rfl, by kernel_rfl, by kernel_rfl, by kernel_rfl⟩⟩
noncomputable def slices_Clone_api_Net_api_Net (a0 : List Net) : Option (List Net) :=
 grd (([] : List Net).length + a0.length ≤ lim) <|
 some (([] : List Net) ++ a0)
theorem slices_Clone_api_Net_api_Net_ok (a0 : List Net) (r : List Net) (h : slices_Clone_api_Net_api_Net a0 = some r) : Spec PG 66 [lT 3 (List.map e_Net a0)] [] (lA 3 (List.map e_Net r)) [] := by
  refine Spec.nilcase (pre := []) (fun hx => ?_) ?_
  · have hx := List.map_eq_nil_iff.1 hx
    subst hx
    have h : some [] = some r := h
    have h := Option.some.inj h
    subst h
    exact Spec.path XTok PGmix slices_Clone_api_Net_api_Net_fn 0 [.r [.nl 3], .r [], .b true, .r [.nl 3]] (Eq.refl true) (by kernel_rfl)
  · unfold slices_Clone_api_Net_api_Net at h
    obtain ⟨h1, h⟩ := grd_e h
    have h := Option.some.inj h
    subst h
    exact Spec.path XTok PGmix slices_Clone_api_Net_api_Net_fn 0 [.r [.nl 3], .r [], .b false, .r [.id 0, .row (List.map e_Net ([] : List Net)), .id 1, .row (List.map e_Net (([] : List Net) ++ a0))], .f 1] (an (Eq.refl false) (an (Eq.refl (List.flatten (List.map e_Net ([] : List Net)))) (app_ok e_Net h1))) (by kernel_rfl)

noncomputable def slices_Clone_api_Part_api_Part_new_c : Code := (Go.Proofs.Tryz.f37.body).getD .skip
theorem slices_Clone_api_Part_api_Part_new_fn : FnOk PG 37 slices_Clone_api_Part_api_Part_new_c 8 [.tmp 2] := ⟨⟨Go.Proofs.Tryz.f37, by kernel_rfl, by kernel_rfl, by kernel_rfl, by kernel_rfl, by kernel_rfl⟩⟩
noncomputable def slices_Clone_api_Part_api_Part_new (a0 : List Part) : Option (List Part) :=
 grd (([] : List Part).length + a0.length ≤ lim) <|
 some (([] : List Part) ++ a0)
theorem slices_Clone_api_Part_api_Part_new_ok (a0 : List Part) (r : List Part) (h : slices_Clone_api_Part_api_Part_new a0 = some r) : Spec PG 37 [lT 2 (List.map e_Part a0)] [] (.t (.v (.rt 0))) [(0, .row 43 2 (List.map e_Part r))] := by
  refine Spec.nilcase (pre := []) (fun hx => ?_) ?_
  · have hx := List.map_eq_nil_iff.1 hx
    subst hx
    have h : some [] = some r := h
    have h := Option.some.inj h
    subst h
    exact Spec.path XTok PGmix slices_Clone_api_Part_api_Part_new_fn 0 [.r [.mk 0 43 2], .r [], .b true, .r [.mk 1 43 2], .w [(2, .t (.v (.rt 0)))] [(0, .row 43 2 (List.map e_Part []))] [(0, 1)]] (Eq.refl true) (by kernel_rfl)
  · unfold slices_Clone_api_Part_api_Part_new at h
    obtain ⟨h1, h⟩ := grd_e h
    have h := Option.some.inj h
    subst h
    exact Spec.path XTok PGmix slices_Clone_api_Part_api_Part_new_fn 0 [.r [.mk 0 43 2], .r [], .b false, .r [.id 1, .row (List.map e_Part ([] : List Part)), .id 2, .row (List.map e_Part (([] : List Part) ++ a0))], .w [(2, .t (.v (.rt 0)))] [(0, .row 43 2 (List.map e_Part (([] : List Part) ++ a0)))] [(0, 2)]] (an (Eq.refl false) (an (Eq.refl (List.flatten (List.map e_Part ([] : List Part)))) (app_ok e_Part h1))) (by kernel_rfl)

noncomputable def slices_Clone_api_Net_api_Net_new_c : Code := (Go.Proofs.Tryz.f66.body).getD .skip
theorem slices_Clone_api_Net_api_Net_new_fn : FnOk PG 66 slices_Clone_api_Net_api_Net_new_c 8 [.tmp 2] := ⟨⟨Go.Proofs.Tryz.f66, by kernel_rfl, by kernel_rfl, by kernel_rfl, by kernel_rfl, by kernel_rfl⟩⟩
noncomputable def slices_Clone_api_Net_api_Net_new (a0 : List Net) : Option (List Net) :=
 grd (([] : List Net).length + a0.length ≤ lim) <|
 some (([] : List Net) ++ a0)
theorem slices_Clone_api_Net_api_Net_new_ok (a0 : List Net) (r : List Net) (h : slices_Clone_api_Net_api_Net_new a0 = some r) : Spec PG 66 [lT 3 (List.map e_Net a0)] [] (.t (.v (.rt 0))) [(0, .row 53 3 (List.map e_Net r))] := by
  refine Spec.nilcase (pre := []) (fun hx => ?_) ?_
  · have hx := List.map_eq_nil_iff.1 hx
    subst hx
    have h : some [] = some r := h
    have h := Option.some.inj h
    subst h
    exact Spec.path XTok PGmix slices_Clone_api_Net_api_Net_new_fn 0 [.r [.mk 0 53 3], .r [], .b true, .r [.mk 1 53 3], .w [(2, .t (.v (.rt 0)))] [(0, .row 53 3 (List.map e_Net []))] [(0, 1)]] (Eq.refl true) (by kernel_rfl)
  · unfold slices_Clone_api_Net_api_Net_new at h
    obtain ⟨h1, h⟩ := grd_e h
    have h := Option.some.inj h
    subst h
    exact Spec.path XTok PGmix slices_Clone_api_Net_api_Net_new_fn 0 [.r [.mk 0 53 3], .r [], .b false, .r [.id 1, .row (List.map e_Net ([] : List Net)), .id 2, .row (List.map e_Net (([] : List Net) ++ a0))], .w [(2, .t (.v (.rt 0)))] [(0, .row 53 3 (List.map e_Net (([] : List Net) ++ a0)))] [(0, 2)]] (an (Eq.refl false) (an (Eq.refl (List.flatten (List.map e_Net ([] : List Net)))) (app_ok e_Net h1))) (by kernel_rfl)

noncomputable def slices_Clone_api_Pin_api_Pin_new_c : Code := (Go.Proofs.Tryz.f40.body).getD .skip
theorem slices_Clone_api_Pin_api_Pin_new_fn : FnOk PG 40 slices_Clone_api_Pin_api_Pin_new_c 8 [.tmp 2] := ⟨⟨Go.Proofs.Tryz.f40, by kernel_rfl, by kernel_rfl, by kernel_rfl, by kernel_rfl, by kernel_rfl⟩⟩
noncomputable def slices_Clone_api_Pin_api_Pin_new (a0 : List Pin) : Option (List Pin) :=
 grd (([] : List Pin).length + a0.length ≤ lim) <|
 some (([] : List Pin) ++ a0)
theorem slices_Clone_api_Pin_api_Pin_new_ok (a0 : List Pin) (r : List Pin) (h : slices_Clone_api_Pin_api_Pin_new a0 = some r) : Spec PG 40 [lT 2 (List.map e_Pin a0)] [] (.t (.v (.rt 0))) [(0, .row 55 2 (List.map e_Pin r))] := by
  refine Spec.nilcase (pre := []) (fun hx => ?_) ?_
  · have hx := List.map_eq_nil_iff.1 hx
    subst hx
    have h : some [] = some r := h
    have h := Option.some.inj h
    subst h
    exact Spec.path XTok PGmix slices_Clone_api_Pin_api_Pin_new_fn 0 [.r [.mk 0 55 2], .r [], .b true, .r [.mk 1 55 2], .w [(2, .t (.v (.rt 0)))] [(0, .row 55 2 (List.map e_Pin []))] [(0, 1)]] (Eq.refl true) (by kernel_rfl)
  · unfold slices_Clone_api_Pin_api_Pin_new at h
    obtain ⟨h1, h⟩ := grd_e h
    have h := Option.some.inj h
    subst h
    exact Spec.path XTok PGmix slices_Clone_api_Pin_api_Pin_new_fn 0 [.r [.mk 0 55 2], .r [], .b false, .r [.id 1, .row (List.map e_Pin ([] : List Pin)), .id 2, .row (List.map e_Pin (([] : List Pin) ++ a0))], .w [(2, .t (.v (.rt 0)))] [(0, .row 55 2 (List.map e_Pin (([] : List Pin) ++ a0)))] [(0, 2)]] (an (Eq.refl false) (an (Eq.refl (List.flatten (List.map e_Pin ([] : List Pin)))) (app_ok e_Pin h1))) (by kernel_rfl)

noncomputable def nl_Own_c : Code := (Go.Proofs.Tryz.f32.body).getD .skip
theorem nl_Own_fn : FnOk PG 32 nl_Own_c 37 [.cell 2 26] := ⟨⟨Go.Proofs.Tryz.f32, by kernel_rfl, by kernel_rfl, by kernel_rfl, by kernel_rfl, by kernel_rfl⟩⟩
noncomputable def nl_Own_c0 : Code := cL (cL (cR (cL (cR (cR nl_Own_c)))))
noncomputable def nl_Own_R (r : Netlist) : Oc := .ret [(2, .t (.v (.ptr 0 0)))] [(1, .row 43 2 (List.map e_Part r.Parts)), (2, .nrow 53 3 1 55 2 (r.Nets).length [] (List.map e_Net r.Nets)), (0, .cells 26 [.rt 1, .rt 2])]
noncomputable def nl_Own_F0 (r1 : List Part) (r3 : List Net) (i5 : Nat) (y6 : List Net) : Fr := [(1, .t (.v (.ptr 0 0))), (2, .t (.v (.ptr 1 0))), (13, .t (.v (.rt 3))), (14, iA (r3.length : Int)), (15, iA (i5 : Int))]
noncomputable def nl_Own_H0 (r1 : List Part) (r3 : List Net) (i5 : Nat) (y6 : List Net) : Hp := [(3, .nrow 53 3 1 55 2 i5 [] (List.map e_Net y6)), (2, .row 43 2 (List.map e_Part r1)), (0, .cells 26 [.rt 2, .rt 3]), (1, .cells 26 [.c (.nil), .c (.nil)])]
noncomputable def nl_Own_B0 (r1 : List Part) (r3 : List Net) (s : List Net) : Oc := .ex 0 [(1, .t (.v (.ptr 0 0))), (2, .t (.v (.ptr 1 0)))] [(3, .nrow 53 3 1 55 2 r3.length [] (List.map e_Net s)), (2, .row 43 2 (List.map e_Part r1)), (0, .cells 26 [.rt 2, .rt 3]), (1, .cells 26 [.c (.nil), .c (.nil)])]
noncomputable def nl_Own_b0 (r1 : List Part) (r3 : List Net) (i5 : Nat) (y6 : List Net) : Option (Stp (List Net) Netlist) :=
 bnd (atI y6 (i5 : Int)) fun x7 =>
 bnd (slices_Clone_api_Pin_api_Pin_new x7.Pins) fun r9 =>
 bnd (atI y6 (i5 : Int)) fun x11 =>
 bnd (atI y6 (i5 : Int)) fun x13 =>
 some (.go ((y6.set (Int.toNat (i5 : Int)) (⟨x13.Name, x13.Pins, []⟩ : Net)).set (Int.toNat (i5 : Int)) (⟨(⟨x13.Name, x13.Pins, []⟩ : Net).Name, r9, (⟨x13.Name, x13.Pins, []⟩ : Net).Ports⟩ : Net)))
theorem nl_Own_b0_r (r1 : List Part) (r3 : List Net) (i5 : Nat) (y6 : List Net) (o : Stp (List Net) Netlist) (hM : r3.length ≤ lim) (hi : i5 < r3.length) (h : nl_Own_b0 r1 r3 i5 y6 = some o) :
    Runs PG 37 0 nl_Own_c0 (nl_Own_F0 r1 r3 i5 y6) (nl_Own_H0 r1 r3 i5 y6) (stpOc (fun s' => .nor (nl_Own_F0 r1 r3 (i5 + 1) s') (nl_Own_H0 r1 r3 (i5 + 1) s')) (nl_Own_B0 r1 r3) nl_Own_R o) := by
  unfold nl_Own_b0 at h
  obtain ⟨x7, h8, h⟩ := bnd_e h
  obtain ⟨r9, h10, h⟩ := bnd_e h
  obtain ⟨x11, h12, h⟩ := bnd_e h
  obtain ⟨x13, h14, h⟩ := bnd_e h
  have h := Option.some.inj h
  subst h
  exact Runs.path XTok PGmix [.r [], .b true, .r [], .d [([], []), ([0], []), ([], []), ([], []), ([0], []), ([], []), ([], []), ([0], []), ([], []), ([3], []), ([], []), ([3], [.el (e_Net x7)]), ([], [.call [(0, 4)] [lT 2 (List.map e_Pin x7.Pins)] [] (.t (.v (.rt 0))) [(0, .row 55 2 (List.map e_Pin r9))]]), ([3], []), ([], []), ([3], [.b true]), ([3], []), ([], []), ([3], [.nl 1, .el (e_Net x13), .row (List.map e_Net (y6.set (Int.toNat (i5 : Int)) (⟨x13.Name, x13.Pins, []⟩ : Net)))])], .g (.c 3 4 (i5 + 1) [sC ((⟨x13.Name, x13.Pins, []⟩ : Net).Name), .sl 2 (List.map e_Pin ((⟨x13.Name, x13.Pins, []⟩ : Net).Pins)), .sl 1 (List.map e_str ((⟨x13.Name, x13.Pins, []⟩ : Net).Ports))] (List.map e_Net ((y6.set (Int.toNat (i5 : Int)) (⟨x13.Name, x13.Pins, []⟩ : Net)).set (Int.toNat (i5 : Int)) (⟨(⟨x13.Name, x13.Pins, []⟩ : Net).Name, r9, (⟨x13.Name, x13.Pins, []⟩ : Net).Ports⟩ : Net)))), .r [.eq 35 (iA ((i5 + 1 : Nat) : Int))]] [] (an (lt_true hi) (an (idx_lt e_Net h8) (an (an (idx_el e_Net h8) (Nat.le_refl (i5 : Nat))) (an (an (slices_Clone_api_Pin_api_Pin_new_ok x7.Pins r9 h10) (an (Eq.refl ([lT 2 (List.map e_Pin x7.Pins)] : List TV)) (Eq.refl (renH (asg [(0, 4)]) [])))) (an (idx_lt e_Net h12) (an (an (Eq.refl (Int.toNat (i5 : Int))) (nt_ltm e_Net h12)) (an (idx_lt e_Net h14) (an (set_ok e_Net h14 (⟨x13.Name, x13.Pins, []⟩ : Net) 2 [.sl 1 (List.map e_str [])] (by kernel_rfl)) (an (Eq.refl ((i5 + 1) : Nat)) (an (nt_set e_Net h14 (⟨x13.Name, x13.Pins, []⟩ : Net)) (an (nc_set e_Net (y6.set (Int.toNat (i5 : Int)) (⟨x13.Name, x13.Pins, []⟩ : Net)) (Int.toNat (i5 : Int)) (⟨(⟨x13.Name, x13.Pins, []⟩ : Net).Name, r9, (⟨x13.Name, x13.Pins, []⟩ : Net).Ports⟩ : Net) (⟨x13.Name, x13.Pins, []⟩ : Net) 1 (.sl 2 (List.map e_Pin r9)) (by kernel_rfl)) (wrap_eq hi hM)))))))))))) (by kernel_rfl)
theorem nl_Own_b0_e (r1 : List Part) (r3 : List Net) (y6 : List Net) : Runs PG 37 0 nl_Own_c0 (nl_Own_F0 r1 r3 (r3.length) y6) (nl_Own_H0 r1 r3 (r3.length) y6) (nl_Own_B0 r1 r3 y6) := by
  exact Runs.path XTok PGmix [.r [], .b false] [] (lt_false (r3.length)) (by kernel_rfl)
theorem nl_Own_l0 (r1 : List Part) (r3 : List Net) (y6 : List Net) (hM : r3.length ≤ lim) (r : Fin' (List Net) Netlist) (h : forN (fun i5 s => nl_Own_b0 r1 r3 i5 s) (r3.length) 0 y6 = some r) : Runs PG 37 0 (cL (cR (cL (cR (cR nl_Own_c))))) (nl_Own_F0 r1 r3 0 y6) (nl_Own_H0 r1 r3 0 y6) (finOc (nl_Own_B0 r1 r3) nl_Own_R r) :=
  Runs.loop' (by kernel_rfl) (forN_rounds (σ := (List Net)) (ρ := Netlist) (body := fun i5 s => nl_Own_b0 r1 r3 i5 s) (F := fun i5 s => nl_Own_F0 r1 r3 i5 s) (H := fun i5 s => nl_Own_H0 r1 r3 i5 s) (B := nl_Own_B0 r1 r3) (R := nl_Own_R) (M := r3.length) (fun _ => rfl) (fun _ => rfl) (fun s => nl_Own_b0_e r1 r3 s) (fun i s o hi h => nl_Own_b0_r r1 r3 i s o hM hi h) _ 0 _ r (Nat.zero_add _) h)
noncomputable def nl_Own (a0 : Netlist) : Option Netlist :=
 bnd (slices_Clone_api_Part_api_Part_new a0.Parts) fun r1 =>
 bnd (slices_Clone_api_Net_api_Net_new a0.Nets) fun r3 =>
 grd (r3.length ≤ lim) <|
 aft1 (forN (fun i5 s => nl_Own_b0 r1 r3 i5 s) (r3.length) 0 r3) (fun u15 =>
 grd (u15.length = r3.length) <|
 some (⟨r1, u15⟩ : Netlist))
 (fun r17 =>
 some r17)
theorem nl_Own_ok (a0 : Netlist) (r : Netlist) (h : nl_Own a0 = some r) : Spec PG 32 [gT (e_Netlist a0)] [] (.t (.agg [.rt 1, .rt 2])) [(1, .row 43 2 (List.map e_Part r.Parts)), (2, .nrow 53 3 1 55 2 (r.Nets).length [] (List.map e_Net r.Nets))] := by
  unfold nl_Own at h
  obtain ⟨r1, h2, h⟩ := bnd_e h
  obtain ⟨r3, h4, h⟩ := bnd_e h
  obtain ⟨h18, h⟩ := grd_e h
  rcases aft1_e h with ⟨u15, h16, h⟩ | ⟨r17, h16, h⟩
  · obtain ⟨h19, h⟩ := grd_e h
    have h := Option.some.inj h
    subst h
    exact Spec.path XTok PGmix nl_Own_fn 0 [.r [.id 0, .id 1], .d [([], []), ([0], []), ([], [.call [(0, 2)] [lT 2 (List.map e_Part a0.Parts)] [] (.t (.v (.rt 0))) [(0, .row 43 2 (List.map e_Part r1))]]), ([], []), ([0], []), ([], [.call [(0, 3)] [lT 3 (List.map e_Net a0.Nets)] [] (.t (.v (.rt 0))) [(0, .row 53 3 (List.map e_Net r3))]]), ([], []), ([0], []), ([], []), ([0], [])], .g (.w 3 1 55 2), .r [.eq 14 (iA (r3.length : Int))], .s (nl_Own_F0 r1 r3 0 r3) (nl_Own_H0 r1 r3 0 r3) [] (nl_Own_B0 r1 r3 u15), .g (.e 3 (u15).length), .r [], .w [(2, .t (.v (.ptr 0 0)))] [(1, .row 43 2 (List.map e_Part r1)), (2, .nrow 53 3 1 55 2 (u15).length [] (List.map e_Net u15)), (0, .cells 26 [.rt 1, .rt 2])] [(0, 1), (1, 2), (2, 3)]] (an (an (slices_Clone_api_Part_api_Part_new_ok a0.Parts r1 h2) (an (Eq.refl ([lT 2 (List.map e_Part a0.Parts)] : List TV)) (Eq.refl (renH (asg [(0, 2)]) [])))) (an (an (slices_Clone_api_Net_api_Net_new_ok a0.Nets r3 h4) (an (Eq.refl ([lT 3 (List.map e_Net a0.Nets)] : List TV)) (Eq.refl (renH (asg [(0, 3)]) [])))) (an (leni_eq e_Net r3) (an (nl_Own_l0 r1 r3 r3 h18 (.fin u15) h16) h19)))) (by kernel_rfl)
  · have h := Option.some.inj h
    subst h
    exact Spec.path XTok PGmix nl_Own_fn 0 [.r [.id 0, .id 1], .d [([], []), ([0], []), ([], [.call [(0, 2)] [lT 2 (List.map e_Part a0.Parts)] [] (.t (.v (.rt 0))) [(0, .row 43 2 (List.map e_Part r1))]]), ([], []), ([0], []), ([], [.call [(0, 3)] [lT 3 (List.map e_Net a0.Nets)] [] (.t (.v (.rt 0))) [(0, .row 53 3 (List.map e_Net r3))]]), ([], []), ([0], []), ([], []), ([0], [])], .g (.w 3 1 55 2), .r [.eq 14 (iA (r3.length : Int))], .s (nl_Own_F0 r1 r3 0 r3) (nl_Own_H0 r1 r3 0 r3) [] (nl_Own_R r17)] (an (an (slices_Clone_api_Part_api_Part_new_ok a0.Parts r1 h2) (an (Eq.refl ([lT 2 (List.map e_Part a0.Parts)] : List TV)) (Eq.refl (renH (asg [(0, 2)]) [])))) (an (an (slices_Clone_api_Net_api_Net_new_ok a0.Nets r3 h4) (an (Eq.refl ([lT 3 (List.map e_Net a0.Nets)] : List TV)) (Eq.refl (renH (asg [(0, 3)]) [])))) (an (leni_eq e_Net r3) (nl_Own_l0 r1 r3 r3 h18 (.ret r17) h16)))) (by kernel_rfl)

noncomputable def nl_Joined_c : Code := (Go.Proofs.Tryz.f8.body).getD .skip
theorem nl_Joined_fn : FnOk PG 8 nl_Joined_c 98 [.cell 8 26, .tmp 9] := ⟨⟨Go.Proofs.Tryz.f8, by kernel_rfl, by kernel_rfl, by kernel_rfl, by kernel_rfl, by kernel_rfl⟩⟩
noncomputable def nl_Joined (a0 : List PartType) (a1 : Netlist) (a2 : ByteArray) (a3 : ByteArray) : Option (Netlist × Int) :=
 bnd (nl_CheckList a0 a1) fun r1 =>
 cnd (r1 != 0) (some ((⟨[], []⟩ : Netlist), r1)) (bnd (nl_NetAt a1 a2) fun r4 =>
 bnd (nl_NetAt a1 a3) fun r6 =>
 bnd1 (cnd (decide (r4 < 0)) (some true) (some (decide (r6 < 0)))) fun v8 =>
 cnd v8 (some ((⟨[], []⟩ : Netlist), 9)) (cnd (r4 == r6) (some ((⟨[], []⟩ : Netlist), 12)) (bnd (atI a1.Nets r4) fun x15 =>
 bnd (atI a1.Nets r6) fun x17 =>
 cnd (decide ((w64 ((x15.Pins.length : Int) + (x17.Pins.length : Int))) > 500)) (some ((⟨[], []⟩ : Netlist), 2)) (bnd (nl_Own a1) fun r20 =>
 bnd (atI r20.Nets (mn r4 r6)) fun x22 =>
 bnd (atI r20.Nets (mx r4 r6)) fun x24 =>
 grd ((Int.toNat (mn r4 r6)) ≠ (Int.toNat (mx r4 r6))) <|
 grd (x22.Pins.length + x24.Pins.length ≤ lim) <|
 bnd (h_SortFunc_Pin ((⟨x22.Name, x22.Pins ++ x24.Pins, x22.Ports⟩ : Net).Pins)) fun r28 =>
 bnd (h_Delete_Net (((r20.Nets.set (Int.toNat (mn r4 r6)) (⟨x22.Name, x22.Pins ++ x24.Pins, x22.Ports⟩ : Net)).set (Int.toNat (mx r4 r6)) x24).set (Int.toNat (mn r4 r6)) (⟨(⟨x22.Name, x22.Pins ++ x24.Pins, x22.Ports⟩ : Net).Name, r28, (⟨x22.Name, x22.Pins ++ x24.Pins, x22.Ports⟩ : Net).Ports⟩ : Net)) (mx r4 r6) (w64 ((mx r4 r6) + 1))) fun r30 =>
 some ((⟨r20.Parts, r30⟩ : Netlist), 0)))))
theorem nl_Joined_ok (a0 : List PartType) (a1 : Netlist) (a2 : ByteArray) (a3 : ByteArray) (r : Netlist × Int) (h : nl_Joined a0 a1 a2 a3 = some r) : Spec PG 8 [lT 2 (List.map e_PartType a0), gT (e_Netlist a1), sT a2, sT a3] [] (.tup [gT (e_Netlist r.1), iT r.2]) [] := by
  unfold nl_Joined at h
  obtain ⟨r1, h2, h⟩ := bnd_e h
  rcases cnd_e h with ⟨h3, h⟩ | ⟨h3, h⟩
  · have h := Option.some.inj h
    subst h
    exact Spec.path XTok PGmix nl_Joined_fn 0 [.r [.id 0, .id 1], .r [.val (iA r1)], .r [], .b true, .r [], .m 1 0 2, .m 1 1 3, .w [(8, .t (.v (.ptr 0 0))), (9, iA r1)] [(0, .cells 26 [.c (.sl 2 (List.map e_Part [])), .c (.sl 3 (List.map e_Net []))])] [(0, 1)]] (an (nl_CheckList_ok a0 a1 r1 h2) h3) (by kernel_rfl)
  · obtain ⟨r4, h5, h⟩ := bnd_e h
    obtain ⟨r6, h7, h⟩ := bnd_e h
    obtain ⟨v8, h9, h⟩ := bnd1_e h
    let q12_f : Fr := [(5, .t (.v (.ptr 0 0))), (8, .t (.v (.ptr 1 0))), (11, iA r4), (12, iA r6)]
    let q12_g : Hp := [(0, .cells 26 [.c (.sl 2 (List.map e_Part a1.Parts)), .c (.sl 3 (List.map e_Net a1.Nets))]), (1, .cells 26 [.c (.nil), .c (.nil)])]
    let q12_f' : Fr := [(5, .t (.v (.ptr 0 0))), (8, .t (.v (.ptr 1 0))), (11, iA r4), (12, iA r6), (28, bA v8)]
    let q12_g' : Hp := [(0, .cells 26 [.c (.sl 2 (List.map e_Part a1.Parts)), .c (.sl 3 (List.map e_Net a1.Nets))]), (1, .cells 26 [.c (.nil), .c (.nil)])]
    have R10 : Runs PG 98 0 (cL (cL (cL (cR (cR (cR nl_Joined_c)))))) q12_f q12_g (.nor q12_f' q12_g') := by
      rcases cnd_e h9 with ⟨h11, h9⟩ | ⟨h11, h9⟩
      · have h9 := Option.some.inj h9
        subst h9
        exact Runs.path XTok PGmix [.r [.b true, .b true, .b true]] [] (an h11 (an h11 h11)) (by kernel_rfl)
      · have h9 := Option.some.inj h9
        subst h9
        exact Runs.path XTok PGmix [.r [.b false, .b false, .b false]] [] (an h11 (an h11 h11)) (by kernel_rfl)
    rcases cnd_e h with ⟨h13, h⟩ | ⟨h13, h⟩
    · have h := Option.some.inj h
      subst h
      exact Spec.path XTok PGmix nl_Joined_fn 0 [.r [.id 0, .id 1], .r [.val (iA r1)], .r [], .b false, .d [([0], []), ([], []), ([], [.val (iA r4)]), ([0], []), ([], []), ([], [.val (iA r6)]), ([], []), ([], [])], .s q12_f q12_g [] (.nor q12_f' q12_g'), .b true, .r [], .m 1 0 2, .m 1 1 3, .w [(8, .t (.v (.ptr 0 0))), (9, iA 9)] [(0, .cells 26 [.c (.sl 2 (List.map e_Part [])), .c (.sl 3 (List.map e_Net []))])] [(0, 1)]] (an (nl_CheckList_ok a0 a1 r1 h2) (an h3 (an (nl_NetAt_ok a1 a2 r4 h5) (an (nl_NetAt_ok a1 a3 r6 h7) (an R10 h13))))) (by kernel_rfl)
    · rcases cnd_e h with ⟨h14, h⟩ | ⟨h14, h⟩
      · have h := Option.some.inj h
        subst h
        exact Spec.path XTok PGmix nl_Joined_fn 0 [.r [.id 0, .id 1], .r [.val (iA r1)], .r [], .b false, .d [([0], []), ([], []), ([], [.val (iA r4)]), ([0], []), ([], []), ([], [.val (iA r6)]), ([], []), ([], [])], .s q12_f q12_g [] (.nor q12_f' q12_g'), .b false, .r [], .b true, .r [], .m 1 0 2, .m 1 1 3, .w [(8, .t (.v (.ptr 0 0))), (9, iA 12)] [(0, .cells 26 [.c (.sl 2 (List.map e_Part [])), .c (.sl 3 (List.map e_Net []))])] [(0, 1)]] (an (nl_CheckList_ok a0 a1 r1 h2) (an h3 (an (nl_NetAt_ok a1 a2 r4 h5) (an (nl_NetAt_ok a1 a3 r6 h7) (an R10 (an h13 h14)))))) (by kernel_rfl)
      · obtain ⟨x15, h16, h⟩ := bnd_e h
        obtain ⟨x17, h18, h⟩ := bnd_e h
        rcases cnd_e h with ⟨h19, h⟩ | ⟨h19, h⟩
        · have h := Option.some.inj h
          subst h
          exact Spec.path XTok PGmix nl_Joined_fn 0 [.r [.id 0, .id 1], .r [.val (iA r1)], .r [], .b false, .d [([0], []), ([], []), ([], [.val (iA r4)]), ([0], []), ([], []), ([], [.val (iA r6)]), ([], []), ([], [])], .s q12_f q12_g [] (.nor q12_f' q12_g'), .b false, .r [], .b false, .d [([], []), ([0], []), ([], []), ([], [.el (e_Net x15)]), ([], []), ([], []), ([], [.eq 48 (iA (x15.Pins.length : Int))]), ([], []), ([0], []), ([], []), ([], [.el (e_Net x17)]), ([], []), ([], []), ([], [.eq 55 (iA (x17.Pins.length : Int))]), ([], []), ([], []), ([], [])], .b true, .r [], .m 1 0 2, .m 1 1 3, .w [(8, .t (.v (.ptr 0 0))), (9, iA 2)] [(0, .cells 26 [.c (.sl 2 (List.map e_Part [])), .c (.sl 3 (List.map e_Net []))])] [(0, 1)]] (an (nl_CheckList_ok a0 a1 r1 h2) (an h3 (an (nl_NetAt_ok a1 a2 r4 h5) (an (nl_NetAt_ok a1 a3 r6 h7) (an R10 (an h13 (an h14 (an (idx_ok e_Net h16) (an (leni_eq e_Pin x15.Pins) (an (idx_ok e_Net h18) (an (leni_eq e_Pin x17.Pins) h19))))))))))) (by kernel_rfl)
        · obtain ⟨r20, h21, h⟩ := bnd_e h
          obtain ⟨x22, h23, h⟩ := bnd_e h
          obtain ⟨x24, h25, h⟩ := bnd_e h
          obtain ⟨h26, h⟩ := grd_e h
          obtain ⟨h27, h⟩ := grd_e h
          obtain ⟨r28, h29, h⟩ := bnd_e h
          obtain ⟨r30, h31, h⟩ := bnd_e h
          have h := Option.some.inj h
          subst h
          exact Spec.path XTok PGmix nl_Joined_fn 0 [.r [.id 0, .id 1], .r [.val (iA r1)], .r [], .b false, .d [([0], []), ([], []), ([], [.val (iA r4)]), ([0], []), ([], []), ([], [.val (iA r6)]), ([], []), ([], [])], .s q12_f q12_g [] (.nor q12_f' q12_g'), .b false, .r [], .b false, .d [([], []), ([0], []), ([], []), ([], [.el (e_Net x15)]), ([], []), ([], []), ([], [.eq 48 (iA (x15.Pins.length : Int))]), ([], []), ([0], []), ([], []), ([], [.el (e_Net x17)]), ([], []), ([], []), ([], [.eq 55 (iA (x17.Pins.length : Int))]), ([], []), ([], []), ([], [])], .b false, .r [], .r [.call [(1, 2), (2, 3)] [gT (e_Netlist a1)] [] (.t (.agg [.rt 1, .rt 2])) [(1, .row 43 2 (List.map e_Part r20.Parts)), (2, .nrow 53 3 1 55 2 (r20.Nets).length [] (List.map e_Net r20.Nets))], .id 4], .r [], .g (.t 3 (Int.toNat (mn r4 r6)) 5 (e_Net x22)), .g (.t 3 (Int.toNat (mx r4 r6)) 6 (e_Net x24)), .d [([], []), ([], []), ([], []), ([], []), ([3], [.hl 5]), ([], []), ([4], []), ([], []), ([3], []), ([], []), ([3], [.hl 6]), ([5, 6], [.id 7, .row (List.map e_Pin (x22.Pins ++ x24.Pins))]), ([], []), ([], []), ([3], [.hl 5])], .g (.c 3 7 (r20.Nets.set (Int.toNat (mn r4 r6)) (⟨x22.Name, x22.Pins ++ x24.Pins, x22.Ports⟩ : Net)).length (e_Net x22) (List.map e_Net (r20.Nets.set (Int.toNat (mn r4 r6)) (⟨x22.Name, x22.Pins ++ x24.Pins, x22.Ports⟩ : Net)))), .g (.c 3 6 ((r20.Nets.set (Int.toNat (mn r4 r6)) (⟨x22.Name, x22.Pins ++ x24.Pins, x22.Ports⟩ : Net)).set (Int.toNat (mx r4 r6)) x24).length (e_Net x24) (List.map e_Net ((r20.Nets.set (Int.toNat (mn r4 r6)) (⟨x22.Name, x22.Pins ++ x24.Pins, x22.Ports⟩ : Net)).set (Int.toNat (mx r4 r6)) x24))), .g (.t 3 (Int.toNat (mn r4 r6)) 8 [sC ((⟨x22.Name, x22.Pins ++ x24.Pins, x22.Ports⟩ : Net).Name), .sl 2 (List.map e_Pin ((⟨x22.Name, x22.Pins ++ x24.Pins, x22.Ports⟩ : Net).Pins)), .sl 1 (List.map e_str ((⟨x22.Name, x22.Pins ++ x24.Pins, x22.Ports⟩ : Net).Ports))]), .r [.hl 8, .call [(0, 8)] [.v (.rt 0), .v (.c (.fn 34 []))] [(0, .row 55 2 (List.map e_Pin ((⟨x22.Name, x22.Pins ++ x24.Pins, x22.Ports⟩ : Net).Pins)))] (.tup []) [(0, .row 55 2 (List.map e_Pin r28))]], .g (.c 3 8 (((r20.Nets.set (Int.toNat (mn r4 r6)) (⟨x22.Name, x22.Pins ++ x24.Pins, x22.Ports⟩ : Net)).set (Int.toNat (mx r4 r6)) x24).set (Int.toNat (mn r4 r6)) (⟨(⟨x22.Name, x22.Pins ++ x24.Pins, x22.Ports⟩ : Net).Name, r28, (⟨x22.Name, x22.Pins ++ x24.Pins, x22.Ports⟩ : Net).Ports⟩ : Net)).length [sC ((⟨x22.Name, x22.Pins ++ x24.Pins, x22.Ports⟩ : Net).Name), .sl 2 (List.map e_Pin ((⟨x22.Name, x22.Pins ++ x24.Pins, x22.Ports⟩ : Net).Pins)), .sl 1 (List.map e_str ((⟨x22.Name, x22.Pins ++ x24.Pins, x22.Ports⟩ : Net).Ports))] (List.map e_Net (((r20.Nets.set (Int.toNat (mn r4 r6)) (⟨x22.Name, x22.Pins ++ x24.Pins, x22.Ports⟩ : Net)).set (Int.toNat (mx r4 r6)) x24).set (Int.toNat (mn r4 r6)) (⟨(⟨x22.Name, x22.Pins ++ x24.Pins, x22.Ports⟩ : Net).Name, r28, (⟨x22.Name, x22.Pins ++ x24.Pins, x22.Ports⟩ : Net).Ports⟩ : Net)))), .g (.z 3), .r [.call [(0, 3), (1, 9)] [.v (.rt 0), iT (mx r4 r6), iT (w64 ((mx r4 r6) + 1))] [(0, .row 53 3 (List.map e_Net (((r20.Nets.set (Int.toNat (mn r4 r6)) (⟨x22.Name, x22.Pins ++ x24.Pins, x22.Ports⟩ : Net)).set (Int.toNat (mx r4 r6)) x24).set (Int.toNat (mn r4 r6)) (⟨(⟨x22.Name, x22.Pins ++ x24.Pins, x22.Ports⟩ : Net).Name, r28, (⟨x22.Name, x22.Pins ++ x24.Pins, x22.Ports⟩ : Net).Ports⟩ : Net))))] (.t (.v (.rt 1))) [(1, .row 53 3 (List.map e_Net r30))]], .r [], .f 2, .f 9, .w [(8, .t (.v (.ptr 0 0))), (9, iA 0)] [(0, .cells 26 [.c (.sl 2 (List.map e_Part r20.Parts)), .c (.sl 3 (List.map e_Net r30))])] [(0, 1)]] (an (nl_CheckList_ok a0 a1 r1 h2) (an h3 (an (nl_NetAt_ok a1 a2 r4 h5) (an (nl_NetAt_ok a1 a3 r6 h7) (an R10 (an h13 (an h14 (an (idx_ok e_Net h16) (an (leni_eq e_Pin x15.Pins) (an (idx_ok e_Net h18) (an (leni_eq e_Pin x17.Pins) (an h19 (an (an (nl_Own_ok a1 r20 h21) (an (Eq.refl ([gT (e_Netlist a1)] : List TV)) (Eq.refl (renH (asg [(1, 2), (2, 3)]) [])))) (an (idx_lt e_Net h23) (an (nt_lt h23) (an (nt_el e_Net h23) (an trivial (an (nt_lt h25) (an (nt_el e_Net h25) (an (an h26 trivial) (an (Eq.refl (Int.toNat (mn r4 r6))) (an (idx_lt e_Net h25) (an (Eq.refl (Int.toNat (mx r4 r6))) (an (app_ok e_Pin h27) (an (an (Eq.refl (Int.toNat (mn r4 r6))) (an (Ne.symm h26) trivial)) (an (nc_len r20.Nets (Int.toNat (mn r4 r6)) (⟨x22.Name, x22.Pins ++ x24.Pins, x22.Ports⟩ : Net)) (an (nt_el e_Net h23) (an (nc_set e_Net r20.Nets (Int.toNat (mn r4 r6)) (⟨x22.Name, x22.Pins ++ x24.Pins, x22.Ports⟩ : Net) x22 1 (.sl 2 (List.map e_Pin (x22.Pins ++ x24.Pins))) (by kernel_rfl)) (an (nc_len (r20.Nets.set (Int.toNat (mn r4 r6)) (⟨x22.Name, x22.Pins ++ x24.Pins, x22.Ports⟩ : Net)) (Int.toNat (mx r4 r6)) x24) (an (nt_other e_Net h26 (⟨x22.Name, x22.Pins ++ x24.Pins, x22.Ports⟩ : Net) (nt_el e_Net h25)) (an (nc_set e_Net (r20.Nets.set (Int.toNat (mn r4 r6)) (⟨x22.Name, x22.Pins ++ x24.Pins, x22.Ports⟩ : Net)) (Int.toNat (mx r4 r6)) x24 x24 1 (.sl 2 (List.map e_Pin x24.Pins)) (by kernel_rfl)) (an (nt_lt (atI_ne (Ne.symm h26) x24 (atI_set (⟨x22.Name, x22.Pins ++ x24.Pins, x22.Ports⟩ : Net) h23))) (an (nt_el e_Net (atI_ne (Ne.symm h26) x24 (atI_set (⟨x22.Name, x22.Pins ++ x24.Pins, x22.Ports⟩ : Net) h23))) (an trivial (an (Eq.refl (Int.toNat (mn r4 r6))) (an (an (h_SortFunc_Pin_ok ((⟨x22.Name, x22.Pins ++ x24.Pins, x22.Ports⟩ : Net).Pins) r28 h29) (an (Eq.refl ([.v (.rt 8), .v (.c (.fn 34 []))] : List TV)) (Eq.refl (renH (asg [(0, 8)]) [(0, .row 55 2 (List.map e_Pin ((⟨x22.Name, x22.Pins ++ x24.Pins, x22.Ports⟩ : Net).Pins)))])))) (an (nc_len ((r20.Nets.set (Int.toNat (mn r4 r6)) (⟨x22.Name, x22.Pins ++ x24.Pins, x22.Ports⟩ : Net)).set (Int.toNat (mx r4 r6)) x24) (Int.toNat (mn r4 r6)) (⟨(⟨x22.Name, x22.Pins ++ x24.Pins, x22.Ports⟩ : Net).Name, r28, (⟨x22.Name, x22.Pins ++ x24.Pins, x22.Ports⟩ : Net).Ports⟩ : Net)) (an (nt_el e_Net (atI_ne (Ne.symm h26) x24 (atI_set (⟨x22.Name, x22.Pins ++ x24.Pins, x22.Ports⟩ : Net) h23))) (an (nc_set e_Net ((r20.Nets.set (Int.toNat (mn r4 r6)) (⟨x22.Name, x22.Pins ++ x24.Pins, x22.Ports⟩ : Net)).set (Int.toNat (mx r4 r6)) x24) (Int.toNat (mn r4 r6)) (⟨(⟨x22.Name, x22.Pins ++ x24.Pins, x22.Ports⟩ : Net).Name, r28, (⟨x22.Name, x22.Pins ++ x24.Pins, x22.Ports⟩ : Net).Ports⟩ : Net) (⟨x22.Name, x22.Pins ++ x24.Pins, x22.Ports⟩ : Net) 1 (.sl 2 (List.map e_Pin r28)) (by kernel_rfl)) (an (h_Delete_Net_ok (((r20.Nets.set (Int.toNat (mn r4 r6)) (⟨x22.Name, x22.Pins ++ x24.Pins, x22.Ports⟩ : Net)).set (Int.toNat (mx r4 r6)) x24).set (Int.toNat (mn r4 r6)) (⟨(⟨x22.Name, x22.Pins ++ x24.Pins, x22.Ports⟩ : Net).Name, r28, (⟨x22.Name, x22.Pins ++ x24.Pins, x22.Ports⟩ : Net).Ports⟩ : Net)) (mx r4 r6) (w64 ((mx r4 r6) + 1)) r30 h31) (an (Eq.refl ([.v (.rt 3), iT (mx r4 r6), iT (w64 ((mx r4 r6) + 1))] : List TV)) (Eq.refl (renH (asg [(0, 3), (1, 9)]) [(0, .row 53 3 (List.map e_Net (((r20.Nets.set (Int.toNat (mn r4 r6)) (⟨x22.Name, x22.Pins ++ x24.Pins, x22.Ports⟩ : Net)).set (Int.toNat (mx r4 r6)) x24).set (Int.toNat (mn r4 r6)) (⟨(⟨x22.Name, x22.Pins ++ x24.Pins, x22.Ports⟩ : Net).Name, r28, (⟨x22.Name, x22.Pins ++ x24.Pins, x22.Ports⟩ : Net).Ports⟩ : Net))))]))))))))))))))))))))))))))))))))))))))))))) (by kernel_rfl)

noncomputable def ref_netNamed_c : Code := (Go.Proofs.Tryz.f27.body).getD .skip
theorem ref_netNamed_fn : FnOk PG 27 ref_netNamed_c 21 [.tmp 4] := ⟨⟨Go.Proofs.Tryz.f27, by kernel_rfl, by kernel_rfl, by kernel_rfl, by kernel_rfl, by kernel_rfl⟩⟩
noncomputable def ref_netNamed_c0 : Code := cL (cL (cR (cL (cR ref_netNamed_c))))
noncomputable def ref_netNamed_R (r : Int) : Oc := .ret [(4, iA r)] []
noncomputable def ref_netNamed_F0 (a0 : Netlist) (a1 : ByteArray) (i1 : Nat) : Fr := [(1, sA a1), (8, lA 3 (List.map e_Net a0.Nets)), (9, iA (a0.Nets.length : Int)), (10, iA (i1 : Int))]
noncomputable def ref_netNamed_H0 (a0 : Netlist) (a1 : ByteArray) (i1 : Nat) : Hp := []
noncomputable def ref_netNamed_B0 (a0 : Netlist) (a1 : ByteArray) (s : Unit) : Oc := .ex 0 [] []
noncomputable def ref_netNamed_b0 (a0 : Netlist) (a1 : ByteArray) (i1 : Nat) : Option (Stp Unit Int) :=
 bnd (atI a0.Nets (i1 : Int)) fun x2 =>
 cnd (sEq x2.Name a1) (some (.ret (i1 : Int))) (some (.go ()))
theorem ref_netNamed_b0_r (a0 : Netlist) (a1 : ByteArray) (i1 : Nat) (o : Stp Unit Int) (hi : i1 < a0.Nets.length) (h : ref_netNamed_b0 a0 a1 i1 = some o) :
    Runs PG 21 0 ref_netNamed_c0 (ref_netNamed_F0 a0 a1 i1 ) (ref_netNamed_H0 a0 a1 i1 ) (stpOc (fun s' => .nor (ref_netNamed_F0 a0 a1 (i1 + 1) ) (ref_netNamed_H0 a0 a1 (i1 + 1) )) (ref_netNamed_B0 a0 a1) ref_netNamed_R o) := by
  unfold ref_netNamed_b0 at h
  refine Runs.len (s := 8) (sz := 3) (xs := List.map e_Net a0.Nets) (by kernel_rfl) fun hl => ?_
  have hM : a0.Nets.length ≤ lim := len_of hl
  obtain ⟨x2, h3, h⟩ := bnd_e h
  rcases cnd_e h with ⟨h4, h⟩ | ⟨h4, h⟩
  · have h := Option.some.inj h
    subst h
    exact Runs.path XTok PGmix [.r [], .b true, .r [.el (e_Net x2), .id 0], .r [], .b true, .r []] [] (an (lt_true hi) (an (idx_ok e_Net h3) h4)) (by kernel_rfl)
  · have h := Option.some.inj h
    subst h
    exact Runs.path XTok PGmix [.r [], .b true, .r [.el (e_Net x2), .id 0], .r [], .b false, .r [.eq 20 (iA ((i1 + 1 : Nat) : Int))]] [] (an (lt_true hi) (an (idx_ok e_Net h3) (an h4 (wrap_eq hi hM)))) (by kernel_rfl)
theorem ref_netNamed_b0_e (a0 : Netlist) (a1 : ByteArray) : Runs PG 21 0 ref_netNamed_c0 (ref_netNamed_F0 a0 a1 (a0.Nets.length) ) (ref_netNamed_H0 a0 a1 (a0.Nets.length) ) (ref_netNamed_B0 a0 a1 ()) := by
  exact Runs.path XTok PGmix [.r [], .b false] [] (lt_false (a0.Nets.length)) (by kernel_rfl)
theorem ref_netNamed_l0 (a0 : Netlist) (a1 : ByteArray) (r : Fin' Unit Int) (h : forN (fun i1 s => ref_netNamed_b0 a0 a1 i1 ) (a0.Nets.length) 0 () = some r) : Runs PG 21 0 (cL (cR (cL (cR ref_netNamed_c)))) (ref_netNamed_F0 a0 a1 0 ) (ref_netNamed_H0 a0 a1 0 ) (finOc (ref_netNamed_B0 a0 a1) ref_netNamed_R r) :=
  Runs.loop' (by kernel_rfl) (forN_rounds (σ := Unit) (ρ := Int) (body := fun i1 s => ref_netNamed_b0 a0 a1 i1 ) (F := fun i1 s => ref_netNamed_F0 a0 a1 i1 ) (H := fun i1 s => ref_netNamed_H0 a0 a1 i1 ) (B := ref_netNamed_B0 a0 a1) (R := ref_netNamed_R) (M := a0.Nets.length) (fun _ => rfl) (fun _ => rfl) (fun s => ref_netNamed_b0_e a0 a1 ) (fun i s o hi h => ref_netNamed_b0_r a0 a1 i o hi h) _ 0 _ r (Nat.zero_add _) h)
noncomputable def ref_netNamed (a0 : Netlist) (a1 : ByteArray) : Option Int :=
 aft0 (forN (fun i1 s => ref_netNamed_b0 a0 a1 i1 ) (a0.Nets.length) 0 ()) (
 some (-1))
 (fun r6 =>
 some r6)
theorem ref_netNamed_ok (a0 : Netlist) (a1 : ByteArray) (r : Int) (h : ref_netNamed a0 a1 = some r) : Spec PG 27 [gT (e_Netlist a0), sT a1] [] (iA r) [] := by
  unfold ref_netNamed at h
  rcases aft0_e h with ⟨h5, h⟩ | ⟨r6, h5, h⟩
  · have h := Option.some.inj h
    subst h
    exact Spec.path XTok PGmix ref_netNamed_fn 0 [.r [.id 0], .r [.eq 9 (iA (a0.Nets.length : Int))], .s (ref_netNamed_F0 a0 a1 0 ) (ref_netNamed_H0 a0 a1 0 ) [] (ref_netNamed_B0 a0 a1 ()), .r []] (an (leni_eq e_Net a0.Nets) (ref_netNamed_l0 a0 a1 (.fin ()) h5)) (by kernel_rfl)
  · have h := Option.some.inj h
    subst h
    exact Spec.path XTok PGmix ref_netNamed_fn 0 [.r [.id 0], .r [.eq 9 (iA (a0.Nets.length : Int))], .s (ref_netNamed_F0 a0 a1 0 ) (ref_netNamed_H0 a0 a1 0 ) [] (ref_netNamed_R r6)] (an (leni_eq e_Net a0.Nets) (ref_netNamed_l0 a0 a1 (.ret r6) h5)) (by kernel_rfl)

noncomputable def ref_typeOf_c : Code := (Go.Proofs.Tryz.f55.body).getD .skip
theorem ref_typeOf_fn : FnOk PG 55 ref_typeOf_c 20 [.tmp 4] := ⟨⟨Go.Proofs.Tryz.f55, by kernel_rfl, by kernel_rfl, by kernel_rfl, by kernel_rfl, by kernel_rfl⟩⟩
noncomputable def ref_typeOf_c0 : Code := cL (cL (cR (cL (cR ref_typeOf_c))))
noncomputable def ref_typeOf_R (r : Int) : Oc := .ret [(4, iA r)] []
noncomputable def ref_typeOf_F0 (a0 : List PartType) (a1 : ByteArray) (i1 : Nat) : Fr := [(1, sA a1), (7, lA 2 (List.map e_PartType a0)), (8, iA (a0.length : Int)), (9, iA (i1 : Int))]
noncomputable def ref_typeOf_H0 (a0 : List PartType) (a1 : ByteArray) (i1 : Nat) : Hp := []
noncomputable def ref_typeOf_B0 (a0 : List PartType) (a1 : ByteArray) (s : Unit) : Oc := .ex 0 [] []
noncomputable def ref_typeOf_b0 (a0 : List PartType) (a1 : ByteArray) (i1 : Nat) : Option (Stp Unit Int) :=
 bnd (atI a0 (i1 : Int)) fun x2 =>
 cnd (sEq x2.Name a1) (some (.ret (i1 : Int))) (some (.go ()))
theorem ref_typeOf_b0_r (a0 : List PartType) (a1 : ByteArray) (i1 : Nat) (o : Stp Unit Int) (hi : i1 < a0.length) (h : ref_typeOf_b0 a0 a1 i1 = some o) :
    Runs PG 20 0 ref_typeOf_c0 (ref_typeOf_F0 a0 a1 i1 ) (ref_typeOf_H0 a0 a1 i1 ) (stpOc (fun s' => .nor (ref_typeOf_F0 a0 a1 (i1 + 1) ) (ref_typeOf_H0 a0 a1 (i1 + 1) )) (ref_typeOf_B0 a0 a1) ref_typeOf_R o) := by
  unfold ref_typeOf_b0 at h
  refine Runs.len (s := 7) (sz := 2) (xs := List.map e_PartType a0) (by kernel_rfl) fun hl => ?_
  have hM : a0.length ≤ lim := len_of hl
  obtain ⟨x2, h3, h⟩ := bnd_e h
  rcases cnd_e h with ⟨h4, h⟩ | ⟨h4, h⟩
  · have h := Option.some.inj h
    subst h
    exact Runs.path XTok PGmix [.r [], .b true, .r [.el (e_PartType x2), .id 0], .r [], .b true, .r []] [] (an (lt_true hi) (an (idx_ok e_PartType h3) h4)) (by kernel_rfl)
  · have h := Option.some.inj h
    subst h
    exact Runs.path XTok PGmix [.r [], .b true, .r [.el (e_PartType x2), .id 0], .r [], .b false, .r [.eq 19 (iA ((i1 + 1 : Nat) : Int))]] [] (an (lt_true hi) (an (idx_ok e_PartType h3) (an h4 (wrap_eq hi hM)))) (by kernel_rfl)
theorem ref_typeOf_b0_e (a0 : List PartType) (a1 : ByteArray) : Runs PG 20 0 ref_typeOf_c0 (ref_typeOf_F0 a0 a1 (a0.length) ) (ref_typeOf_H0 a0 a1 (a0.length) ) (ref_typeOf_B0 a0 a1 ()) := by
  exact Runs.path XTok PGmix [.r [], .b false] [] (lt_false (a0.length)) (by kernel_rfl)
theorem ref_typeOf_l0 (a0 : List PartType) (a1 : ByteArray) (r : Fin' Unit Int) (h : forN (fun i1 s => ref_typeOf_b0 a0 a1 i1 ) (a0.length) 0 () = some r) : Runs PG 20 0 (cL (cR (cL (cR ref_typeOf_c)))) (ref_typeOf_F0 a0 a1 0 ) (ref_typeOf_H0 a0 a1 0 ) (finOc (ref_typeOf_B0 a0 a1) ref_typeOf_R r) :=
  Runs.loop' (by kernel_rfl) (forN_rounds (σ := Unit) (ρ := Int) (body := fun i1 s => ref_typeOf_b0 a0 a1 i1 ) (F := fun i1 s => ref_typeOf_F0 a0 a1 i1 ) (H := fun i1 s => ref_typeOf_H0 a0 a1 i1 ) (B := ref_typeOf_B0 a0 a1) (R := ref_typeOf_R) (M := a0.length) (fun _ => rfl) (fun _ => rfl) (fun s => ref_typeOf_b0_e a0 a1 ) (fun i s o hi h => ref_typeOf_b0_r a0 a1 i o hi h) _ 0 _ r (Nat.zero_add _) h)
noncomputable def ref_typeOf (a0 : List PartType) (a1 : ByteArray) : Option Int :=
 aft0 (forN (fun i1 s => ref_typeOf_b0 a0 a1 i1 ) (a0.length) 0 ()) (
 some (-1))
 (fun r6 =>
 some r6)
theorem ref_typeOf_ok (a0 : List PartType) (a1 : ByteArray) (r : Int) (h : ref_typeOf a0 a1 = some r) : Spec PG 55 [lT 2 (List.map e_PartType a0), sT a1] [] (iA r) [] := by
  unfold ref_typeOf at h
  rcases aft0_e h with ⟨h5, h⟩ | ⟨r6, h5, h⟩
  · have h := Option.some.inj h
    subst h
    exact Spec.path XTok PGmix ref_typeOf_fn 0 [.r [], .r [.eq 8 (iA (a0.length : Int))], .s (ref_typeOf_F0 a0 a1 0 ) (ref_typeOf_H0 a0 a1 0 ) [] (ref_typeOf_B0 a0 a1 ()), .r []] (an (leni_eq e_PartType a0) (ref_typeOf_l0 a0 a1 (.fin ()) h5)) (by kernel_rfl)
  · have h := Option.some.inj h
    subst h
    exact Spec.path XTok PGmix ref_typeOf_fn 0 [.r [], .r [.eq 8 (iA (a0.length : Int))], .s (ref_typeOf_F0 a0 a1 0 ) (ref_typeOf_H0 a0 a1 0 ) [] (ref_typeOf_R r6)] (an (leni_eq e_PartType a0) (ref_typeOf_l0 a0 a1 (.ret r6) h5)) (by kernel_rfl)

noncomputable def ref_before_c : Code := (Go.Proofs.Tryz.f70.body).getD .skip
theorem ref_before_fn : FnOk PG 70 ref_before_c 24 [.tmp 4] := ⟨⟨Go.Proofs.Tryz.f70, by kernel_rfl, by kernel_rfl, by kernel_rfl, by kernel_rfl, by kernel_rfl⟩⟩
noncomputable def ref_before (a0 : Pin) (a1 : Pin) : Option Bool :=
 bnd1 (cnd (sLt a0.Part a1.Part) (some true) (cnd (sEq a0.Part a1.Part) (some (sLt a0.Pin a1.Pin)) (some false))) fun v1 =>
 some v1
theorem ref_before_ok (a0 : Pin) (a1 : Pin) (r : Bool) (h : ref_before a0 a1 = some r) : Spec PG 70 [gT (e_Pin a0), gT (e_Pin a1)] [] (bA r) [] := by
  unfold ref_before at h
  obtain ⟨v1, h2, h⟩ := bnd1_e h
  let q6_f : Fr := [(2, .t (.v (.ptr 0 0))), (3, .t (.v (.ptr 1 0)))]
  let q6_g : Hp := [(0, .cells 55 [.c (sC a0.Part), .c (sC a0.Pin)]), (1, .cells 55 [.c (sC a1.Part), .c (sC a1.Pin)])]
  let q6_f' : Fr := [(4, bA v1)]
  let q6_g' : Hp := []
  have R3 : Runs PG 24 0 (cL (cR ref_before_c)) q6_f q6_g (.nor q6_f' q6_g') := by
    rcases cnd_e h2 with ⟨h4, h2⟩ | ⟨h4, h2⟩
    · have h2 := Option.some.inj h2
      subst h2
      exact Runs.path XTok PGmix [.r [.b true, .b true, .b true, .b true, .b true, .b true, .b true, .b true]] [] (an h4 (an h4 (an h4 (an h4 (an h4 (an h4 (an h4 h4))))))) (by kernel_rfl)
    · rcases cnd_e h2 with ⟨h5, h2⟩ | ⟨h5, h2⟩
      · have h2 := Option.some.inj h2
        subst h2
        exact Runs.path XTok PGmix [.r [.b false, .b false, .b false, .b false, .b false, .b false, .b true, .b true, .b true, .b true, .b true, .b false, .b true, .b false]] [] (an h4 (an h4 (an h4 (an h4 (an h4 (an h4 (an h5 (an h5 (an h5 (an h5 (an h5 (an h4 (an h5 h4))))))))))))) (by kernel_rfl)
      · have h2 := Option.some.inj h2
        subst h2
        exact Runs.path XTok PGmix [.r [.b false, .b false, .b false, .b false, .b false, .b false, .b false, .b false, .b false, .b false, .b false, .b false, .b false, .b false]] [] (an h4 (an h4 (an h4 (an h4 (an h4 (an h4 (an h5 (an h5 (an h5 (an h5 (an h5 (an h4 (an h5 h4))))))))))))) (by kernel_rfl)
  have h := Option.some.inj h
  subst h
  exact Spec.path XTok PGmix ref_before_fn 0 [.r [.id 0, .id 1], .s q6_f q6_g [] (.nor q6_f' q6_g')] R3 (by kernel_rfl)

noncomputable def ref_within_c : Code := (Go.Proofs.Tryz.f122.body).getD .skip
theorem ref_within_fn : FnOk PG 122 ref_within_c 15 [.tmp 6] := ⟨⟨Go.Proofs.Tryz.f122, by kernel_rfl, by kernel_rfl, by kernel_rfl, by kernel_rfl, by kernel_rfl⟩⟩
noncomputable def ref_within (a0 : Int) (a1 : Int) (a2 : Int) : Option Bool :=
 bnd1 (cnd (decide (a1 ≤ a0)) (some (decide (a0 ≤ a2))) (some false)) fun v1 =>
 some v1
theorem ref_within_ok (a0 : Int) (a1 : Int) (a2 : Int) (r : Bool) (h : ref_within a0 a1 a2 = some r) : Spec PG 122 [iT a0, iT a1, iT a2] [] (bA r) [] := by
  unfold ref_within at h
  obtain ⟨v1, h2, h⟩ := bnd1_e h
  let q5_f : Fr := [(0, iA a0), (1, iA a1), (2, iA a2)]
  let q5_g : Hp := []
  let q5_f' : Fr := [(6, bA v1)]
  let q5_g' : Hp := []
  have R3 : Runs PG 15 0 (cL (cR ref_within_c)) q5_f q5_g (.nor q5_f' q5_g') := by
    rcases cnd_e h2 with ⟨h4, h2⟩ | ⟨h4, h2⟩
    · have h2 := Option.some.inj h2
      subst h2
      exact Runs.path XTok PGmix [.r [.b true, .b true, .b true, .b true]] [] (an h4 (an h4 (an h4 h4))) (by kernel_rfl)
    · have h2 := Option.some.inj h2
      subst h2
      exact Runs.path XTok PGmix [.r [.b false, .b false, .b false, .b false]] [] (an h4 (an h4 (an h4 h4))) (by kernel_rfl)
  have h := Option.some.inj h
  subst h
  exact Spec.path XTok PGmix ref_within_fn 0 [.r [], .s q5_f q5_g [] (.nor q5_f' q5_g')] R3 (by kernel_rfl)
end Go.Proofs.YtlbndchfmdogeaaGreatDoor.Sym
