/- Printed by gen2.py: the plain forms of functions, and that calling them gives what these give. Conditions: none. -/
import Derived.Test.YtlbndchfmdogeaaDoorAf0
set_option linter.unusedVariables false
set_option maxHeartbeats 4000000
namespace Go.Proofs.YtlbndchfmdogeaaDoor.Sym
open Go Go.RowKit
noncomputable def slices_BinarySearchFunc_api_PinType_api_PinType_string_c : Code := (Go.Proofs.Tryd.f123.body).getD .skip
theorem slices_BinarySearchFunc_api_PinType_api_PinType_string_fn : FnOk PG 123 slices_BinarySearchFunc_api_PinType_api_PinType_string_c 49 [.tmp 6, .tmp 7] := ⟨⟨Go.Proofs.Tryd.f123, by kernel_rfl, by kernel_rfl, by kernel_rfl, by kernel_rfl, by kernel_rfl⟩⟩
noncomputable def slices_BinarySearchFunc_api_PinType_api_PinType_string_c0 : Code := cL (cL (cL (cR (cR (cR slices_BinarySearchFunc_api_PinType_api_PinType_string_c)))))
noncomputable def slices_BinarySearchFunc_api_PinType_api_PinType_string_R (r : Int × Bool) : Oc := .ret [(6, iA r.1), (7, bA r.2)] []
noncomputable def slices_BinarySearchFunc_api_PinType_api_PinType_string_F0 (a2_k : FuncId) (a2_c : List C) (a0 : List PinType) (a1 : ByteArray) (y1 : Int) (y2 : Int) : Fr := [(0, lA 3 (List.map e_PinType a0)), (1, sA a1), (2, .t (.v (.c (.fn a2_k a2_c)))), (8, iA (a0.length : Int)), (9, iA y1), (10, iA y2)]
noncomputable def slices_BinarySearchFunc_api_PinType_api_PinType_string_H0 (a2_k : FuncId) (a2_c : List C) (a0 : List PinType) (a1 : ByteArray) (y1 : Int) (y2 : Int) : Hp := []
noncomputable def slices_BinarySearchFunc_api_PinType_api_PinType_string_B0 (a2_k : FuncId) (a2_c : List C) (a0 : List PinType) (a1 : ByteArray) (s : Int × Int) : Oc := .ex 0 [(0, lA 3 (List.map e_PinType a0)), (1, sA a1), (2, .t (.v (.c (.fn a2_k a2_c)))), (8, iA (a0.length : Int)), (9, iA s.1)] []
noncomputable def slices_BinarySearchFunc_api_PinType_api_PinType_string_b0 (a2 : PinType → ByteArray → Option Int) (a0 : List PinType) (a1 : ByteArray) (y1 : Int) (y2 : Int) : Option (Stp (Int × Int) (Int × Bool)) :=
 cnd (decide (y1 < y2)) (grd ((0 : Int) ≤ 1) <|
 bnd (atI a0 (IntKind.i64.wrap ((IntKind.u64.wrap (w64 (y1 + y2))) / 2 ^ min (Int.toNat 1) 64))) fun x5 =>
 bnd (a2 x5 a1) fun r7 =>
 bnd2 (cnd (decide (r7 < 0)) (some (y2, w64 ((IntKind.i64.wrap ((IntKind.u64.wrap (w64 (y1 + y2))) / 2 ^ min (Int.toNat 1) 64)) + 1))) (some (IntKind.i64.wrap ((IntKind.u64.wrap (w64 (y1 + y2))) / 2 ^ min (Int.toNat 1) 64), y1))) fun v9 v10 =>
 some (.go (v10, v9))) (some (.brk (y1, y2)))
theorem slices_BinarySearchFunc_api_PinType_api_PinType_string_b0_r (a2_k : FuncId) (a2_c : List C) (a2 : PinType → ByteArray → Option Int) (a2_ok : ∀ (z0 : PinType) (z1 : ByteArray) (r : Int), a2 z0 z1 = some r → Spec PG a2_k ([gT (e_PinType z0), sT z1] ++ List.map (fun x => TV.v (CV.c x)) a2_c) [] (iA r) []) (a0 : List PinType) (a1 : ByteArray) (y1 : Int) (y2 : Int) (o : Stp (Int × Int) (Int × Bool)) (h : slices_BinarySearchFunc_api_PinType_api_PinType_string_b0 a2 a0 a1 y1 y2 = some o) :
    Runs PG 49 0 slices_BinarySearchFunc_api_PinType_api_PinType_string_c0 (slices_BinarySearchFunc_api_PinType_api_PinType_string_F0 a2_k a2_c a0 a1 y1 y2) (slices_BinarySearchFunc_api_PinType_api_PinType_string_H0 a2_k a2_c a0 a1 y1 y2) (stpOc (fun s' => .nor (slices_BinarySearchFunc_api_PinType_api_PinType_string_F0 a2_k a2_c a0 a1 s'.1 s'.2) (slices_BinarySearchFunc_api_PinType_api_PinType_string_H0 a2_k a2_c a0 a1 s'.1 s'.2)) (slices_BinarySearchFunc_api_PinType_api_PinType_string_B0 a2_k a2_c a0 a1) slices_BinarySearchFunc_api_PinType_api_PinType_string_R o) := by
  unfold slices_BinarySearchFunc_api_PinType_api_PinType_string_b0 at h
  rcases cnd_e h with ⟨h3, h⟩ | ⟨h3, h⟩
  · obtain ⟨h4, h⟩ := grd_e h
    obtain ⟨x5, h6, h⟩ := bnd_e h
    obtain ⟨r7, h8, h⟩ := bnd_e h
    obtain ⟨v9, v10, h11, h⟩ := bnd2_e h
    let q18_f : Fr := [(0, lA 3 (List.map e_PinType a0)), (1, sA a1), (2, .t (.v (.c (.fn a2_k a2_c)))), (8, iA (a0.length : Int)), (9, iA y1), (10, iA y2), (11, iA (IntKind.i64.wrap ((IntKind.u64.wrap (w64 (y1 + y2))) / 2 ^ min (Int.toNat 1) 64))), (31, bA (decide (r7 < 0)))]
    let q18_g : Hp := []
    let q18_f' : Fr := [(0, lA 3 (List.map e_PinType a0)), (1, sA a1), (2, .t (.v (.c (.fn a2_k a2_c)))), (8, iA (a0.length : Int)), (9, iA v10), (10, iA v9)]
    let q18_g' : Hp := []
    have R12 : Runs PG 49 0 (cR (cR (cL (cR slices_BinarySearchFunc_api_PinType_api_PinType_string_c0)))) q18_f q18_g (.nor q18_f' q18_g') := by
      rcases cnd_e h11 with ⟨h13, h11⟩ | ⟨h13, h11⟩
      · have h11 := Option.some.inj h11
        have q14 := (Prod.mk.inj h11).1
        have q15 := (Prod.mk.inj h11).2
        subst q14
        subst q15
        exact Runs.path XTok PGmix [.b true, .r []] [] h13 (by kernel_rfl)
      · have h11 := Option.some.inj h11
        have q16 := (Prod.mk.inj h11).1
        have q17 := (Prod.mk.inj h11).2
        subst q16
        subst q17
        exact Runs.path XTok PGmix [.b false, .r []] [] h13 (by kernel_rfl)
    have h := Option.some.inj h
    subst h
    exact Runs.path XTok PGmix [.r [], .b true, .r [], .r [.el (e_PinType x5), .val (iA r7)], .s q18_f q18_g [] (.nor q18_f' q18_g')] [] (an h3 (an h4 (an (idx_ok e_PinType h6) (an (a2_ok x5 a1 r7 h8) R12)))) (by kernel_rfl)
  · have h := Option.some.inj h
    subst h
    exact Runs.path XTok PGmix [.r [], .b false] [] h3 (by kernel_rfl)
theorem slices_BinarySearchFunc_api_PinType_api_PinType_string_l0 (a2_k : FuncId) (a2_c : List C) (a2 : PinType → ByteArray → Option Int) (a2_ok : ∀ (z0 : PinType) (z1 : ByteArray) (r : Int), a2 z0 z1 = some r → Spec PG a2_k ([gT (e_PinType z0), sT z1] ++ List.map (fun x => TV.v (CV.c x)) a2_c) [] (iA r) []) (a0 : List PinType) (a1 : ByteArray) (y1 : Int) (y2 : Int) (r : Fin' (Int × Int) (Int × Bool)) (h : loop (fun s => slices_BinarySearchFunc_api_PinType_api_PinType_string_b0 a2 a0 a1 s.1 s.2) (y1, y2) = some r) : Runs PG 49 0 (cL (cL (cR (cR (cR slices_BinarySearchFunc_api_PinType_api_PinType_string_c))))) (slices_BinarySearchFunc_api_PinType_api_PinType_string_F0 a2_k a2_c a0 a1 y1 y2) (slices_BinarySearchFunc_api_PinType_api_PinType_string_H0 a2_k a2_c a0 a1 y1 y2) (finOc (slices_BinarySearchFunc_api_PinType_api_PinType_string_B0 a2_k a2_c a0 a1) slices_BinarySearchFunc_api_PinType_api_PinType_string_R r) :=
  Runs.loop' (by kernel_rfl) (loop_rounds (σ := (Int × Int)) (ρ := (Int × Bool)) (body := fun s => slices_BinarySearchFunc_api_PinType_api_PinType_string_b0 a2 a0 a1 s.1 s.2) (F := fun s => slices_BinarySearchFunc_api_PinType_api_PinType_string_F0 a2_k a2_c a0 a1 s.1 s.2) (H := fun s => slices_BinarySearchFunc_api_PinType_api_PinType_string_H0 a2_k a2_c a0 a1 s.1 s.2) (B := slices_BinarySearchFunc_api_PinType_api_PinType_string_B0 a2_k a2_c a0 a1) (R := slices_BinarySearchFunc_api_PinType_api_PinType_string_R) (fun _ => rfl) (fun _ => rfl) (fun s o h => slices_BinarySearchFunc_api_PinType_api_PinType_string_b0_r a2_k a2_c a2 a2_ok a0 a1 s.1 s.2 o h) h)
noncomputable def slices_BinarySearchFunc_api_PinType_api_PinType_string (a0 : List PinType) (a1 : ByteArray) (a2 : PinType → ByteArray → Option Int) : Option (Int × Bool) :=
 aft2 (loop (fun s => slices_BinarySearchFunc_api_PinType_api_PinType_string_b0 a2 a0 a1 s.1 s.2) (0, (a0.length : Int))) (fun u19 u20 =>
 bnd1 (cnd (decide (u19 < (a0.length : Int))) (bnd (atI a0 u19) fun x27 =>
 bnd (a2 x27 a1) fun r29 =>
 some (r29 == 0)) (some false)) fun v23 =>
 some (u19, v23))
 (fun r22 =>
 some r22)
theorem slices_BinarySearchFunc_api_PinType_api_PinType_string_ok (a0 : List PinType) (a1 : ByteArray) (a2_k : FuncId) (a2_c : List C) (a2 : PinType → ByteArray → Option Int) (a2_ok : ∀ (z0 : PinType) (z1 : ByteArray) (r : Int), a2 z0 z1 = some r → Spec PG a2_k ([gT (e_PinType z0), sT z1] ++ List.map (fun x => TV.v (CV.c x)) a2_c) [] (iA r) []) (r : Int × Bool) (h : slices_BinarySearchFunc_api_PinType_api_PinType_string a0 a1 a2 = some r) : Spec PG 123 [lT 3 (List.map e_PinType a0), sT a1, .v (.c (.fn a2_k a2_c))] [] (.tup [iT r.1, bT r.2]) [] := by
  unfold slices_BinarySearchFunc_api_PinType_api_PinType_string at h
  rcases aft2_e h with ⟨u19, u20, h21, h⟩ | ⟨r22, h21, h⟩
  · obtain ⟨v23, h24, h⟩ := bnd1_e h
    let q31_f : Fr := [(0, lA 3 (List.map e_PinType a0)), (1, sA a1), (2, .t (.v (.c (.fn a2_k a2_c)))), (8, iA (a0.length : Int)), (9, iA u19)]
    let q31_g : Hp := []
    let q31_f' : Fr := [(6, iA u19), (7, bA v23)]
    let q31_g' : Hp := []
    have R25 : Runs PG 49 0 (cL (cR (cR (cR (cR slices_BinarySearchFunc_api_PinType_api_PinType_string_c))))) q31_f q31_g (.nor q31_f' q31_g') := by
      rcases cnd_e h24 with ⟨h26, h24⟩ | ⟨h26, h24⟩
      · obtain ⟨x27, h28, h24⟩ := bnd_e h24
        obtain ⟨r29, h30, h24⟩ := bnd_e h24
        have h24 := Option.some.inj h24
        subst h24
        exact Runs.path XTok PGmix [.r [.b true, .b true, .b true, .b true, .el (e_PinType x27), .b true, .b true, .b true, .val (iA r29), .b true, .b true]] [] (an h26 (an h26 (an h26 (an h26 (an (idx_ok e_PinType h28) (an h26 (an h26 (an h26 (an (a2_ok x27 a1 r29 h30) (an h26 h26)))))))))) (by kernel_rfl)
      · have h24 := Option.some.inj h24
        subst h24
        exact Runs.path XTok PGmix [.r [.b false, .b false, .b false, .b false, .b false, .b false, .b false, .b false, .b false]] [] (an h26 (an h26 (an h26 (an h26 (an h26 (an h26 (an h26 (an h26 h26)))))))) (by kernel_rfl)
    have h := Option.some.inj h
    subst h
    exact Spec.path XTok PGmix slices_BinarySearchFunc_api_PinType_api_PinType_string_fn 0 [.r [], .r [.eq 13 (iA (a0.length : Int))], .r [], .s (slices_BinarySearchFunc_api_PinType_api_PinType_string_F0 a2_k a2_c a0 a1 0 (a0.length : Int)) (slices_BinarySearchFunc_api_PinType_api_PinType_string_H0 a2_k a2_c a0 a1 0 (a0.length : Int)) [] (slices_BinarySearchFunc_api_PinType_api_PinType_string_B0 a2_k a2_c a0 a1 (u19, u20)), .s q31_f q31_g [] (.nor q31_f' q31_g')] (an (leni_eq e_PinType a0) (an (slices_BinarySearchFunc_api_PinType_api_PinType_string_l0 a2_k a2_c a2 a2_ok a0 a1 0 (a0.length : Int) (.fin (u19, u20)) h21) R25)) (by kernel_rfl)
  · have h := Option.some.inj h
    subst h
    exact Spec.path XTok PGmix slices_BinarySearchFunc_api_PinType_api_PinType_string_fn 0 [.r [], .r [.eq 13 (iA (a0.length : Int))], .r [], .s (slices_BinarySearchFunc_api_PinType_api_PinType_string_F0 a2_k a2_c a0 a1 0 (a0.length : Int)) (slices_BinarySearchFunc_api_PinType_api_PinType_string_H0 a2_k a2_c a0 a1 0 (a0.length : Int)) [] (slices_BinarySearchFunc_api_PinType_api_PinType_string_R r22)] (an (leni_eq e_PinType a0) (slices_BinarySearchFunc_api_PinType_api_PinType_string_l0 a2_k a2_c a2 a2_ok a0 a1 0 (a0.length : Int) (.ret r22) h21)) (by kernel_rfl)

noncomputable def nl_PinAt_1_c : Code := (Go.Proofs.Tryd.f124.body).getD .skip
theorem nl_PinAt_1_fn : FnOk PG 124 nl_PinAt_1_c 9 [.tmp 4] := ⟨⟨Go.Proofs.Tryd.f124, by kernel_rfl, by kernel_rfl, by kernel_rfl, by kernel_rfl, by kernel_rfl⟩⟩
noncomputable def nl_PinAt_1 (a0 : PinType) (a1 : ByteArray) : Option Int :=
 bnd (strings_Compare a0.Name a1) fun r1 =>
 some r1
theorem nl_PinAt_1_ok (a0 : PinType) (a1 : ByteArray) (r : Int) (h : nl_PinAt_1 a0 a1 = some r) : Spec PG 124 [gT (e_PinType a0), sT a1] [] (iA r) [] := by
  unfold nl_PinAt_1 at h
  obtain ⟨r1, h2, h⟩ := bnd_e h
  have h := Option.some.inj h
  subst h
  exact Spec.path XTok PGmix nl_PinAt_1_fn 0 [.r [.id 0], .r [.val (iA r1)]] (strings_Compare_ok a0.Name a1 r1 h2) (by kernel_rfl)

noncomputable def nl_PinAt_c : Code := (Go.Proofs.Tryd.f59.body).getD .skip
theorem nl_PinAt_fn : FnOk PG 59 nl_PinAt_c 17 [.tmp 4] := ⟨⟨Go.Proofs.Tryd.f59, by kernel_rfl, by kernel_rfl, by kernel_rfl, by kernel_rfl, by kernel_rfl⟩⟩
noncomputable def nl_PinAt (a0 : PartType) (a1 : ByteArray) : Option Int :=
 bnd (slices_BinarySearchFunc_api_PinType_api_PinType_string a0.Pins a1 (fun z0 z1 => nl_PinAt_1 z0 z1)) fun r1 =>
 cnd (!r1.2) (some (-1)) (some r1.1)
theorem nl_PinAt_ok (a0 : PartType) (a1 : ByteArray) (r : Int) (h : nl_PinAt a0 a1 = some r) : Spec PG 59 [gT (e_PartType a0), sT a1] [] (iA r) [] := by
  unfold nl_PinAt at h
  obtain ⟨r1, h2, h⟩ := bnd_e h
  rcases cnd_e h with ⟨h3, h⟩ | ⟨h3, h⟩
  · have h := Option.some.inj h
    subst h
    exact Spec.path XTok PGmix nl_PinAt_fn 0 [.r [.id 0], .r [.val (.tup [iT r1.1, bT r1.2])], .r [], .b true, .r []] (an (slices_BinarySearchFunc_api_PinType_api_PinType_string_ok a0.Pins a1 124 [] (fun z0 z1 => nl_PinAt_1 z0 z1) (fun z0 z1 r h => nl_PinAt_1_ok z0 z1 r h) r1 h2) h3) (by kernel_rfl)
  · have h := Option.some.inj h
    subst h
    exact Spec.path XTok PGmix nl_PinAt_fn 0 [.r [.id 0], .r [.val (.tup [iT r1.1, bT r1.2])], .r [], .b false, .r []] (an (slices_BinarySearchFunc_api_PinType_api_PinType_string_ok a0.Pins a1 124 [] (fun z0 z1 => nl_PinAt_1 z0 z1) (fun z0 z1 r h => nl_PinAt_1_ok z0 z1 r h) r1 h2) h3) (by kernel_rfl)

noncomputable def nl_hasPin_c : Code := (Go.Proofs.Tryd.f43.body).getD .skip
theorem nl_hasPin_fn : FnOk PG 43 nl_hasPin_c 30 [.tmp 6] := ⟨⟨Go.Proofs.Tryd.f43, by kernel_rfl, by kernel_rfl, by kernel_rfl, by kernel_rfl, by kernel_rfl⟩⟩
noncomputable def nl_hasPin (a0 : List PartType) (a1 : List Part) (a2 : Pin) : Option Bool :=
 bnd (nl_partAt a1 a2.Part) fun r1 =>
 bnd1 (cnd (decide (r1 ≥ 0)) (bnd (atI a1 r1) fun x7 =>
 bnd (nl_TypeAt a0 x7.Type_) fun r9 =>
 bnd (atI a0 r9) fun x11 =>
 bnd (nl_PinAt x11 a2.Pin) fun r13 =>
 some (decide (r13 ≥ 0))) (some false)) fun v3 =>
 some v3
theorem nl_hasPin_ok (a0 : List PartType) (a1 : List Part) (a2 : Pin) (r : Bool) (h : nl_hasPin a0 a1 a2 = some r) : Spec PG 43 [lT 2 (List.map e_PartType a0), lT 2 (List.map e_Part a1), gT (e_Pin a2)] [] (bA r) [] := by
  unfold nl_hasPin at h
  obtain ⟨r1, h2, h⟩ := bnd_e h
  obtain ⟨v3, h4, h⟩ := bnd1_e h
  let q15_f : Fr := [(0, lA 2 (List.map e_PartType a0)), (1, lA 2 (List.map e_Part a1)), (5, .t (.v (.ptr 0 0))), (7, iA r1)]
  let q15_g : Hp := [(0, .cells 28 [.c (sC a2.Part), .c (sC a2.Pin)])]
  let q15_f' : Fr := [(6, bA v3)]
  let q15_g' : Hp := []
  have R5 : Runs PG 30 0 (cL (cR (cR nl_hasPin_c))) q15_f q15_g (.nor q15_f' q15_g') := by
    rcases cnd_e h4 with ⟨h6, h4⟩ | ⟨h6, h4⟩
    · obtain ⟨x7, h8, h4⟩ := bnd_e h4
      obtain ⟨r9, h10, h4⟩ := bnd_e h4
      obtain ⟨x11, h12, h4⟩ := bnd_e h4
      obtain ⟨r13, h14, h4⟩ := bnd_e h4
      have h4 := Option.some.inj h4
      subst h4
      exact Runs.path XTok PGmix [.d [([], []), ([], []), ([], []), ([], [.b true]), ([], [.b true]), ([], [.b true]), ([], [.b true]), ([], [.b true, .el (e_Part x7)]), ([], [.b true]), ([], [.b true]), ([], [.b true, .val (iA r9)]), ([], [.b true, .el (e_PartType x11)]), ([], [.b true]), ([], [.b true]), ([0], [.b true]), ([], [.b true, .val (iA r13)]), ([], [.b true]), ([], [.b true]), ([], [])]] [] (an h6 (an h6 (an h6 (an h6 (an h6 (an (idx_ok e_Part h8) (an h6 (an h6 (an h6 (an (nl_TypeAt_ok a0 x7.Type_ r9 h10) (an h6 (an (idx_ok e_PartType h12) (an h6 (an h6 (an h6 (an h6 (an (nl_PinAt_ok x11 a2.Pin r13 h14) (an h6 h6)))))))))))))))))) (by kernel_rfl)
    · have h4 := Option.some.inj h4
      subst h4
      exact Runs.path XTok PGmix [.d [([], []), ([], []), ([], []), ([], [.b false]), ([], [.b false]), ([], [.b false]), ([], [.b false]), ([], [.b false]), ([], [.b false]), ([], [.b false]), ([], [.b false]), ([], [.b false]), ([], [.b false]), ([], [.b false]), ([], [.b false]), ([], [.b false]), ([], [.b false]), ([], [.b false]), ([], [])]] [] (an h6 (an h6 (an h6 (an h6 (an h6 (an h6 (an h6 (an h6 (an h6 (an h6 (an h6 (an h6 (an h6 (an h6 h6)))))))))))))) (by kernel_rfl)
  have h := Option.some.inj h
  subst h
  exact Spec.path XTok PGmix nl_hasPin_fn 0 [.r [.id 0], .r [.val (iA r1)], .s q15_f q15_g [] (.nor q15_f' q15_g')] (an (nl_partAt_ok a1 a2.Part r1 h2) R5) (by kernel_rfl)

noncomputable def nl_CheckList_1_c : Code := (Go.Proofs.Tryd.f51.body).getD .skip
theorem nl_CheckList_1_fn : FnOk PG 51 nl_CheckList_1_c 10 [.tmp 4] := ⟨⟨Go.Proofs.Tryd.f51, by kernel_rfl, by kernel_rfl, by kernel_rfl, by kernel_rfl, by kernel_rfl⟩⟩
noncomputable def nl_CheckList_1 (a0 : Pin) (a1 : List PartType) (a2 : Netlist) : Option Bool :=
 bnd (nl_hasPin a1 a2.Parts a0) fun r1 =>
 some r1
theorem nl_CheckList_1_ok (a0 : Pin) (a1 : List PartType) (a2 : Netlist) (r : Bool) (h : nl_CheckList_1 a0 a1 a2 = some r) : Spec PG 51 [gT (e_Pin a0), .v (.c (.ptr [.sl 2 (List.map e_PartType a1)])), .v (.c (.ptr (e_Netlist a2)))] [] (bA r) [] := by
  unfold nl_CheckList_1 at h
  obtain ⟨r1, h2, h⟩ := bnd_e h
  have h := Option.some.inj h
  subst h
  exact Spec.path XTok PGmix nl_CheckList_1_fn 0 [.r [.id 0], .r [.val (bA r1)]] (nl_hasPin_ok a1 a2.Parts a0 r1 h2) (by kernel_rfl)

noncomputable def nl_CheckList_c : Code := (Go.Proofs.Tryd.f15.body).getD .skip
theorem nl_CheckList_fn : FnOk PG 15 nl_CheckList_c 71 [.tmp 4] := ⟨⟨Go.Proofs.Tryd.f15, by kernel_rfl, by kernel_rfl, by kernel_rfl, by kernel_rfl, by kernel_rfl⟩⟩
noncomputable def nl_CheckList_c0 : Code := cL (cL (cR (cL (cR (cR (cR (cR (cR nl_CheckList_c))))))))
noncomputable def nl_CheckList_R (r : Int) : Oc := .ret [(4, iA r)] []
noncomputable def nl_CheckList_F0 (a0 : List PartType) (a1 : Netlist) (i8 : Nat) (y9 : List (Pin × Bool)) : Fr := [(2, .t (.v (.c (.ptr [.sl 2 (List.map e_PartType a0)])))), (3, .t (.v (.c (.ptr (e_Netlist a1))))), (7, .t (.v (.rt 2))), (29, lA 3 (List.map e_Net a1.Nets)), (30, iA (a1.Nets.length : Int)), (31, iA (i8 : Int))]
noncomputable def nl_CheckList_H0 (a0 : List PartType) (a1 : Netlist) (i8 : Nat) (y9 : List (Pin × Bool)) : Hp := [(2, .map (keys PG 28) (encM kv_Pin dv_bool y9))]
noncomputable def nl_CheckList_B0 (a0 : List PartType) (a1 : Netlist) (s : (List (Pin × Bool))) : Oc := .ex 0 [] []
noncomputable def nl_CheckList_b0 (a0 : List PartType) (a1 : Netlist) (i8 : Nat) (y9 : List (Pin × Bool)) : Option (Stp (List (Pin × Bool)) Int) :=
 bnd (atI a1.Nets (i8 : Int)) fun x10 =>
 bnd (nl_IsPath x10.Name) fun r12 =>
 cnd (!r12) (some (.ret 5)) (cnd ((x10.Pins.length : Int) == 0) (some (.ret 9)) (bnd (nl_checkNetPins x10.Pins (fun z0 => nl_CheckList_1 z0 a0 a1) y9) fun r16 =>
 cnd (r16.1 != 0) (some (.ret r16.1)) (cnd (decide ((x10.Ports.length : Int) > 0)) (some (.ret 3)) (bnd1 (cnd (decide ((i8 : Int) > 0)) (bnd (atI a1.Nets (w64 ((i8 : Int) - 1))) fun x24 =>
 some (sLe x10.Name x24.Name)) (some false)) fun v20 =>
 cnd v20 (some (.ret 8)) (some (.go r16.2))))))
theorem nl_CheckList_b0_r (a0 : List PartType) (a1 : Netlist) (i8 : Nat) (y9 : List (Pin × Bool)) (o : Stp (List (Pin × Bool)) Int) (hi : i8 < a1.Nets.length) (h : nl_CheckList_b0 a0 a1 i8 y9 = some o) :
    Runs PG 71 0 nl_CheckList_c0 (nl_CheckList_F0 a0 a1 i8 y9) (nl_CheckList_H0 a0 a1 i8 y9) (stpOc (fun s' => .nor (nl_CheckList_F0 a0 a1 (i8 + 1) s') (nl_CheckList_H0 a0 a1 (i8 + 1) s')) (nl_CheckList_B0 a0 a1) nl_CheckList_R o) := by
  unfold nl_CheckList_b0 at h
  refine Runs.len (s := 29) (sz := 3) (xs := List.map e_Net a1.Nets) (by kernel_rfl) fun hl => ?_
  have hM : a1.Nets.length ≤ lim := len_of hl
  obtain ⟨x10, h11, h⟩ := bnd_e h
  obtain ⟨r12, h13, h⟩ := bnd_e h
  rcases cnd_e h with ⟨h14, h⟩ | ⟨h14, h⟩
  · have h := Option.some.inj h
    subst h
    exact Runs.path XTok PGmix [.r [], .b true, .r [.el (e_Net x10), .id 3], .r [.val (bA r12)], .b true, .r []] [] (an (lt_true hi) (an (idx_ok e_Net h11) (an (nl_IsPath_ok x10.Name r12 h13) h14))) (by kernel_rfl)
  · rcases cnd_e h with ⟨h15, h⟩ | ⟨h15, h⟩
    · have h := Option.some.inj h
      subst h
      exact Runs.path XTok PGmix [.r [], .b true, .r [.el (e_Net x10), .id 3], .r [.val (bA r12)], .b false, .r [.eq 42 (iA (x10.Pins.length : Int))], .b true, .r []] [] (an (lt_true hi) (an (idx_ok e_Net h11) (an (nl_IsPath_ok x10.Name r12 h13) (an h14 (an (leni_eq e_Pin x10.Pins) h15))))) (by kernel_rfl)
    · obtain ⟨r16, h17, h⟩ := bnd_e h
      rcases cnd_e h with ⟨h18, h⟩ | ⟨h18, h⟩
      · have h := Option.some.inj h
        subst h
        exact Runs.path XTok PGmix [.r [], .b true, .r [.el (e_Net x10), .id 3], .r [.val (bA r12)], .b false, .r [.eq 42 (iA (x10.Pins.length : Int))], .b false, .r [.call [(0, 2)] [lT 2 (List.map e_Pin x10.Pins), .v (.c (.fn 51 [.ptr [.sl 2 (List.map e_PartType a0)], .ptr (e_Netlist a1)])), .v (.rt 0)] [(0, .map (keys PG 28) (encM kv_Pin dv_bool y9))] (iA r16.1) [(0, .map (keys PG 28) (encM kv_Pin dv_bool r16.2))]], .r [], .b true, .r []] [] (an (lt_true hi) (an (idx_ok e_Net h11) (an (nl_IsPath_ok x10.Name r12 h13) (an h14 (an (leni_eq e_Pin x10.Pins) (an h15 (an (an (nl_checkNetPins_ok x10.Pins 51 [.ptr [.sl 2 (List.map e_PartType a0)], .ptr (e_Netlist a1)] (fun z0 => nl_CheckList_1 z0 a0 a1) (fun z0 r h => nl_CheckList_1_ok z0 a0 a1 r h) y9 r16 h17) (an (Eq.refl ([lT 2 (List.map e_Pin x10.Pins), .v (.c (.fn 51 [.ptr [.sl 2 (List.map e_PartType a0)], .ptr (e_Netlist a1)])), .v (.rt 2)] : List TV)) (Eq.refl (renH (asg [(0, 2)]) [(0, .map (keys PG 28) (encM kv_Pin dv_bool y9))])))) h18))))))) (by kernel_rfl)
      · rcases cnd_e h with ⟨h19, h⟩ | ⟨h19, h⟩
        · have h := Option.some.inj h
          subst h
          exact Runs.path XTok PGmix [.r [], .b true, .r [.el (e_Net x10), .id 3], .r [.val (bA r12)], .b false, .r [.eq 42 (iA (x10.Pins.length : Int))], .b false, .r [.call [(0, 2)] [lT 2 (List.map e_Pin x10.Pins), .v (.c (.fn 51 [.ptr [.sl 2 (List.map e_PartType a0)], .ptr (e_Netlist a1)])), .v (.rt 0)] [(0, .map (keys PG 28) (encM kv_Pin dv_bool y9))] (iA r16.1) [(0, .map (keys PG 28) (encM kv_Pin dv_bool r16.2))]], .r [], .b false, .r [.eq 54 (iA (x10.Ports.length : Int))], .b true, .r []] [] (an (lt_true hi) (an (idx_ok e_Net h11) (an (nl_IsPath_ok x10.Name r12 h13) (an h14 (an (leni_eq e_Pin x10.Pins) (an h15 (an (an (nl_checkNetPins_ok x10.Pins 51 [.ptr [.sl 2 (List.map e_PartType a0)], .ptr (e_Netlist a1)] (fun z0 => nl_CheckList_1 z0 a0 a1) (fun z0 r h => nl_CheckList_1_ok z0 a0 a1 r h) y9 r16 h17) (an (Eq.refl ([lT 2 (List.map e_Pin x10.Pins), .v (.c (.fn 51 [.ptr [.sl 2 (List.map e_PartType a0)], .ptr (e_Netlist a1)])), .v (.rt 2)] : List TV)) (Eq.refl (renH (asg [(0, 2)]) [(0, .map (keys PG 28) (encM kv_Pin dv_bool y9))])))) (an h18 (an (leni_eq e_str x10.Ports) h19))))))))) (by kernel_rfl)
        · obtain ⟨v20, h21, h⟩ := bnd1_e h
          let q26_f : Fr := [(2, .t (.v (.c (.ptr [.sl 2 (List.map e_PartType a0)])))), (3, .t (.v (.c (.ptr (e_Netlist a1))))), (7, .t (.v (.rt 2))), (8, iA (i8 : Int)), (9, .t (.v (.ptr 3 0))), (29, lA 3 (List.map e_Net a1.Nets)), (30, iA (a1.Nets.length : Int)), (31, iA (i8 : Int))]
          let q26_g : Hp := [(2, .map (keys PG 28) (encM kv_Pin dv_bool r16.2)), (3, .cells 64 [.c (sC x10.Name), .c (.sl 2 (List.map e_Pin x10.Pins)), .c (.sl 1 (List.map e_str x10.Ports))])]
          let q26_f' : Fr := [(2, .t (.v (.c (.ptr [.sl 2 (List.map e_PartType a0)])))), (3, .t (.v (.c (.ptr (e_Netlist a1))))), (7, .t (.v (.rt 2))), (29, lA 3 (List.map e_Net a1.Nets)), (30, iA (a1.Nets.length : Int)), (31, iA (i8 : Int)), (69, bA v20)]
          let q26_g' : Hp := [(2, .map (keys PG 28) (encM kv_Pin dv_bool r16.2))]
          have R22 : Runs PG 71 0 (cL (cR (cR (cR (cR (cR (cL (cL (cR (cR nl_CheckList_c0)))))))))) q26_f q26_g (.nor q26_f' q26_g') := by
            rcases cnd_e h21 with ⟨h23, h21⟩ | ⟨h23, h21⟩
            · obtain ⟨x24, h25, h21⟩ := bnd_e h21
              have h21 := Option.some.inj h21
              subst h21
              exact Runs.path XTok PGmix [.d [([], []), ([], []), ([], []), ([], [.b true]), ([3], [.b true]), ([], [.b true]), ([], [.b true]), ([], [.b true]), ([], [.b true]), ([], [.b true, .el (e_Net x24)]), ([], [.b true]), ([], [.b true]), ([], [.b true]), ([], [.b true])]] [] (an h23 (an h23 (an h23 (an h23 (an h23 (an h23 (an h23 (an (idx_ok e_Net h25) (an h23 (an h23 (an h23 h23))))))))))) (by kernel_rfl)
            · have h21 := Option.some.inj h21
              subst h21
              exact Runs.path XTok PGmix [.d [([], []), ([], []), ([], []), ([], [.b false]), ([], [.b false]), ([], [.b false]), ([], [.b false]), ([], [.b false]), ([], [.b false]), ([], [.b false]), ([], [.b false]), ([], [.b false]), ([], [.b false]), ([], [.b false])]] [] (an h23 (an h23 (an h23 (an h23 (an h23 (an h23 (an h23 (an h23 (an h23 (an h23 h23)))))))))) (by kernel_rfl)
          rcases cnd_e h with ⟨h27, h⟩ | ⟨h27, h⟩
          · have h := Option.some.inj h
            subst h
            exact Runs.path XTok PGmix [.r [], .b true, .r [.el (e_Net x10), .id 3], .r [.val (bA r12)], .b false, .r [.eq 42 (iA (x10.Pins.length : Int))], .b false, .r [.call [(0, 2)] [lT 2 (List.map e_Pin x10.Pins), .v (.c (.fn 51 [.ptr [.sl 2 (List.map e_PartType a0)], .ptr (e_Netlist a1)])), .v (.rt 0)] [(0, .map (keys PG 28) (encM kv_Pin dv_bool y9))] (iA r16.1) [(0, .map (keys PG 28) (encM kv_Pin dv_bool r16.2))]], .r [], .b false, .r [.eq 54 (iA (x10.Ports.length : Int))], .b false, .s q26_f q26_g [] (.nor q26_f' q26_g'), .b true, .r []] [] (an (lt_true hi) (an (idx_ok e_Net h11) (an (nl_IsPath_ok x10.Name r12 h13) (an h14 (an (leni_eq e_Pin x10.Pins) (an h15 (an (an (nl_checkNetPins_ok x10.Pins 51 [.ptr [.sl 2 (List.map e_PartType a0)], .ptr (e_Netlist a1)] (fun z0 => nl_CheckList_1 z0 a0 a1) (fun z0 r h => nl_CheckList_1_ok z0 a0 a1 r h) y9 r16 h17) (an (Eq.refl ([lT 2 (List.map e_Pin x10.Pins), .v (.c (.fn 51 [.ptr [.sl 2 (List.map e_PartType a0)], .ptr (e_Netlist a1)])), .v (.rt 2)] : List TV)) (Eq.refl (renH (asg [(0, 2)]) [(0, .map (keys PG 28) (encM kv_Pin dv_bool y9))])))) (an h18 (an (leni_eq e_str x10.Ports) (an h19 (an R22 h27))))))))))) (by kernel_rfl)
          · have h := Option.some.inj h
            subst h
            exact Runs.path XTok PGmix [.r [], .b true, .r [.el (e_Net x10), .id 3], .r [.val (bA r12)], .b false, .r [.eq 42 (iA (x10.Pins.length : Int))], .b false, .r [.call [(0, 2)] [lT 2 (List.map e_Pin x10.Pins), .v (.c (.fn 51 [.ptr [.sl 2 (List.map e_PartType a0)], .ptr (e_Netlist a1)])), .v (.rt 0)] [(0, .map (keys PG 28) (encM kv_Pin dv_bool y9))] (iA r16.1) [(0, .map (keys PG 28) (encM kv_Pin dv_bool r16.2))]], .r [], .b false, .r [.eq 54 (iA (x10.Ports.length : Int))], .b false, .s q26_f q26_g [] (.nor q26_f' q26_g'), .b false, .r [.eq 70 (iA ((i8 + 1 : Nat) : Int))]] [] (an (lt_true hi) (an (idx_ok e_Net h11) (an (nl_IsPath_ok x10.Name r12 h13) (an h14 (an (leni_eq e_Pin x10.Pins) (an h15 (an (an (nl_checkNetPins_ok x10.Pins 51 [.ptr [.sl 2 (List.map e_PartType a0)], .ptr (e_Netlist a1)] (fun z0 => nl_CheckList_1 z0 a0 a1) (fun z0 r h => nl_CheckList_1_ok z0 a0 a1 r h) y9 r16 h17) (an (Eq.refl ([lT 2 (List.map e_Pin x10.Pins), .v (.c (.fn 51 [.ptr [.sl 2 (List.map e_PartType a0)], .ptr (e_Netlist a1)])), .v (.rt 2)] : List TV)) (Eq.refl (renH (asg [(0, 2)]) [(0, .map (keys PG 28) (encM kv_Pin dv_bool y9))])))) (an h18 (an (leni_eq e_str x10.Ports) (an h19 (an R22 (an h27 (wrap_eq hi hM))))))))))))) (by kernel_rfl)
theorem nl_CheckList_b0_e (a0 : List PartType) (a1 : Netlist) (y9 : List (Pin × Bool)) : Runs PG 71 0 nl_CheckList_c0 (nl_CheckList_F0 a0 a1 (a1.Nets.length) y9) (nl_CheckList_H0 a0 a1 (a1.Nets.length) y9) (nl_CheckList_B0 a0 a1 y9) := by
  exact Runs.path XTok PGmix [.r [], .b false] [] (lt_false (a1.Nets.length)) (by kernel_rfl)
theorem nl_CheckList_l0 (a0 : List PartType) (a1 : Netlist) (y9 : List (Pin × Bool)) (r : Fin' (List (Pin × Bool)) Int) (h : forN (fun i8 s => nl_CheckList_b0 a0 a1 i8 s) (a1.Nets.length) 0 y9 = some r) : Runs PG 71 0 (cL (cR (cL (cR (cR (cR (cR (cR nl_CheckList_c)))))))) (nl_CheckList_F0 a0 a1 0 y9) (nl_CheckList_H0 a0 a1 0 y9) (finOc (nl_CheckList_B0 a0 a1) nl_CheckList_R r) :=
  Runs.loop' (by kernel_rfl) (forN_rounds (σ := (List (Pin × Bool))) (ρ := Int) (body := fun i8 s => nl_CheckList_b0 a0 a1 i8 s) (F := fun i8 s => nl_CheckList_F0 a0 a1 i8 s) (H := fun i8 s => nl_CheckList_H0 a0 a1 i8 s) (B := nl_CheckList_B0 a0 a1) (R := nl_CheckList_R) (M := a1.Nets.length) (fun _ => rfl) (fun _ => rfl) (fun s => nl_CheckList_b0_e a0 a1 s) (fun i s o hi h => nl_CheckList_b0_r a0 a1 i s o hi h) _ 0 _ r (Nat.zero_add _) h)
noncomputable def nl_CheckList (a0 : List PartType) (a1 : Netlist) : Option Int :=
 bnd (nl_CheckTypes a0) fun r1 =>
 cnd (r1 != 0) (some r1) (bnd (nl_checkParts a0 a1.Parts (fun z0 => nl_IsPath z0)) fun r4 =>
 cnd (r4 != 0) (some r4) (cnd (decide ((a1.Nets.length : Int) > 1000)) (some 2) (aft1 (forN (fun i8 s => nl_CheckList_b0 a0 a1 i8 s) (a1.Nets.length) 0 []) (fun u28 =>
 some 0)
 (fun r30 =>
 some r30))))
theorem nl_CheckList_ok (a0 : List PartType) (a1 : Netlist) (r : Int) (h : nl_CheckList a0 a1 = some r) : Spec PG 15 [lT 2 (List.map e_PartType a0), gT (e_Netlist a1)] [] (iA r) [] := by
  unfold nl_CheckList at h
  obtain ⟨r1, h2, h⟩ := bnd_e h
  rcases cnd_e h with ⟨h3, h⟩ | ⟨h3, h⟩
  · have h := Option.some.inj h
    subst h
    exact Spec.path XTok PGmix nl_CheckList_fn 0 [.r [.id 0, .id 1], .r [.val (iA r1)], .r [], .b true, .r []] (an (nl_CheckTypes_ok a0 r1 h2) h3) (by kernel_rfl)
  · obtain ⟨r4, h5, h⟩ := bnd_e h
    rcases cnd_e h with ⟨h6, h⟩ | ⟨h6, h⟩
    · have h := Option.some.inj h
      subst h
      exact Spec.path XTok PGmix nl_CheckList_fn 0 [.r [.id 0, .id 1], .r [.val (iA r1)], .r [], .b false, .r [.val (iA r4)], .r [], .b true, .r []] (an (nl_CheckTypes_ok a0 r1 h2) (an h3 (an (nl_checkParts_ok a0 a1.Parts 49 [] (fun z0 => nl_IsPath z0) (fun z0 r h => nl_IsPath_ok z0 r h) r4 h5) h6))) (by kernel_rfl)
    · rcases cnd_e h with ⟨h7, h⟩ | ⟨h7, h⟩
      · have h := Option.some.inj h
        subst h
        exact Spec.path XTok PGmix nl_CheckList_fn 0 [.r [.id 0, .id 1], .r [.val (iA r1)], .r [], .b false, .r [.val (iA r4)], .r [], .b false, .r [.eq 25 (iA (a1.Nets.length : Int))], .b true, .r []] (an (nl_CheckTypes_ok a0 r1 h2) (an h3 (an (nl_checkParts_ok a0 a1.Parts 49 [] (fun z0 => nl_IsPath z0) (fun z0 r h => nl_IsPath_ok z0 r h) r4 h5) (an h6 (an (leni_eq e_Net a1.Nets) h7))))) (by kernel_rfl)
      · rcases aft1_e h with ⟨u28, h29, h⟩ | ⟨r30, h29, h⟩
        · have h := Option.some.inj h
          subst h
          exact Spec.path XTok PGmix nl_CheckList_fn 0 [.r [.id 0, .id 1], .r [.val (iA r1)], .r [], .b false, .r [.val (iA r4)], .r [], .b false, .r [.eq 25 (iA (a1.Nets.length : Int))], .b false, .r [.id 2], .r [.eq 30 (iA (a1.Nets.length : Int))], .fb 0, .fb 1, .s (nl_CheckList_F0 a0 a1 0 []) (nl_CheckList_H0 a0 a1 0 []) [] (nl_CheckList_B0 a0 a1 u28), .r []] (an (nl_CheckTypes_ok a0 r1 h2) (an h3 (an (nl_checkParts_ok a0 a1.Parts 49 [] (fun z0 => nl_IsPath z0) (fun z0 r h => nl_IsPath_ok z0 r h) r4 h5) (an h6 (an (leni_eq e_Net a1.Nets) (an h7 (an (leni_eq e_Net a1.Nets) (nl_CheckList_l0 a0 a1 [] (.fin u28) h29)))))))) (by kernel_rfl)
        · have h := Option.some.inj h
          subst h
          exact Spec.path XTok PGmix nl_CheckList_fn 0 [.r [.id 0, .id 1], .r [.val (iA r1)], .r [], .b false, .r [.val (iA r4)], .r [], .b false, .r [.eq 25 (iA (a1.Nets.length : Int))], .b false, .r [.id 2], .r [.eq 30 (iA (a1.Nets.length : Int))], .fb 0, .fb 1, .s (nl_CheckList_F0 a0 a1 0 []) (nl_CheckList_H0 a0 a1 0 []) [] (nl_CheckList_R r30)] (an (nl_CheckTypes_ok a0 r1 h2) (an h3 (an (nl_checkParts_ok a0 a1.Parts 49 [] (fun z0 => nl_IsPath z0) (fun z0 r h => nl_IsPath_ok z0 r h) r4 h5) (an h6 (an (leni_eq e_Net a1.Nets) (an h7 (an (leni_eq e_Net a1.Nets) (nl_CheckList_l0 a0 a1 [] (.ret r30) h29)))))))) (by kernel_rfl)

noncomputable def nl_Nets_c : Code := (Go.Proofs.Tryd.f44.body).getD .skip
theorem nl_Nets_fn : FnOk PG 44 nl_Nets_c 30 [.tmp 2] := ⟨⟨Go.Proofs.Tryd.f44, by kernel_rfl, by kernel_rfl, by kernel_rfl, by kernel_rfl, by kernel_rfl⟩⟩
noncomputable def nl_Nets_c0 : Code := cL (cL (cR (cL (cR (cR nl_Nets_c)))))
noncomputable def nl_Nets_R (r : (List (Pin × Int))) : Oc := .ret [(2, .t (.v (.rt 0)))] [(0, .map (keys PG 28) (encM kv_Pin dv_i64 r))]
noncomputable def nl_Nets_c1 : Code := cL (cL (cR (cR (cL (cL (cR (cR nl_Nets_c0)))))))
noncomputable def nl_Nets_F1 (a0 : Netlist) (i1 : Nat) (x3 : Net) (i5 : Nat) (y6 : List (Pin × Int)) : Fr := [(3, .t (.v (.rt 1))), (4, iA (i1 : Int)), (10, lA 3 (List.map e_Net a0.Nets)), (11, iA (a0.Nets.length : Int)), (12, iA (i1 : Int)), (18, lA 2 (List.map e_Pin x3.Pins)), (19, iA (x3.Pins.length : Int)), (20, iA (i5 : Int))]
noncomputable def nl_Nets_H1 (a0 : Netlist) (i1 : Nat) (x3 : Net) (i5 : Nat) (y6 : List (Pin × Int)) : Hp := [(1, .map (keys PG 28) (encM kv_Pin dv_i64 y6))]
noncomputable def nl_Nets_B1 (a0 : Netlist) (i1 : Nat) (x3 : Net) (s : (List (Pin × Int))) : Oc := .ex 2 [(3, .t (.v (.rt 1))), (10, lA 3 (List.map e_Net a0.Nets)), (11, iA (a0.Nets.length : Int)), (12, iA (i1 : Int))] [(1, .map (keys PG 28) (encM kv_Pin dv_i64 s))]
noncomputable def nl_Nets_b1 (a0 : Netlist) (i1 : Nat) (x3 : Net) (i5 : Nat) (y6 : List (Pin × Int)) : Option (Stp (List (Pin × Int)) (List (Pin × Int))) :=
 bnd (atI x3.Pins (i5 : Int)) fun x7 =>
 some (.go (tput y6 x7 (i1 : Int)))
theorem nl_Nets_b1_r (a0 : Netlist) (i1 : Nat) (x3 : Net) (i5 : Nat) (y6 : List (Pin × Int)) (o : Stp (List (Pin × Int)) (List (Pin × Int))) (hi : i5 < x3.Pins.length) (h : nl_Nets_b1 a0 i1 x3 i5 y6 = some o) :
    Runs PG 30 0 nl_Nets_c1 (nl_Nets_F1 a0 i1 x3 i5 y6) (nl_Nets_H1 a0 i1 x3 i5 y6) (stpOc (fun s' => .nor (nl_Nets_F1 a0 i1 x3 (i5 + 1) s') (nl_Nets_H1 a0 i1 x3 (i5 + 1) s')) (nl_Nets_B1 a0 i1 x3) nl_Nets_R o) := by
  unfold nl_Nets_b1 at h
  refine Runs.len (s := 18) (sz := 2) (xs := List.map e_Pin x3.Pins) (by kernel_rfl) fun hl => ?_
  have hM : x3.Pins.length ≤ lim := len_of hl
  obtain ⟨x7, h8, h⟩ := bnd_e h
  have h := Option.some.inj h
  subst h
  exact Runs.path XTok PGmix [.r [], .b true, .r [.el (e_Pin x7), .id 2], .r [.es (encM kv_Pin dv_i64 (tput y6 x7 (i1 : Int)))], .r [.eq 27 (iA ((i5 + 1 : Nat) : Int))]] [] (an (lt_true hi) (an (idx_ok e_Pin h8) (an (an kd_Pin (an (Eq.refl (keys PG 28)) (an (kf_Pin x7) (put_ok dv_i64 ki_Pin y6 x7 (i1 : Int))))) (wrap_eq hi hM)))) (by kernel_rfl)
theorem nl_Nets_b1_e (a0 : Netlist) (i1 : Nat) (x3 : Net) (y6 : List (Pin × Int)) : Runs PG 30 0 nl_Nets_c1 (nl_Nets_F1 a0 i1 x3 (x3.Pins.length) y6) (nl_Nets_H1 a0 i1 x3 (x3.Pins.length) y6) (nl_Nets_B1 a0 i1 x3 y6) := by
  exact Runs.path XTok PGmix [.r [], .b false] [] (lt_false (x3.Pins.length)) (by kernel_rfl)
theorem nl_Nets_l1 (a0 : Netlist) (i1 : Nat) (x3 : Net) (y6 : List (Pin × Int)) (r : Fin' (List (Pin × Int)) (List (Pin × Int))) (h : forN (fun i5 s => nl_Nets_b1 a0 i1 x3 i5 s) (x3.Pins.length) 0 y6 = some r) : Runs PG 30 0 (cL (cR (cR (cL (cL (cR (cR nl_Nets_c0))))))) (nl_Nets_F1 a0 i1 x3 0 y6) (nl_Nets_H1 a0 i1 x3 0 y6) (finOc (nl_Nets_B1 a0 i1 x3) nl_Nets_R r) :=
  Runs.loop' (by kernel_rfl) (forN_rounds (σ := (List (Pin × Int))) (ρ := (List (Pin × Int))) (body := fun i5 s => nl_Nets_b1 a0 i1 x3 i5 s) (F := fun i5 s => nl_Nets_F1 a0 i1 x3 i5 s) (H := fun i5 s => nl_Nets_H1 a0 i1 x3 i5 s) (B := nl_Nets_B1 a0 i1 x3) (R := nl_Nets_R) (M := x3.Pins.length) (fun _ => rfl) (fun _ => rfl) (fun s => nl_Nets_b1_e a0 i1 x3 s) (fun i s o hi h => nl_Nets_b1_r a0 i1 x3 i s o hi h) _ 0 _ r (Nat.zero_add _) h)
noncomputable def nl_Nets_F0 (a0 : Netlist) (i1 : Nat) (y2 : List (Pin × Int)) : Fr := [(3, .t (.v (.rt 1))), (10, lA 3 (List.map e_Net a0.Nets)), (11, iA (a0.Nets.length : Int)), (12, iA (i1 : Int))]
noncomputable def nl_Nets_H0 (a0 : Netlist) (i1 : Nat) (y2 : List (Pin × Int)) : Hp := [(1, .map (keys PG 28) (encM kv_Pin dv_i64 y2))]
noncomputable def nl_Nets_B0 (a0 : Netlist) (s : (List (Pin × Int))) : Oc := .ex 0 [(3, .t (.v (.rt 1)))] [(1, .map (keys PG 28) (encM kv_Pin dv_i64 s))]
noncomputable def nl_Nets_b0 (a0 : Netlist) (i1 : Nat) (y2 : List (Pin × Int)) : Option (Stp (List (Pin × Int)) (List (Pin × Int))) :=
 bnd (atI a0.Nets (i1 : Int)) fun x3 =>
 aft1 (forN (fun i5 s => nl_Nets_b1 a0 i1 x3 i5 s) (x3.Pins.length) 0 y2) (fun u9 =>
 some (.go u9))
 (fun r11 =>
 some (.ret r11))
theorem nl_Nets_b0_r (a0 : Netlist) (i1 : Nat) (y2 : List (Pin × Int)) (o : Stp (List (Pin × Int)) (List (Pin × Int))) (hi : i1 < a0.Nets.length) (h : nl_Nets_b0 a0 i1 y2 = some o) :
    Runs PG 30 0 nl_Nets_c0 (nl_Nets_F0 a0 i1 y2) (nl_Nets_H0 a0 i1 y2) (stpOc (fun s' => .nor (nl_Nets_F0 a0 (i1 + 1) s') (nl_Nets_H0 a0 (i1 + 1) s')) (nl_Nets_B0 a0) nl_Nets_R o) := by
  unfold nl_Nets_b0 at h
  refine Runs.len (s := 10) (sz := 3) (xs := List.map e_Net a0.Nets) (by kernel_rfl) fun hl => ?_
  have hM : a0.Nets.length ≤ lim := len_of hl
  obtain ⟨x3, h4, h⟩ := bnd_e h
  rcases aft1_e h with ⟨u9, h10, h⟩ | ⟨r11, h10, h⟩
  · have h := Option.some.inj h
    subst h
    exact Runs.path XTok PGmix [.r [], .b true, .r [.el (e_Net x3), .id 2], .r [.eq 19 (iA (x3.Pins.length : Int))], .s (nl_Nets_F1 a0 i1 x3 0 y2) (nl_Nets_H1 a0 i1 x3 0 y2) [] (nl_Nets_B1 a0 i1 x3 u9), .r [.eq 28 (iA ((i1 + 1 : Nat) : Int))]] [] (an (lt_true hi) (an (idx_ok e_Net h4) (an (leni_eq e_Pin x3.Pins) (an (nl_Nets_l1 a0 i1 x3 y2 (.fin u9) h10) (wrap_eq hi hM))))) (by kernel_rfl)
  · have h := Option.some.inj h
    subst h
    exact Runs.path XTok PGmix [.r [], .b true, .r [.el (e_Net x3), .id 2], .r [.eq 19 (iA (x3.Pins.length : Int))], .s (nl_Nets_F1 a0 i1 x3 0 y2) (nl_Nets_H1 a0 i1 x3 0 y2) [] (nl_Nets_R r11)] [] (an (lt_true hi) (an (idx_ok e_Net h4) (an (leni_eq e_Pin x3.Pins) (nl_Nets_l1 a0 i1 x3 y2 (.ret r11) h10)))) (by kernel_rfl)
theorem nl_Nets_b0_e (a0 : Netlist) (y2 : List (Pin × Int)) : Runs PG 30 0 nl_Nets_c0 (nl_Nets_F0 a0 (a0.Nets.length) y2) (nl_Nets_H0 a0 (a0.Nets.length) y2) (nl_Nets_B0 a0 y2) := by
  exact Runs.path XTok PGmix [.r [], .b false] [] (lt_false (a0.Nets.length)) (by kernel_rfl)
theorem nl_Nets_l0 (a0 : Netlist) (y2 : List (Pin × Int)) (r : Fin' (List (Pin × Int)) (List (Pin × Int))) (h : forN (fun i1 s => nl_Nets_b0 a0 i1 s) (a0.Nets.length) 0 y2 = some r) : Runs PG 30 0 (cL (cR (cL (cR (cR nl_Nets_c))))) (nl_Nets_F0 a0 0 y2) (nl_Nets_H0 a0 0 y2) (finOc (nl_Nets_B0 a0) nl_Nets_R r) :=
  Runs.loop' (by kernel_rfl) (forN_rounds (σ := (List (Pin × Int))) (ρ := (List (Pin × Int))) (body := fun i1 s => nl_Nets_b0 a0 i1 s) (F := fun i1 s => nl_Nets_F0 a0 i1 s) (H := fun i1 s => nl_Nets_H0 a0 i1 s) (B := nl_Nets_B0 a0) (R := nl_Nets_R) (M := a0.Nets.length) (fun _ => rfl) (fun _ => rfl) (fun s => nl_Nets_b0_e a0 s) (fun i s o hi h => nl_Nets_b0_r a0 i s o hi h) _ 0 _ r (Nat.zero_add _) h)
noncomputable def nl_Nets (a0 : Netlist) : Option ((List (Pin × Int))) :=
 aft1 (forN (fun i1 s => nl_Nets_b0 a0 i1 s) (a0.Nets.length) 0 []) (fun u12 =>
 some u12)
 (fun r14 =>
 some r14)
theorem nl_Nets_ok (a0 : Netlist) (r : (List (Pin × Int))) (h : nl_Nets a0 = some r) : Spec PG 44 [gT (e_Netlist a0)] [] (.t (.v (.rt 0))) [(0, .map (keys PG 28) (encM kv_Pin dv_i64 r))] := by
  unfold nl_Nets at h
  rcases aft1_e h with ⟨u12, h13, h⟩ | ⟨r14, h13, h⟩
  · have h := Option.some.inj h
    subst h
    exact Spec.path XTok PGmix nl_Nets_fn 0 [.r [.id 0], .r [.id 1], .r [.eq 11 (iA (a0.Nets.length : Int))], .s (nl_Nets_F0 a0 0 []) (nl_Nets_H0 a0 0 []) [] (nl_Nets_B0 a0 u12), .r [], .w [(2, .t (.v (.rt 0)))] [(0, .map (keys PG 28) (encM kv_Pin dv_i64 u12))] [(0, 1)]] (an (leni_eq e_Net a0.Nets) (nl_Nets_l0 a0 [] (.fin u12) h13)) (by kernel_rfl)
  · have h := Option.some.inj h
    subst h
    exact Spec.path XTok PGmix nl_Nets_fn 0 [.r [.id 0], .r [.id 1], .r [.eq 11 (iA (a0.Nets.length : Int))], .s (nl_Nets_F0 a0 0 []) (nl_Nets_H0 a0 0 []) [] (nl_Nets_R r14)] (an (leni_eq e_Net a0.Nets) (nl_Nets_l0 a0 [] (.ret r14) h13)) (by kernel_rfl)

noncomputable def nl_NetOf_c : Code := (Go.Proofs.Tryd.f13.body).getD .skip
theorem nl_NetOf_fn : FnOk PG 13 nl_NetOf_c 39 [.tmp 6, .tmp 7, .tmp 8] := ⟨⟨Go.Proofs.Tryd.f13, by kernel_rfl, by kernel_rfl, by kernel_rfl, by kernel_rfl, by kernel_rfl⟩⟩
noncomputable def nl_NetOf (a0 : List PartType) (a1 : Netlist) (a2 : Pin) : Option (ByteArray × Bool × Int) :=
 bnd (nl_CheckList a0 a1) fun r1 =>
 cnd (r1 != 0) (some ((⟨#[]⟩ : ByteArray), false, r1)) (bnd (nl_hasPin a0 a1.Parts a2) fun r4 =>
 cnd (!r4) (some ((⟨#[]⟩ : ByteArray), false, 9)) (bnd2 (bnd (nl_Nets a1) fun r11 =>
 opt (tlook r11 a2) (fun v13 =>
 some (v13, true)) (some (0, false))) fun v7 v8 =>
 cnd (!v8) (some ((⟨#[]⟩ : ByteArray), false, 0)) (bnd (atI a1.Nets v7) fun x21 =>
 some (x21.Name, true, 0))))
theorem nl_NetOf_ok (a0 : List PartType) (a1 : Netlist) (a2 : Pin) (r : ByteArray × Bool × Int) (h : nl_NetOf a0 a1 a2 = some r) : Spec PG 13 [lT 2 (List.map e_PartType a0), gT (e_Netlist a1), gT (e_Pin a2)] [] (.tup [sT r.1, bT r.2.1, iT r.2.2]) [] := by
  unfold nl_NetOf at h
  obtain ⟨r1, h2, h⟩ := bnd_e h
  rcases cnd_e h with ⟨h3, h⟩ | ⟨h3, h⟩
  · have h := Option.some.inj h
    subst h
    exact Spec.path XTok PGmix nl_NetOf_fn 0 [.r [.id 0, .id 1], .r [.val (iA r1)], .r [], .b true, .r []] (an (nl_CheckList_ok a0 a1 r1 h2) h3) (by kernel_rfl)
  · obtain ⟨r4, h5, h⟩ := bnd_e h
    rcases cnd_e h with ⟨h6, h⟩ | ⟨h6, h⟩
    · have h := Option.some.inj h
      subst h
      exact Spec.path XTok PGmix nl_NetOf_fn 0 [.r [.id 0, .id 1], .r [.val (iA r1)], .r [], .b false, .r [.val (bA r4)], .b true, .r []] (an (nl_CheckList_ok a0 a1 r1 h2) (an h3 (an (nl_hasPin_ok a0 a1.Parts a2 r4 h5) h6))) (by kernel_rfl)
    · obtain ⟨v7, v8, h9, h⟩ := bnd2_e h
      let q19_f : Fr := [(4, .t (.v (.ptr 0 0))), (5, .t (.v (.ptr 1 0)))]
      let q19_g : Hp := [(0, .cells 26 [.c (.sl 2 (List.map e_Part a1.Parts)), .c (.sl 3 (List.map e_Net a1.Nets))]), (1, .cells 28 [.c (sC a2.Part), .c (sC a2.Pin)])]
      let q19_f' : Fr := [(4, .t (.v (.ptr 0 0))), (10, iA v7), (11, bA v8)]
      let q19_g' : Hp := [(0, .cells 26 [.c (.sl 2 (List.map e_Part a1.Parts)), .c (.sl 3 (List.map e_Net a1.Nets))])]
      have R10 : Runs PG 39 0 (cL (cR (cR (cR nl_NetOf_c)))) q19_f q19_g (.nor q19_f' q19_g') := by
        obtain ⟨r11, h12, h9⟩ := bnd_e h9
        rcases opt_e h9 with ⟨v13, h14, h9⟩ | ⟨h14, h9⟩
        · have h9 := Option.some.inj h9
          have q15 := (Prod.mk.inj h9).1
          have q16 := (Prod.mk.inj h9).2
          subst q15
          subst q16
          exact Runs.path XTok PGmix [.d [([0], []), ([], [.call [(0, 2)] [gT (e_Netlist a1)] [] (.t (.v (.rt 0))) [(0, .map (keys PG 28) (encM kv_Pin dv_i64 r11))]]), ([1], []), ([2], [.look (some (dv_i64 v13))]), ([], []), ([], []), ([], []), ([], []), ([], [])]] [] (an (an (nl_Nets_ok a1 r11 h12) (an (Eq.refl ([gT (e_Netlist a1)] : List TV)) (Eq.refl (renH (asg [(0, 2)]) [])))) (an kd_Pin (an (Eq.refl (keys PG 28)) (an (kf_Pin a2) (tl_some dv_i64 ki_Pin h14))))) (by kernel_rfl)
        · have h9 := Option.some.inj h9
          have q17 := (Prod.mk.inj h9).1
          have q18 := (Prod.mk.inj h9).2
          subst q17
          subst q18
          exact Runs.path XTok PGmix [.d [([0], []), ([], [.call [(0, 2)] [gT (e_Netlist a1)] [] (.t (.v (.rt 0))) [(0, .map (keys PG 28) (encM kv_Pin dv_i64 r11))]]), ([1], []), ([2], [.look (none)]), ([], []), ([], []), ([], []), ([], []), ([], [])]] [] (an (an (nl_Nets_ok a1 r11 h12) (an (Eq.refl ([gT (e_Netlist a1)] : List TV)) (Eq.refl (renH (asg [(0, 2)]) [])))) (an kd_Pin (an (Eq.refl (keys PG 28)) (an (kf_Pin a2) (tl_none dv_i64 ki_Pin h14))))) (by kernel_rfl)
      rcases cnd_e h with ⟨h20, h⟩ | ⟨h20, h⟩
      · have h := Option.some.inj h
        subst h
        exact Spec.path XTok PGmix nl_NetOf_fn 0 [.r [.id 0, .id 1], .r [.val (iA r1)], .r [], .b false, .r [.val (bA r4)], .b false, .s q19_f q19_g [] (.nor q19_f' q19_g'), .r [], .b true, .r []] (an (nl_CheckList_ok a0 a1 r1 h2) (an h3 (an (nl_hasPin_ok a0 a1.Parts a2 r4 h5) (an h6 (an R10 h20))))) (by kernel_rfl)
      · obtain ⟨x21, h22, h⟩ := bnd_e h
        have h := Option.some.inj h
        subst h
        exact Spec.path XTok PGmix nl_NetOf_fn 0 [.r [.id 0, .id 1], .r [.val (iA r1)], .r [], .b false, .r [.val (bA r4)], .b false, .s q19_f q19_g [] (.nor q19_f' q19_g'), .r [], .b false, .r [.el (e_Net x21)]] (an (nl_CheckList_ok a0 a1 r1 h2) (an h3 (an (nl_hasPin_ok a0 a1.Parts a2 r4 h5) (an h6 (an R10 (an h20 (idx_ok e_Net h22))))))) (by kernel_rfl)

noncomputable def ref_within_c : Code := (Go.Proofs.Tryd.f162.body).getD .skip
theorem ref_within_fn : FnOk PG 162 ref_within_c 15 [.tmp 6] := ⟨⟨Go.Proofs.Tryd.f162, by kernel_rfl, by kernel_rfl, by kernel_rfl, by kernel_rfl, by kernel_rfl⟩⟩
noncomputable def ref_within (a0 : Int) (a1 : Int) (a2 : Int) : Option Bool :=
 bnd1 (cnd (decide (a1 ≤ a0)) (some (decide (a0 ≤ a2))) (some false)) fun v1 =>
 some v1
theorem ref_within_ok (a0 : Int) (a1 : Int) (a2 : Int) (r : Bool) (h : ref_within a0 a1 a2 = some r) : Spec PG 162 [iT a0, iT a1, iT a2] [] (bA r) [] := by
  unfold ref_within at h
  obtain ⟨v1, h2, h⟩ := bnd1_e h
  let q5_f : Fr := [(0, iA a0), (1, iA a1), (2, iA a2)]
  let q5_g : Hp := []
  let q5_f' : Fr := [(6, bA v1)]
  let q5_g' : Hp := []
  have R3 : Runs PG 15 0 (cL (cR ref_within_c)) q5_f q5_g (.nor q5_f' q5_g') := by
    rcases cnd_e h2 with ⟨h4, h2⟩ | ⟨h4, h2⟩
    · have h2 := Option.some.inj h2
      subst h2
      exact Runs.path XTok PGmix [.r [.b true, .b true, .b true, .b true]] [] (an h4 (an h4 (an h4 h4))) (by kernel_rfl)
    · have h2 := Option.some.inj h2
      subst h2
      exact Runs.path XTok PGmix [.r [.b false, .b false, .b false, .b false]] [] (an h4 (an h4 (an h4 h4))) (by kernel_rfl)
  have h := Option.some.inj h
  subst h
  exact Spec.path XTok PGmix ref_within_fn 0 [.r [], .s q5_f q5_g [] (.nor q5_f' q5_g')] R3 (by kernel_rfl)

noncomputable def ref_IsWord_c : Code := (Go.Proofs.Tryd.f161.body).getD .skip
theorem ref_IsWord_fn : FnOk PG 161 ref_IsWord_c 44 [.tmp 2] := ⟨⟨Go.Proofs.Tryd.f161, by kernel_rfl, by kernel_rfl, by kernel_rfl, by kernel_rfl, by kernel_rfl⟩⟩
noncomputable def ref_IsWord_c0 : Code := cL (cL (cR (cL (cR ref_IsWord_c))))
noncomputable def ref_IsWord_R (r : Bool) : Oc := .ret [(2, bA r)] []
noncomputable def ref_IsWord_F0 (a0 : ByteArray) (i1 : Nat) : Fr := [(0, sA a0), (5, sA a0), (6, iA (a0.size : Int)), (7, iA (i1 : Int))]
noncomputable def ref_IsWord_H0 (a0 : ByteArray) (i1 : Nat) : Hp := []
noncomputable def ref_IsWord_B0 (a0 : ByteArray) (s : Unit) : Oc := .ex 0 [(0, sA a0)] []
noncomputable def ref_IsWord_b0 (a0 : ByteArray) (i1 : Nat) : Option (Stp Unit Bool) :=
 grd ((0 : Int) ≤ (i1 : Int) ∧ (i1 : Int) < (a0.size : Int)) <|
 bnd1 (cnd (decide ((bt a0 (i1 : Int)) < 97)) (cnd (decide ((bt a0 (i1 : Int)) < 65)) (cnd (decide ((bt a0 (i1 : Int)) < 48)) (bnd (h_IndexByte (⟨#[95, 43, 45, 35]⟩ : ByteArray) (bt a0 (i1 : Int))) fun r9 =>
 some (decide (r9 < 0))) (cnd (decide ((bt a0 (i1 : Int)) > 57)) (bnd (h_IndexByte (⟨#[95, 43, 45, 35]⟩ : ByteArray) (bt a0 (i1 : Int))) fun r12 =>
 some (decide (r12 < 0))) (some false))) (cnd (decide ((bt a0 (i1 : Int)) > 90)) (cnd (decide ((bt a0 (i1 : Int)) < 48)) (bnd (h_IndexByte (⟨#[95, 43, 45, 35]⟩ : ByteArray) (bt a0 (i1 : Int))) fun r16 =>
 some (decide (r16 < 0))) (cnd (decide ((bt a0 (i1 : Int)) > 57)) (bnd (h_IndexByte (⟨#[95, 43, 45, 35]⟩ : ByteArray) (bt a0 (i1 : Int))) fun r19 =>
 some (decide (r19 < 0))) (some false))) (some false))) (cnd (decide ((bt a0 (i1 : Int)) > 122)) (cnd (decide ((bt a0 (i1 : Int)) < 65)) (cnd (decide ((bt a0 (i1 : Int)) < 48)) (bnd (h_IndexByte (⟨#[95, 43, 45, 35]⟩ : ByteArray) (bt a0 (i1 : Int))) fun r24 =>
 some (decide (r24 < 0))) (cnd (decide ((bt a0 (i1 : Int)) > 57)) (bnd (h_IndexByte (⟨#[95, 43, 45, 35]⟩ : ByteArray) (bt a0 (i1 : Int))) fun r27 =>
 some (decide (r27 < 0))) (some false))) (cnd (decide ((bt a0 (i1 : Int)) > 90)) (cnd (decide ((bt a0 (i1 : Int)) < 48)) (bnd (h_IndexByte (⟨#[95, 43, 45, 35]⟩ : ByteArray) (bt a0 (i1 : Int))) fun r31 =>
 some (decide (r31 < 0))) (cnd (decide ((bt a0 (i1 : Int)) > 57)) (bnd (h_IndexByte (⟨#[95, 43, 45, 35]⟩ : ByteArray) (bt a0 (i1 : Int))) fun r34 =>
 some (decide (r34 < 0))) (some false))) (some false))) (some false))) fun v3 =>
 cnd v3 (some (.ret false)) (some (.go ()))
theorem ref_IsWord_b0_r (a0 : ByteArray) (i1 : Nat) (o : Stp Unit Bool) (hi : i1 < a0.size) (h : ref_IsWord_b0 a0 i1 = some o) :
    Runs PG 44 0 ref_IsWord_c0 (ref_IsWord_F0 a0 i1 ) (ref_IsWord_H0 a0 i1 ) (stpOc (fun s' => .nor (ref_IsWord_F0 a0 (i1 + 1) ) (ref_IsWord_H0 a0 (i1 + 1) )) (ref_IsWord_B0 a0) ref_IsWord_R o) := by
  unfold ref_IsWord_b0 at h
  refine Runs.slen (s := 5) (b := a0) (by kernel_rfl) fun hM => ?_
  obtain ⟨h2, h⟩ := grd_e h
  obtain ⟨v3, h4, h⟩ := bnd1_e h
  let q36_f : Fr := [(0, sA a0), (4, .t (.v (.c (.v (.int .u8 (bt a0 (i1 : Int))))))), (5, sA a0), (6, iA (a0.size : Int)), (7, iA (i1 : Int))]
  let q36_g : Hp := []
  let q36_f' : Fr := [(0, sA a0), (5, sA a0), (6, iA (a0.size : Int)), (7, iA (i1 : Int)), (39, bA v3)]
  let q36_g' : Hp := []
  have R5 : Runs PG 44 0 (cL (cR (cR (cL (cL (cR (cR ref_IsWord_c0))))))) q36_f q36_g (.nor q36_f' q36_g') := by
    rcases cnd_e h4 with ⟨h6, h4⟩ | ⟨h6, h4⟩
    · rcases cnd_e h4 with ⟨h7, h4⟩ | ⟨h7, h4⟩
      · rcases cnd_e h4 with ⟨h8, h4⟩ | ⟨h8, h4⟩
        · obtain ⟨r9, h10, h4⟩ := bnd_e h4
          have h4 := Option.some.inj h4
          subst h4
          exact Runs.path XTok PGmix [.r [.b true, .b true, .b true, .b true, .b true, .b true, .b true, .b true, .b true, .b true, .b true, .b true, .b true, .b true, .b true, .b true, .b true, .b true, .b true, .b true, .b true, .val (iA r9), .b true, .b true]] [] (an h6 (an h6 (an h6 (an (Eq.refl true) (an (Eq.refl true) (an (Eq.refl true) (an h7 (an h7 (an (Eq.refl true) (an h7 (an (Eq.refl true) (an (Eq.refl true) (an (Eq.refl true) (an (Eq.refl true) (an h8 (an h8 (an (Eq.refl true) (an h8 (an (Eq.refl true) (an (Eq.refl true) (an (Eq.refl true) (an (h_IndexByte_ok (⟨#[95, 43, 45, 35]⟩ : ByteArray) (bt a0 (i1 : Int)) r9 h10) (an (Eq.refl true) (Eq.refl true)))))))))))))))))))))))) (by kernel_rfl)
        · rcases cnd_e h4 with ⟨h11, h4⟩ | ⟨h11, h4⟩
          · obtain ⟨r12, h13, h4⟩ := bnd_e h4
            have h4 := Option.some.inj h4
            subst h4
            exact Runs.path XTok PGmix [.r [.b true, .b true, .b true, .b true, .b true, .b true, .b true, .b true, .b true, .b true, .b true, .b true, .b true, .b true, .b false, .b false, .b true, .b false, .b true, .b true, .b true, .val (iA r12), .b true, .b true]] [] (an h6 (an h6 (an h6 (an (Eq.refl true) (an (Eq.refl true) (an (Eq.refl true) (an h7 (an h7 (an (Eq.refl true) (an h7 (an (Eq.refl true) (an (Eq.refl true) (an (Eq.refl true) (an (Eq.refl true) (an h8 (an h8 (an (Eq.refl true) (an h8 (an (Eq.refl true) (an h11 (an h11 (an (h_IndexByte_ok (⟨#[95, 43, 45, 35]⟩ : ByteArray) (bt a0 (i1 : Int)) r12 h13) (an h11 h11))))))))))))))))))))))) (by kernel_rfl)
          · have h4 := Option.some.inj h4
            subst h4
            exact Runs.path XTok PGmix [.r [.b true, .b true, .b true, .b true, .b true, .b true, .b true, .b true, .b true, .b true, .b true, .b true, .b true, .b true, .b false, .b false, .b true, .b false, .b true, .b false, .b false, .b false, .b false]] [] (an h6 (an h6 (an h6 (an (Eq.refl true) (an (Eq.refl true) (an (Eq.refl true) (an h7 (an h7 (an (Eq.refl true) (an h7 (an (Eq.refl true) (an (Eq.refl true) (an (Eq.refl true) (an (Eq.refl true) (an h8 (an h8 (an (Eq.refl true) (an h8 (an (Eq.refl true) (an h11 (an h11 (an h11 h11)))))))))))))))))))))) (by kernel_rfl)
      · rcases cnd_e h4 with ⟨h14, h4⟩ | ⟨h14, h4⟩
        · rcases cnd_e h4 with ⟨h15, h4⟩ | ⟨h15, h4⟩
          · obtain ⟨r16, h17, h4⟩ := bnd_e h4
            have h4 := Option.some.inj h4
            subst h4
            exact Runs.path XTok PGmix [.r [.b true, .b true, .b true, .b true, .b true, .b true, .b false, .b false, .b true, .b false, .b true, .b true, .b true, .b true, .b true, .b true, .b true, .b true, .b true, .b true, .b true, .val (iA r16), .b true, .b true]] [] (an h6 (an h6 (an h6 (an (Eq.refl true) (an (Eq.refl true) (an (Eq.refl true) (an h7 (an h7 (an (Eq.refl true) (an h7 (an (Eq.refl true) (an h14 (an h14 (an h14 (an h15 (an h15 (an h14 (an h15 (an h14 (an (Eq.refl true) (an (Eq.refl true) (an (h_IndexByte_ok (⟨#[95, 43, 45, 35]⟩ : ByteArray) (bt a0 (i1 : Int)) r16 h17) (an (Eq.refl true) (Eq.refl true)))))))))))))))))))))))) (by kernel_rfl)
          · rcases cnd_e h4 with ⟨h18, h4⟩ | ⟨h18, h4⟩
            · obtain ⟨r19, h20, h4⟩ := bnd_e h4
              have h4 := Option.some.inj h4
              subst h4
              exact Runs.path XTok PGmix [.r [.b true, .b true, .b true, .b true, .b true, .b true, .b false, .b false, .b true, .b false, .b true, .b true, .b true, .b true, .b false, .b false, .b true, .b false, .b true, .b true, .b true, .val (iA r19), .b true, .b true]] [] (an h6 (an h6 (an h6 (an (Eq.refl true) (an (Eq.refl true) (an (Eq.refl true) (an h7 (an h7 (an (Eq.refl true) (an h7 (an (Eq.refl true) (an h14 (an h14 (an h14 (an h15 (an h15 (an h14 (an h15 (an h14 (an h18 (an h18 (an (h_IndexByte_ok (⟨#[95, 43, 45, 35]⟩ : ByteArray) (bt a0 (i1 : Int)) r19 h20) (an h18 h18))))))))))))))))))))))) (by kernel_rfl)
            · have h4 := Option.some.inj h4
              subst h4
              exact Runs.path XTok PGmix [.r [.b true, .b true, .b true, .b true, .b true, .b true, .b false, .b false, .b true, .b false, .b true, .b true, .b true, .b true, .b false, .b false, .b true, .b false, .b true, .b false, .b false, .b false, .b false]] [] (an h6 (an h6 (an h6 (an (Eq.refl true) (an (Eq.refl true) (an (Eq.refl true) (an h7 (an h7 (an (Eq.refl true) (an h7 (an (Eq.refl true) (an h14 (an h14 (an h14 (an h15 (an h15 (an h14 (an h15 (an h14 (an h18 (an h18 (an h18 h18)))))))))))))))))))))) (by kernel_rfl)
        · have h4 := Option.some.inj h4
          subst h4
          exact Runs.path XTok PGmix [.r [.b true, .b true, .b true, .b true, .b true, .b true, .b false, .b false, .b true, .b false, .b true, .b false, .b false, .b false, .b false, .b false, .b false, .b false, .b false, .b false]] [] (an h6 (an h6 (an h6 (an (Eq.refl true) (an (Eq.refl true) (an (Eq.refl true) (an h7 (an h7 (an (Eq.refl true) (an h7 (an (Eq.refl true) (an h14 (an h14 (an h14 (an h14 (an h14 (an (Eq.refl false) (an (Eq.refl false) (an (Eq.refl false) (Eq.refl false)))))))))))))))))))) (by kernel_rfl)
    · rcases cnd_e h4 with ⟨h21, h4⟩ | ⟨h21, h4⟩
      · rcases cnd_e h4 with ⟨h22, h4⟩ | ⟨h22, h4⟩
        · rcases cnd_e h4 with ⟨h23, h4⟩ | ⟨h23, h4⟩
          · obtain ⟨r24, h25, h4⟩ := bnd_e h4
            have h4 := Option.some.inj h4
            subst h4
            exact Runs.path XTok PGmix [.r [.b false, .b false, .b false, .b true, .b true, .b true, .b true, .b true, .b true, .b true, .b true, .b true, .b true, .b true, .b true, .b true, .b true, .b true, .b true, .b true, .b true, .val (iA r24), .b true, .b true]] [] (an h6 (an h6 (an h6 (an h21 (an h21 (an h21 (an h22 (an h22 (an h21 (an h22 (an h21 (an (Eq.refl true) (an (Eq.refl true) (an (Eq.refl true) (an h23 (an h23 (an (Eq.refl true) (an h23 (an (Eq.refl true) (an (Eq.refl true) (an (Eq.refl true) (an (h_IndexByte_ok (⟨#[95, 43, 45, 35]⟩ : ByteArray) (bt a0 (i1 : Int)) r24 h25) (an (Eq.refl true) (Eq.refl true)))))))))))))))))))))))) (by kernel_rfl)
          · rcases cnd_e h4 with ⟨h26, h4⟩ | ⟨h26, h4⟩
            · obtain ⟨r27, h28, h4⟩ := bnd_e h4
              have h4 := Option.some.inj h4
              subst h4
              exact Runs.path XTok PGmix [.r [.b false, .b false, .b false, .b true, .b true, .b true, .b true, .b true, .b true, .b true, .b true, .b true, .b true, .b true, .b false, .b false, .b true, .b false, .b true, .b true, .b true, .val (iA r27), .b true, .b true]] [] (an h6 (an h6 (an h6 (an h21 (an h21 (an h21 (an h22 (an h22 (an h21 (an h22 (an h21 (an (Eq.refl true) (an (Eq.refl true) (an (Eq.refl true) (an h23 (an h23 (an (Eq.refl true) (an h23 (an (Eq.refl true) (an h26 (an h26 (an (h_IndexByte_ok (⟨#[95, 43, 45, 35]⟩ : ByteArray) (bt a0 (i1 : Int)) r27 h28) (an h26 h26))))))))))))))))))))))) (by kernel_rfl)
            · have h4 := Option.some.inj h4
              subst h4
              exact Runs.path XTok PGmix [.r [.b false, .b false, .b false, .b true, .b true, .b true, .b true, .b true, .b true, .b true, .b true, .b true, .b true, .b true, .b false, .b false, .b true, .b false, .b true, .b false, .b false, .b false, .b false]] [] (an h6 (an h6 (an h6 (an h21 (an h21 (an h21 (an h22 (an h22 (an h21 (an h22 (an h21 (an (Eq.refl true) (an (Eq.refl true) (an (Eq.refl true) (an h23 (an h23 (an (Eq.refl true) (an h23 (an (Eq.refl true) (an h26 (an h26 (an h26 h26)))))))))))))))))))))) (by kernel_rfl)
        · rcases cnd_e h4 with ⟨h29, h4⟩ | ⟨h29, h4⟩
          · rcases cnd_e h4 with ⟨h30, h4⟩ | ⟨h30, h4⟩
            · obtain ⟨r31, h32, h4⟩ := bnd_e h4
              have h4 := Option.some.inj h4
              subst h4
              exact Runs.path XTok PGmix [.r [.b false, .b false, .b false, .b true, .b true, .b true, .b false, .b false, .b true, .b false, .b true, .b true, .b true, .b true, .b true, .b true, .b true, .b true, .b true, .b true, .b true, .val (iA r31), .b true, .b true]] [] (an h6 (an h6 (an h6 (an h21 (an h21 (an h21 (an h22 (an h22 (an h21 (an h22 (an h21 (an h29 (an h29 (an h29 (an h30 (an h30 (an h29 (an h30 (an h29 (an (Eq.refl true) (an (Eq.refl true) (an (h_IndexByte_ok (⟨#[95, 43, 45, 35]⟩ : ByteArray) (bt a0 (i1 : Int)) r31 h32) (an (Eq.refl true) (Eq.refl true)))))))))))))))))))))))) (by kernel_rfl)
            · rcases cnd_e h4 with ⟨h33, h4⟩ | ⟨h33, h4⟩
              · obtain ⟨r34, h35, h4⟩ := bnd_e h4
                have h4 := Option.some.inj h4
                subst h4
                exact Runs.path XTok PGmix [.r [.b false, .b false, .b false, .b true, .b true, .b true, .b false, .b false, .b true, .b false, .b true, .b true, .b true, .b true, .b false, .b false, .b true, .b false, .b true, .b true, .b true, .val (iA r34), .b true, .b true]] [] (an h6 (an h6 (an h6 (an h21 (an h21 (an h21 (an h22 (an h22 (an h21 (an h22 (an h21 (an h29 (an h29 (an h29 (an h30 (an h30 (an h29 (an h30 (an h29 (an h33 (an h33 (an (h_IndexByte_ok (⟨#[95, 43, 45, 35]⟩ : ByteArray) (bt a0 (i1 : Int)) r34 h35) (an h33 h33))))))))))))))))))))))) (by kernel_rfl)
              · have h4 := Option.some.inj h4
                subst h4
                exact Runs.path XTok PGmix [.r [.b false, .b false, .b false, .b true, .b true, .b true, .b false, .b false, .b true, .b false, .b true, .b true, .b true, .b true, .b false, .b false, .b true, .b false, .b true, .b false, .b false, .b false, .b false]] [] (an h6 (an h6 (an h6 (an h21 (an h21 (an h21 (an h22 (an h22 (an h21 (an h22 (an h21 (an h29 (an h29 (an h29 (an h30 (an h30 (an h29 (an h30 (an h29 (an h33 (an h33 (an h33 h33)))))))))))))))))))))) (by kernel_rfl)
          · have h4 := Option.some.inj h4
            subst h4
            exact Runs.path XTok PGmix [.r [.b false, .b false, .b false, .b true, .b true, .b true, .b false, .b false, .b true, .b false, .b true, .b false, .b false, .b false, .b false, .b false, .b false, .b false, .b false, .b false]] [] (an h6 (an h6 (an h6 (an h21 (an h21 (an h21 (an h22 (an h22 (an h21 (an h22 (an h21 (an h29 (an h29 (an h29 (an h29 (an h29 (an (Eq.refl false) (an (Eq.refl false) (an (Eq.refl false) (Eq.refl false)))))))))))))))))))) (by kernel_rfl)
      · have h4 := Option.some.inj h4
        subst h4
        exact Runs.path XTok PGmix [.r [.b false, .b false, .b false, .b false, .b false, .b false, .b false, .b false, .b false, .b false, .b false, .b false, .b false, .b false, .b false, .b false, .b false]] [] (an h6 (an h6 (an h6 (an h21 (an h21 (an h21 (an h21 (an h21 (an (Eq.refl false) (an (Eq.refl false) (an (Eq.refl false) (an (Eq.refl false) (an (Eq.refl false) (an (Eq.refl false) (an (Eq.refl false) (an (Eq.refl false) (Eq.refl false))))))))))))))))) (by kernel_rfl)
  rcases cnd_e h with ⟨h37, h⟩ | ⟨h37, h⟩
  · have h := Option.some.inj h
    subst h
    exact Runs.path XTok PGmix [.r [], .b true, .r [], .r [], .s q36_f q36_g [] (.nor q36_f' q36_g'), .b true, .r []] [] (an (lt_true hi) (an h2 (an R5 h37))) (by kernel_rfl)
  · have h := Option.some.inj h
    subst h
    exact Runs.path XTok PGmix [.r [], .b true, .r [], .r [], .s q36_f q36_g [] (.nor q36_f' q36_g'), .b false, .r [.eq 40 (iA ((i1 + 1 : Nat) : Int))]] [] (an (lt_true hi) (an h2 (an R5 (an h37 (wrap_eq hi hM))))) (by kernel_rfl)
theorem ref_IsWord_b0_e (a0 : ByteArray) : Runs PG 44 0 ref_IsWord_c0 (ref_IsWord_F0 a0 (a0.size) ) (ref_IsWord_H0 a0 (a0.size) ) (ref_IsWord_B0 a0 ()) := by
  exact Runs.path XTok PGmix [.r [], .b false] [] (lt_false (a0.size)) (by kernel_rfl)
theorem ref_IsWord_l0 (a0 : ByteArray) (r : Fin' Unit Bool) (h : forN (fun i1 s => ref_IsWord_b0 a0 i1 ) (a0.size) 0 () = some r) : Runs PG 44 0 (cL (cR (cL (cR ref_IsWord_c)))) (ref_IsWord_F0 a0 0 ) (ref_IsWord_H0 a0 0 ) (finOc (ref_IsWord_B0 a0) ref_IsWord_R r) :=
  Runs.loop' (by kernel_rfl) (forN_rounds (σ := Unit) (ρ := Bool) (body := fun i1 s => ref_IsWord_b0 a0 i1 ) (F := fun i1 s => ref_IsWord_F0 a0 i1 ) (H := fun i1 s => ref_IsWord_H0 a0 i1 ) (B := ref_IsWord_B0 a0) (R := ref_IsWord_R) (M := a0.size) (fun _ => rfl) (fun _ => rfl) (fun s => ref_IsWord_b0_e a0 ) (fun i s o hi h => ref_IsWord_b0_r a0 i o hi h) _ 0 _ r (Nat.zero_add _) h)
noncomputable def ref_IsWord (a0 : ByteArray) : Option Bool :=
 aft0 (forN (fun i1 s => ref_IsWord_b0 a0 i1 ) (a0.size) 0 ()) (
 bnd (ref_within (a0.size : Int) 1 40) fun r40 =>
 some r40)
 (fun r39 =>
 some r39)
theorem ref_IsWord_ok (a0 : ByteArray) (r : Bool) (h : ref_IsWord a0 = some r) : Spec PG 161 [sT a0] [] (bA r) [] := by
  unfold ref_IsWord at h
  rcases aft0_e h with ⟨h38, h⟩ | ⟨r39, h38, h⟩
  · obtain ⟨r40, h41, h⟩ := bnd_e h
    have h := Option.some.inj h
    subst h
    exact Spec.path XTok PGmix ref_IsWord_fn 0 [.r [], .r [], .s (ref_IsWord_F0 a0 0 ) (ref_IsWord_H0 a0 0 ) [] (ref_IsWord_B0 a0 ()), .r [.val (bA r40)]] (an (ref_IsWord_l0 a0 (.fin ()) h38) (ref_within_ok (a0.size : Int) 1 40 r40 h41)) (by kernel_rfl)
  · have h := Option.some.inj h
    subst h
    exact Spec.path XTok PGmix ref_IsWord_fn 0 [.r [], .r [], .s (ref_IsWord_F0 a0 0 ) (ref_IsWord_H0 a0 0 ) [] (ref_IsWord_R r39)] (ref_IsWord_l0 a0 (.ret r39) h38) (by kernel_rfl)

noncomputable def ref_checkType_c : Code := (Go.Proofs.Tryd.f114.body).getD .skip
theorem ref_checkType_fn : FnOk PG 114 ref_checkType_c 99 [.tmp 2] := ⟨⟨Go.Proofs.Tryd.f114, by kernel_rfl, by kernel_rfl, by kernel_rfl, by kernel_rfl, by kernel_rfl⟩⟩
noncomputable def ref_checkType_c0 : Code := cL (cL (cR (cL (cR (cR ref_checkType_c)))))
noncomputable def ref_checkType_R (r : Int) : Oc := .ret [(2, iA r)] []
noncomputable def ref_checkType_F0 (a0 : PartType) (i6 : Nat) : Fr := [(1, .t (.v (.ptr 0 0))), (25, lA 3 (List.map e_PinType a0.Pins)), (26, iA (a0.Pins.length : Int)), (27, iA (i6 : Int))]
noncomputable def ref_checkType_H0 (a0 : PartType) (i6 : Nat) : Hp := [(0, .cells 93 [.c (sC a0.Name), .c (.sl 3 (List.map e_PinType a0.Pins))])]
noncomputable def ref_checkType_B0 (a0 : PartType) (s : Unit) : Oc := .ex 1 [(1, .t (.v (.ptr 0 0)))] [(0, .cells 93 [.c (sC a0.Name), .c (.sl 3 (List.map e_PinType a0.Pins))])]
noncomputable def ref_checkType_b0 (a0 : PartType) (i6 : Nat) : Option (Stp Unit Int) :=
 bnd (atI a0.Pins (i6 : Int)) fun x7 =>
 bnd (ref_IsWord x7.Name) fun r9 =>
 cnd (!r9) (some (.ret 5)) (bnd (ref_within x7.Kind 1 7) fun r12 =>
 cnd (!r12) (some (.ret 4)) (bnd (ref_within x7.Group 0 200) fun r15 =>
 cnd (!r15) (some (.ret 1)) (bnd1 (cnd (decide ((i6 : Int) > 0)) (bnd (atI a0.Pins (w64 ((i6 : Int) - 1))) fun x22 =>
 some (sLe x7.Name x22.Name)) (some false)) fun v18 =>
 cnd v18 (some (.ret 8)) (some (.go ())))))
theorem ref_checkType_b0_r (a0 : PartType) (i6 : Nat) (o : Stp Unit Int) (hi : i6 < a0.Pins.length) (h : ref_checkType_b0 a0 i6 = some o) :
    Runs PG 99 0 ref_checkType_c0 (ref_checkType_F0 a0 i6 ) (ref_checkType_H0 a0 i6 ) (stpOc (fun s' => .nor (ref_checkType_F0 a0 (i6 + 1) ) (ref_checkType_H0 a0 (i6 + 1) )) (ref_checkType_B0 a0) ref_checkType_R o) := by
  unfold ref_checkType_b0 at h
  refine Runs.len (s := 25) (sz := 3) (xs := List.map e_PinType a0.Pins) (by kernel_rfl) fun hl => ?_
  have hM : a0.Pins.length ≤ lim := len_of hl
  obtain ⟨x7, h8, h⟩ := bnd_e h
  obtain ⟨r9, h10, h⟩ := bnd_e h
  rcases cnd_e h with ⟨h11, h⟩ | ⟨h11, h⟩
  · have h := Option.some.inj h
    subst h
    exact Runs.path XTok PGmix [.r [], .b true, .r [.el (e_PinType x7), .id 1], .r [.val (bA r9)], .b true, .r []] [] (an (lt_true hi) (an (idx_ok e_PinType h8) (an (ref_IsWord_ok x7.Name r9 h10) h11))) (by kernel_rfl)
  · obtain ⟨r12, h13, h⟩ := bnd_e h
    rcases cnd_e h with ⟨h14, h⟩ | ⟨h14, h⟩
    · have h := Option.some.inj h
      subst h
      exact Runs.path XTok PGmix [.r [], .b true, .r [.el (e_PinType x7), .id 1], .r [.val (bA r9)], .b false, .r [.val (bA r12)], .b true, .r []] [] (an (lt_true hi) (an (idx_ok e_PinType h8) (an (ref_IsWord_ok x7.Name r9 h10) (an h11 (an (ref_within_ok x7.Kind 1 7 r12 h13) h14))))) (by kernel_rfl)
    · obtain ⟨r15, h16, h⟩ := bnd_e h
      rcases cnd_e h with ⟨h17, h⟩ | ⟨h17, h⟩
      · have h := Option.some.inj h
        subst h
        exact Runs.path XTok PGmix [.r [], .b true, .r [.el (e_PinType x7), .id 1], .r [.val (bA r9)], .b false, .r [.val (bA r12)], .b false, .r [.val (bA r15)], .b true, .r []] [] (an (lt_true hi) (an (idx_ok e_PinType h8) (an (ref_IsWord_ok x7.Name r9 h10) (an h11 (an (ref_within_ok x7.Kind 1 7 r12 h13) (an h14 (an (ref_within_ok x7.Group 0 200 r15 h16) h17))))))) (by kernel_rfl)
      · obtain ⟨v18, h19, h⟩ := bnd1_e h
        let q24_f : Fr := [(1, .t (.v (.ptr 0 0))), (3, iA (i6 : Int)), (4, .t (.v (.ptr 1 0))), (25, lA 3 (List.map e_PinType a0.Pins)), (26, iA (a0.Pins.length : Int)), (27, iA (i6 : Int))]
        let q24_g : Hp := [(0, .cells 93 [.c (sC a0.Name), .c (.sl 3 (List.map e_PinType a0.Pins))]), (1, .cells 90 [.c (sC x7.Name), .c (iC x7.Kind), .c (iC x7.Group)])]
        let q24_f' : Fr := [(1, .t (.v (.ptr 0 0))), (25, lA 3 (List.map e_PinType a0.Pins)), (26, iA (a0.Pins.length : Int)), (27, iA (i6 : Int)), (47, bA v18)]
        let q24_g' : Hp := [(0, .cells 93 [.c (sC a0.Name), .c (.sl 3 (List.map e_PinType a0.Pins))])]
        have R20 : Runs PG 99 0 (cL (cR (cR (cR (cR (cR (cR (cL (cR (cL (cL (cR (cR ref_checkType_c0))))))))))))) q24_f q24_g (.nor q24_f' q24_g') := by
          rcases cnd_e h19 with ⟨h21, h19⟩ | ⟨h21, h19⟩
          · obtain ⟨x22, h23, h19⟩ := bnd_e h19
            have h19 := Option.some.inj h19
            subst h19
            exact Runs.path XTok PGmix [.d [([], []), ([], []), ([], []), ([], [.b true]), ([1], [.b true]), ([], [.b true]), ([0], [.b true]), ([], [.b true]), ([], [.b true]), ([], [.b true, .el (e_PinType x22)]), ([], [.b true]), ([], [.b true]), ([], [.b true]), ([], [.b true]), ([], [])]] [] (an h21 (an h21 (an h21 (an h21 (an h21 (an h21 (an h21 (an (idx_ok e_PinType h23) (an h21 (an h21 (an h21 h21))))))))))) (by kernel_rfl)
          · have h19 := Option.some.inj h19
            subst h19
            exact Runs.path XTok PGmix [.d [([], []), ([], []), ([], []), ([], [.b false]), ([], [.b false]), ([], [.b false]), ([], [.b false]), ([], [.b false]), ([], [.b false]), ([], [.b false]), ([], [.b false]), ([], [.b false]), ([], [.b false]), ([], [.b false]), ([], [])]] [] (an h21 (an h21 (an h21 (an h21 (an h21 (an h21 (an h21 (an h21 (an h21 (an h21 h21)))))))))) (by kernel_rfl)
        rcases cnd_e h with ⟨h25, h⟩ | ⟨h25, h⟩
        · have h := Option.some.inj h
          subst h
          exact Runs.path XTok PGmix [.r [], .b true, .r [.el (e_PinType x7), .id 1], .r [.val (bA r9)], .b false, .r [.val (bA r12)], .b false, .r [.val (bA r15)], .b false, .s q24_f q24_g [] (.nor q24_f' q24_g'), .b true, .r []] [] (an (lt_true hi) (an (idx_ok e_PinType h8) (an (ref_IsWord_ok x7.Name r9 h10) (an h11 (an (ref_within_ok x7.Kind 1 7 r12 h13) (an h14 (an (ref_within_ok x7.Group 0 200 r15 h16) (an h17 (an R20 h25))))))))) (by kernel_rfl)
        · have h := Option.some.inj h
          subst h
          exact Runs.path XTok PGmix [.r [], .b true, .r [.el (e_PinType x7), .id 1], .r [.val (bA r9)], .b false, .r [.val (bA r12)], .b false, .r [.val (bA r15)], .b false, .s q24_f q24_g [] (.nor q24_f' q24_g'), .b false, .r [.eq 62 (iA ((i6 + 1 : Nat) : Int))]] [] (an (lt_true hi) (an (idx_ok e_PinType h8) (an (ref_IsWord_ok x7.Name r9 h10) (an h11 (an (ref_within_ok x7.Kind 1 7 r12 h13) (an h14 (an (ref_within_ok x7.Group 0 200 r15 h16) (an h17 (an R20 (an h25 (wrap_eq hi hM))))))))))) (by kernel_rfl)
theorem ref_checkType_b0_e (a0 : PartType) : Runs PG 99 0 ref_checkType_c0 (ref_checkType_F0 a0 (a0.Pins.length) ) (ref_checkType_H0 a0 (a0.Pins.length) ) (ref_checkType_B0 a0 ()) := by
  exact Runs.path XTok PGmix [.r [], .b false] [] (lt_false (a0.Pins.length)) (by kernel_rfl)
theorem ref_checkType_l0 (a0 : PartType) (r : Fin' Unit Int) (h : forN (fun i6 s => ref_checkType_b0 a0 i6 ) (a0.Pins.length) 0 () = some r) : Runs PG 99 0 (cL (cR (cL (cR (cR ref_checkType_c))))) (ref_checkType_F0 a0 0 ) (ref_checkType_H0 a0 0 ) (finOc (ref_checkType_B0 a0) ref_checkType_R r) :=
  Runs.loop' (by kernel_rfl) (forN_rounds (σ := Unit) (ρ := Int) (body := fun i6 s => ref_checkType_b0 a0 i6 ) (F := fun i6 s => ref_checkType_F0 a0 i6 ) (H := fun i6 s => ref_checkType_H0 a0 i6 ) (B := ref_checkType_B0 a0) (R := ref_checkType_R) (M := a0.Pins.length) (fun _ => rfl) (fun _ => rfl) (fun s => ref_checkType_b0_e a0 ) (fun i s o hi h => ref_checkType_b0_r a0 i o hi h) _ 0 _ r (Nat.zero_add _) h)
noncomputable def ref_checkType_c1 : Code := cL (cL (cR (cL (cR (cR (cR ref_checkType_c))))))
noncomputable def ref_checkType_c2 : Code := cL (cL (cR (cR (cL (cL (cR (cR ref_checkType_c1)))))))
noncomputable def ref_checkType_F2 (a0 : PartType) (i28 : Nat) (x29 : PinType) (i32 : Nat) : Fr := [(1, .t (.v (.ptr 0 0))), (6, .t (.v (.ptr 1 0))), (64, lA 3 (List.map e_PinType a0.Pins)), (65, iA (a0.Pins.length : Int)), (66, iA (i28 : Int)), (74, lA 3 (List.map e_PinType ((a0.Pins.take (Int.toNat (i28 : Int))).drop (Int.toNat 0)))), (75, iA (((a0.Pins.take (Int.toNat (i28 : Int))).drop (Int.toNat 0)).length : Int)), (76, iA (i32 : Int))]
noncomputable def ref_checkType_H2 (a0 : PartType) (i28 : Nat) (x29 : PinType) (i32 : Nat) : Hp := [(0, .cells 93 [.c (sC a0.Name), .c (.sl 3 (List.map e_PinType a0.Pins))]), (1, .cells 90 [.c (sC x29.Name), .c (iC x29.Kind), .c (iC x29.Group)])]
noncomputable def ref_checkType_B2 (a0 : PartType) (i28 : Nat) (x29 : PinType) (s : Unit) : Oc := .ex 6 [(1, .t (.v (.ptr 0 0))), (64, lA 3 (List.map e_PinType a0.Pins)), (65, iA (a0.Pins.length : Int)), (66, iA (i28 : Int))] [(0, .cells 93 [.c (sC a0.Name), .c (.sl 3 (List.map e_PinType a0.Pins))])]
noncomputable def ref_checkType_b2 (a0 : PartType) (i28 : Nat) (x29 : PinType) (i32 : Nat) : Option (Stp Unit Int) :=
 bnd (atI ((a0.Pins.take (Int.toNat (i28 : Int))).drop (Int.toNat 0)) (i32 : Int)) fun x33 =>
 bnd1 (cnd (decide (x29.Group > 0)) (cnd (x29.Group == x33.Group) (some (x29.Kind != x33.Kind)) (some false)) (some false)) fun v35 =>
 cnd v35 (some (.ret 12)) (some (.go ()))
theorem ref_checkType_b2_r (a0 : PartType) (i28 : Nat) (x29 : PinType) (i32 : Nat) (o : Stp Unit Int) (hi : i32 < ((a0.Pins.take (Int.toNat (i28 : Int))).drop (Int.toNat 0)).length) (h : ref_checkType_b2 a0 i28 x29 i32 = some o) :
    Runs PG 99 0 ref_checkType_c2 (ref_checkType_F2 a0 i28 x29 i32 ) (ref_checkType_H2 a0 i28 x29 i32 ) (stpOc (fun s' => .nor (ref_checkType_F2 a0 i28 x29 (i32 + 1) ) (ref_checkType_H2 a0 i28 x29 (i32 + 1) )) (ref_checkType_B2 a0 i28 x29) ref_checkType_R o) := by
  unfold ref_checkType_b2 at h
  refine Runs.len (s := 74) (sz := 3) (xs := List.map e_PinType ((a0.Pins.take (Int.toNat (i28 : Int))).drop (Int.toNat 0))) (by kernel_rfl) fun hl => ?_
  have hM : ((a0.Pins.take (Int.toNat (i28 : Int))).drop (Int.toNat 0)).length ≤ lim := len_of hl
  obtain ⟨x33, h34, h⟩ := bnd_e h
  obtain ⟨v35, h36, h⟩ := bnd1_e h
  let q40_f : Fr := [(1, .t (.v (.ptr 0 0))), (6, .t (.v (.ptr 1 0))), (8, .t (.v (.ptr 2 0))), (64, lA 3 (List.map e_PinType a0.Pins)), (65, iA (a0.Pins.length : Int)), (66, iA (i28 : Int)), (74, lA 3 (List.map e_PinType ((a0.Pins.take (Int.toNat (i28 : Int))).drop (Int.toNat 0)))), (75, iA (((a0.Pins.take (Int.toNat (i28 : Int))).drop (Int.toNat 0)).length : Int)), (76, iA (i32 : Int))]
  let q40_g : Hp := [(0, .cells 93 [.c (sC a0.Name), .c (.sl 3 (List.map e_PinType a0.Pins))]), (1, .cells 90 [.c (sC x29.Name), .c (iC x29.Kind), .c (iC x29.Group)]), (2, .cells 90 [.c (sC x33.Name), .c (iC x33.Kind), .c (iC x33.Group)])]
  let q40_f' : Fr := [(1, .t (.v (.ptr 0 0))), (6, .t (.v (.ptr 1 0))), (64, lA 3 (List.map e_PinType a0.Pins)), (65, iA (a0.Pins.length : Int)), (66, iA (i28 : Int)), (74, lA 3 (List.map e_PinType ((a0.Pins.take (Int.toNat (i28 : Int))).drop (Int.toNat 0)))), (75, iA (((a0.Pins.take (Int.toNat (i28 : Int))).drop (Int.toNat 0)).length : Int)), (76, iA (i32 : Int)), (96, bA v35)]
  let q40_g' : Hp := [(0, .cells 93 [.c (sC a0.Name), .c (.sl 3 (List.map e_PinType a0.Pins))]), (1, .cells 90 [.c (sC x29.Name), .c (iC x29.Kind), .c (iC x29.Group)])]
  have R37 : Runs PG 99 0 (cL (cR (cL (cL (cR (cR ref_checkType_c2)))))) q40_f q40_g (.nor q40_f' q40_g') := by
    rcases cnd_e h36 with ⟨h38, h36⟩ | ⟨h38, h36⟩
    · rcases cnd_e h36 with ⟨h39, h36⟩ | ⟨h39, h36⟩
      · have h36 := Option.some.inj h36
        subst h36
        exact Runs.path XTok PGmix [.r [.b true, .b true, .b true, .b true, .b true, .b true, .b true, .b true, .b true, .b true, .b true, .b true]] [] (an h38 (an h38 (an h38 (an h38 (an h38 (an h38 (an h39 (an h39 (an h39 (an h39 (an h39 h39))))))))))) (by kernel_rfl)
      · have h36 := Option.some.inj h36
        subst h36
        exact Runs.path XTok PGmix [.r [.b true, .b true, .b true, .b true, .b true, .b true, .b false, .b false, .b false, .b false, .b false, .b false]] [] (an h38 (an h38 (an h38 (an h38 (an h38 (an h38 (an h39 (an h39 (an h39 (an h39 (an h39 h39))))))))))) (by kernel_rfl)
    · have h36 := Option.some.inj h36
      subst h36
      exact Runs.path XTok PGmix [.r [.b false, .b false, .b false, .b false, .b false, .b false, .b false, .b false, .b false, .b false, .b false, .b false]] [] (an h38 (an h38 (an h38 (an h38 (an h38 (an h38 (an (Eq.refl false) (an (Eq.refl false) (an (Eq.refl false) (an (Eq.refl false) (an (Eq.refl false) (Eq.refl false)))))))))))) (by kernel_rfl)
  rcases cnd_e h with ⟨h41, h⟩ | ⟨h41, h⟩
  · have h := Option.some.inj h
    subst h
    exact Runs.path XTok PGmix [.r [], .b true, .r [.el (e_PinType x33), .id 2], .s q40_f q40_g [] (.nor q40_f' q40_g'), .b true, .r []] [] (an (lt_true hi) (an (idx_ok e_PinType h34) (an R37 h41))) (by kernel_rfl)
  · have h := Option.some.inj h
    subst h
    exact Runs.path XTok PGmix [.r [], .b true, .r [.el (e_PinType x33), .id 2], .s q40_f q40_g [] (.nor q40_f' q40_g'), .b false, .r [.eq 97 (iA ((i32 + 1 : Nat) : Int))]] [] (an (lt_true hi) (an (idx_ok e_PinType h34) (an R37 (an h41 (wrap_eq hi hM))))) (by kernel_rfl)
theorem ref_checkType_b2_e (a0 : PartType) (i28 : Nat) (x29 : PinType) : Runs PG 99 0 ref_checkType_c2 (ref_checkType_F2 a0 i28 x29 (((a0.Pins.take (Int.toNat (i28 : Int))).drop (Int.toNat 0)).length) ) (ref_checkType_H2 a0 i28 x29 (((a0.Pins.take (Int.toNat (i28 : Int))).drop (Int.toNat 0)).length) ) (ref_checkType_B2 a0 i28 x29 ()) := by
  exact Runs.path XTok PGmix [.r [], .b false] [] (lt_false (((a0.Pins.take (Int.toNat (i28 : Int))).drop (Int.toNat 0)).length)) (by kernel_rfl)
theorem ref_checkType_l2 (a0 : PartType) (i28 : Nat) (x29 : PinType) (r : Fin' Unit Int) (h : forN (fun i32 s => ref_checkType_b2 a0 i28 x29 i32 ) (((a0.Pins.take (Int.toNat (i28 : Int))).drop (Int.toNat 0)).length) 0 () = some r) : Runs PG 99 0 (cL (cR (cR (cL (cL (cR (cR ref_checkType_c1))))))) (ref_checkType_F2 a0 i28 x29 0 ) (ref_checkType_H2 a0 i28 x29 0 ) (finOc (ref_checkType_B2 a0 i28 x29) ref_checkType_R r) :=
  Runs.loop' (by kernel_rfl) (forN_rounds (σ := Unit) (ρ := Int) (body := fun i32 s => ref_checkType_b2 a0 i28 x29 i32 ) (F := fun i32 s => ref_checkType_F2 a0 i28 x29 i32 ) (H := fun i32 s => ref_checkType_H2 a0 i28 x29 i32 ) (B := ref_checkType_B2 a0 i28 x29) (R := ref_checkType_R) (M := ((a0.Pins.take (Int.toNat (i28 : Int))).drop (Int.toNat 0)).length) (fun _ => rfl) (fun _ => rfl) (fun s => ref_checkType_b2_e a0 i28 x29 ) (fun i s o hi h => ref_checkType_b2_r a0 i28 x29 i o hi h) _ 0 _ r (Nat.zero_add _) h)
noncomputable def ref_checkType_F1 (a0 : PartType) (i28 : Nat) : Fr := [(1, .t (.v (.ptr 0 0))), (64, lA 3 (List.map e_PinType a0.Pins)), (65, iA (a0.Pins.length : Int)), (66, iA (i28 : Int))]
noncomputable def ref_checkType_H1 (a0 : PartType) (i28 : Nat) : Hp := [(0, .cells 93 [.c (sC a0.Name), .c (.sl 3 (List.map e_PinType a0.Pins))])]
noncomputable def ref_checkType_B1 (a0 : PartType) (s : Unit) : Oc := .ex 4 [] []
noncomputable def ref_checkType_b1 (a0 : PartType) (i28 : Nat) : Option (Stp Unit Int) :=
 bnd (atI a0.Pins (i28 : Int)) fun x29 =>
 grd ((0 : Int) ≤ 0 ∧ 0 ≤ (i28 : Int) ∧ (i28 : Int) ≤ (a0.Pins.length : Int)) <|
 aft0 (forN (fun i32 s => ref_checkType_b2 a0 i28 x29 i32 ) (((a0.Pins.take (Int.toNat (i28 : Int))).drop (Int.toNat 0)).length) 0 ()) (
 some (.go ()))
 (fun r43 =>
 some (.ret r43))
theorem ref_checkType_b1_r (a0 : PartType) (i28 : Nat) (o : Stp Unit Int) (hi : i28 < a0.Pins.length) (h : ref_checkType_b1 a0 i28 = some o) :
    Runs PG 99 0 ref_checkType_c1 (ref_checkType_F1 a0 i28 ) (ref_checkType_H1 a0 i28 ) (stpOc (fun s' => .nor (ref_checkType_F1 a0 (i28 + 1) ) (ref_checkType_H1 a0 (i28 + 1) )) (ref_checkType_B1 a0) ref_checkType_R o) := by
  unfold ref_checkType_b1 at h
  refine Runs.len (s := 64) (sz := 3) (xs := List.map e_PinType a0.Pins) (by kernel_rfl) fun hl => ?_
  have hM : a0.Pins.length ≤ lim := len_of hl
  obtain ⟨x29, h30, h⟩ := bnd_e h
  obtain ⟨h31, h⟩ := grd_e h
  rcases aft0_e h with ⟨h42, h⟩ | ⟨r43, h42, h⟩
  · have h := Option.some.inj h
    subst h
    exact Runs.path XTok PGmix [.r [], .b true, .r [.el (e_PinType x29), .id 1], .r [.eq 74 (lA 3 (List.map e_PinType ((a0.Pins.take (Int.toNat (i28 : Int))).drop (Int.toNat 0)))), .eq 75 (iA (((a0.Pins.take (Int.toNat (i28 : Int))).drop (Int.toNat 0)).length : Int))], .s (ref_checkType_F2 a0 i28 x29 0 ) (ref_checkType_H2 a0 i28 x29 0 ) [] (ref_checkType_B2 a0 i28 x29 ()), .r [.eq 98 (iA ((i28 + 1 : Nat) : Int))]] [] (an (lt_true hi) (an (idx_ok e_PinType h30) (an (cut_lh e_PinType h31) (an (cut_eq 3 e_PinType a0.Pins (Int.toNat (i28 : Int)) (Int.toNat 0)) (an (leni_eq e_PinType ((a0.Pins.take (Int.toNat (i28 : Int))).drop (Int.toNat 0))) (an (ref_checkType_l2 a0 i28 x29 (.fin ()) h42) (wrap_eq hi hM))))))) (by kernel_rfl)
  · have h := Option.some.inj h
    subst h
    exact Runs.path XTok PGmix [.r [], .b true, .r [.el (e_PinType x29), .id 1], .r [.eq 74 (lA 3 (List.map e_PinType ((a0.Pins.take (Int.toNat (i28 : Int))).drop (Int.toNat 0)))), .eq 75 (iA (((a0.Pins.take (Int.toNat (i28 : Int))).drop (Int.toNat 0)).length : Int))], .s (ref_checkType_F2 a0 i28 x29 0 ) (ref_checkType_H2 a0 i28 x29 0 ) [] (ref_checkType_R r43)] [] (an (lt_true hi) (an (idx_ok e_PinType h30) (an (cut_lh e_PinType h31) (an (cut_eq 3 e_PinType a0.Pins (Int.toNat (i28 : Int)) (Int.toNat 0)) (an (leni_eq e_PinType ((a0.Pins.take (Int.toNat (i28 : Int))).drop (Int.toNat 0))) (ref_checkType_l2 a0 i28 x29 (.ret r43) h42)))))) (by kernel_rfl)
theorem ref_checkType_b1_e (a0 : PartType) : Runs PG 99 0 ref_checkType_c1 (ref_checkType_F1 a0 (a0.Pins.length) ) (ref_checkType_H1 a0 (a0.Pins.length) ) (ref_checkType_B1 a0 ()) := by
  exact Runs.path XTok PGmix [.r [], .b false] [] (lt_false (a0.Pins.length)) (by kernel_rfl)
theorem ref_checkType_l1 (a0 : PartType) (r : Fin' Unit Int) (h : forN (fun i28 s => ref_checkType_b1 a0 i28 ) (a0.Pins.length) 0 () = some r) : Runs PG 99 0 (cL (cR (cL (cR (cR (cR ref_checkType_c)))))) (ref_checkType_F1 a0 0 ) (ref_checkType_H1 a0 0 ) (finOc (ref_checkType_B1 a0) ref_checkType_R r) :=
  Runs.loop' (by kernel_rfl) (forN_rounds (σ := Unit) (ρ := Int) (body := fun i28 s => ref_checkType_b1 a0 i28 ) (F := fun i28 s => ref_checkType_F1 a0 i28 ) (H := fun i28 s => ref_checkType_H1 a0 i28 ) (B := ref_checkType_B1 a0) (R := ref_checkType_R) (M := a0.Pins.length) (fun _ => rfl) (fun _ => rfl) (fun s => ref_checkType_b1_e a0 ) (fun i s o hi h => ref_checkType_b1_r a0 i o hi h) _ 0 _ r (Nat.zero_add _) h)
noncomputable def ref_checkType (a0 : PartType) : Option Int :=
 bnd (ref_IsWord a0.Name) fun r1 =>
 cnd (!r1) (some 5) (cnd ((a0.Pins.length : Int) == 0) (some 9) (cnd (decide ((a0.Pins.length : Int) > 200)) (some 2) (aft0 (forN (fun i6 s => ref_checkType_b0 a0 i6 ) (a0.Pins.length) 0 ()) (
 aft0 (forN (fun i28 s => ref_checkType_b1 a0 i28 ) (a0.Pins.length) 0 ()) (
 some 0)
 (fun r45 =>
 some r45))
 (fun r27 =>
 some r27))))
theorem ref_checkType_ok (a0 : PartType) (r : Int) (h : ref_checkType a0 = some r) : Spec PG 114 [gT (e_PartType a0)] [] (iA r) [] := by
  unfold ref_checkType at h
  obtain ⟨r1, h2, h⟩ := bnd_e h
  rcases cnd_e h with ⟨h3, h⟩ | ⟨h3, h⟩
  · have h := Option.some.inj h
    subst h
    exact Spec.path XTok PGmix ref_checkType_fn 0 [.r [.id 0], .r [.val (bA r1)], .b true, .r []] (an (ref_IsWord_ok a0.Name r1 h2) h3) (by kernel_rfl)
  · rcases cnd_e h with ⟨h4, h⟩ | ⟨h4, h⟩
    · have h := Option.some.inj h
      subst h
      exact Spec.path XTok PGmix ref_checkType_fn 0 [.r [.id 0], .r [.val (bA r1)], .b false, .r [.eq 17 (iA (a0.Pins.length : Int))], .b true, .r []] (an (ref_IsWord_ok a0.Name r1 h2) (an h3 (an (leni_eq e_PinType a0.Pins) h4))) (by kernel_rfl)
    · rcases cnd_e h with ⟨h5, h⟩ | ⟨h5, h⟩
      · have h := Option.some.inj h
        subst h
        exact Spec.path XTok PGmix ref_checkType_fn 0 [.r [.id 0], .r [.val (bA r1)], .b false, .r [.eq 17 (iA (a0.Pins.length : Int))], .b false, .r [.eq 22 (iA (a0.Pins.length : Int))], .b true, .r []] (an (ref_IsWord_ok a0.Name r1 h2) (an h3 (an (leni_eq e_PinType a0.Pins) (an h4 (an (leni_eq e_PinType a0.Pins) h5))))) (by kernel_rfl)
      · rcases aft0_e h with ⟨h26, h⟩ | ⟨r27, h26, h⟩
        · rcases aft0_e h with ⟨h44, h⟩ | ⟨r45, h44, h⟩
          · have h := Option.some.inj h
            subst h
            exact Spec.path XTok PGmix ref_checkType_fn 0 [.r [.id 0], .r [.val (bA r1)], .b false, .r [.eq 17 (iA (a0.Pins.length : Int))], .b false, .r [.eq 22 (iA (a0.Pins.length : Int))], .b false, .r [.eq 26 (iA (a0.Pins.length : Int))], .s (ref_checkType_F0 a0 0 ) (ref_checkType_H0 a0 0 ) [] (ref_checkType_B0 a0 ()), .r [.eq 65 (iA (a0.Pins.length : Int))], .s (ref_checkType_F1 a0 0 ) (ref_checkType_H1 a0 0 ) [] (ref_checkType_B1 a0 ()), .r []] (an (ref_IsWord_ok a0.Name r1 h2) (an h3 (an (leni_eq e_PinType a0.Pins) (an h4 (an (leni_eq e_PinType a0.Pins) (an h5 (an (leni_eq e_PinType a0.Pins) (an (ref_checkType_l0 a0 (.fin ()) h26) (an (leni_eq e_PinType a0.Pins) (ref_checkType_l1 a0 (.fin ()) h44)))))))))) (by kernel_rfl)
          · have h := Option.some.inj h
            subst h
            exact Spec.path XTok PGmix ref_checkType_fn 0 [.r [.id 0], .r [.val (bA r1)], .b false, .r [.eq 17 (iA (a0.Pins.length : Int))], .b false, .r [.eq 22 (iA (a0.Pins.length : Int))], .b false, .r [.eq 26 (iA (a0.Pins.length : Int))], .s (ref_checkType_F0 a0 0 ) (ref_checkType_H0 a0 0 ) [] (ref_checkType_B0 a0 ()), .r [.eq 65 (iA (a0.Pins.length : Int))], .s (ref_checkType_F1 a0 0 ) (ref_checkType_H1 a0 0 ) [] (ref_checkType_R r45)] (an (ref_IsWord_ok a0.Name r1 h2) (an h3 (an (leni_eq e_PinType a0.Pins) (an h4 (an (leni_eq e_PinType a0.Pins) (an h5 (an (leni_eq e_PinType a0.Pins) (an (ref_checkType_l0 a0 (.fin ()) h26) (an (leni_eq e_PinType a0.Pins) (ref_checkType_l1 a0 (.ret r45) h44)))))))))) (by kernel_rfl)
        · have h := Option.some.inj h
          subst h
          exact Spec.path XTok PGmix ref_checkType_fn 0 [.r [.id 0], .r [.val (bA r1)], .b false, .r [.eq 17 (iA (a0.Pins.length : Int))], .b false, .r [.eq 22 (iA (a0.Pins.length : Int))], .b false, .r [.eq 26 (iA (a0.Pins.length : Int))], .s (ref_checkType_F0 a0 0 ) (ref_checkType_H0 a0 0 ) [] (ref_checkType_R r27)] (an (ref_IsWord_ok a0.Name r1 h2) (an h3 (an (leni_eq e_PinType a0.Pins) (an h4 (an (leni_eq e_PinType a0.Pins) (an h5 (an (leni_eq e_PinType a0.Pins) (ref_checkType_l0 a0 (.ret r27) h26)))))))) (by kernel_rfl)

noncomputable def ref_CheckTypes_c : Code := (Go.Proofs.Tryd.f52.body).getD .skip
theorem ref_CheckTypes_fn : FnOk PG 52 ref_CheckTypes_c 35 [.tmp 2] := ⟨⟨Go.Proofs.Tryd.f52, by kernel_rfl, by kernel_rfl, by kernel_rfl, by kernel_rfl, by kernel_rfl⟩⟩
noncomputable def ref_CheckTypes_c0 : Code := cL (cL (cR (cL (cR (cR ref_CheckTypes_c)))))
noncomputable def ref_CheckTypes_R (r : Int) : Oc := .ret [(2, iA r)] []
noncomputable def ref_CheckTypes_F0 (a0 : List PartType) (i2 : Nat) : Fr := [(0, lA 2 (List.map e_PartType a0)), (9, lA 2 (List.map e_PartType a0)), (10, iA (a0.length : Int)), (11, iA (i2 : Int))]
noncomputable def ref_CheckTypes_H0 (a0 : List PartType) (i2 : Nat) : Hp := []
noncomputable def ref_CheckTypes_B0 (a0 : List PartType) (s : Unit) : Oc := .ex 0 [] []
noncomputable def ref_CheckTypes_b0 (a0 : List PartType) (i2 : Nat) : Option (Stp Unit Int) :=
 bnd (atI a0 (i2 : Int)) fun x3 =>
 bnd (ref_checkType x3) fun r5 =>
 cnd (r5 != 0) (some (.ret r5)) (bnd1 (cnd (decide ((i2 : Int) > 0)) (bnd (atI a0 (w64 ((i2 : Int) - 1))) fun x12 =>
 some (sLe x3.Name x12.Name)) (some false)) fun v8 =>
 cnd v8 (some (.ret 8)) (some (.go ())))
theorem ref_CheckTypes_b0_r (a0 : List PartType) (i2 : Nat) (o : Stp Unit Int) (hi : i2 < a0.length) (h : ref_CheckTypes_b0 a0 i2 = some o) :
    Runs PG 35 0 ref_CheckTypes_c0 (ref_CheckTypes_F0 a0 i2 ) (ref_CheckTypes_H0 a0 i2 ) (stpOc (fun s' => .nor (ref_CheckTypes_F0 a0 (i2 + 1) ) (ref_CheckTypes_H0 a0 (i2 + 1) )) (ref_CheckTypes_B0 a0) ref_CheckTypes_R o) := by
  unfold ref_CheckTypes_b0 at h
  refine Runs.len (s := 9) (sz := 2) (xs := List.map e_PartType a0) (by kernel_rfl) fun hl => ?_
  have hM : a0.length ≤ lim := len_of hl
  obtain ⟨x3, h4, h⟩ := bnd_e h
  obtain ⟨r5, h6, h⟩ := bnd_e h
  rcases cnd_e h with ⟨h7, h⟩ | ⟨h7, h⟩
  · have h := Option.some.inj h
    subst h
    exact Runs.path XTok PGmix [.r [], .b true, .r [.el (e_PartType x3), .id 0], .r [.val (iA r5)], .r [], .b true, .r []] [] (an (lt_true hi) (an (idx_ok e_PartType h4) (an (ref_checkType_ok x3 r5 h6) h7))) (by kernel_rfl)
  · obtain ⟨v8, h9, h⟩ := bnd1_e h
    let q14_f : Fr := [(0, lA 2 (List.map e_PartType a0)), (3, iA (i2 : Int)), (4, .t (.v (.ptr 0 0))), (9, lA 2 (List.map e_PartType a0)), (10, iA (a0.length : Int)), (11, iA (i2 : Int))]
    let q14_g : Hp := [(0, .cells 93 [.c (sC x3.Name), .c (.sl 3 (List.map e_PinType x3.Pins))])]
    let q14_f' : Fr := [(0, lA 2 (List.map e_PartType a0)), (9, lA 2 (List.map e_PartType a0)), (10, iA (a0.length : Int)), (11, iA (i2 : Int)), (33, bA v8)]
    let q14_g' : Hp := []
    have R10 : Runs PG 35 0 (cL (cR (cR (cL (cL (cR (cR ref_CheckTypes_c0))))))) q14_f q14_g (.nor q14_f' q14_g') := by
      rcases cnd_e h9 with ⟨h11, h9⟩ | ⟨h11, h9⟩
      · obtain ⟨x12, h13, h9⟩ := bnd_e h9
        have h9 := Option.some.inj h9
        subst h9
        exact Runs.path XTok PGmix [.d [([], []), ([], []), ([], []), ([], [.b true]), ([0], [.b true]), ([], [.b true]), ([], [.b true]), ([], [.b true]), ([], [.b true, .el (e_PartType x12)]), ([], [.b true]), ([], [.b true]), ([], [.b true]), ([], [.b true])]] [] (an h11 (an h11 (an h11 (an h11 (an h11 (an h11 (an (idx_ok e_PartType h13) (an h11 (an h11 (an h11 h11)))))))))) (by kernel_rfl)
      · have h9 := Option.some.inj h9
        subst h9
        exact Runs.path XTok PGmix [.d [([], []), ([], []), ([], []), ([], [.b false]), ([], [.b false]), ([], [.b false]), ([], [.b false]), ([], [.b false]), ([], [.b false]), ([], [.b false]), ([], [.b false]), ([], [.b false]), ([], [.b false])]] [] (an h11 (an h11 (an h11 (an h11 (an h11 (an h11 (an h11 (an h11 (an h11 h11))))))))) (by kernel_rfl)
    rcases cnd_e h with ⟨h15, h⟩ | ⟨h15, h⟩
    · have h := Option.some.inj h
      subst h
      exact Runs.path XTok PGmix [.r [], .b true, .r [.el (e_PartType x3), .id 0], .r [.val (iA r5)], .r [], .b false, .s q14_f q14_g [] (.nor q14_f' q14_g'), .b true, .r []] [] (an (lt_true hi) (an (idx_ok e_PartType h4) (an (ref_checkType_ok x3 r5 h6) (an h7 (an R10 h15))))) (by kernel_rfl)
    · have h := Option.some.inj h
      subst h
      exact Runs.path XTok PGmix [.r [], .b true, .r [.el (e_PartType x3), .id 0], .r [.val (iA r5)], .r [], .b false, .s q14_f q14_g [] (.nor q14_f' q14_g'), .b false, .r [.eq 34 (iA ((i2 + 1 : Nat) : Int))]] [] (an (lt_true hi) (an (idx_ok e_PartType h4) (an (ref_checkType_ok x3 r5 h6) (an h7 (an R10 (an h15 (wrap_eq hi hM))))))) (by kernel_rfl)
theorem ref_CheckTypes_b0_e (a0 : List PartType) : Runs PG 35 0 ref_CheckTypes_c0 (ref_CheckTypes_F0 a0 (a0.length) ) (ref_CheckTypes_H0 a0 (a0.length) ) (ref_CheckTypes_B0 a0 ()) := by
  exact Runs.path XTok PGmix [.r [], .b false] [] (lt_false (a0.length)) (by kernel_rfl)
theorem ref_CheckTypes_l0 (a0 : List PartType) (r : Fin' Unit Int) (h : forN (fun i2 s => ref_CheckTypes_b0 a0 i2 ) (a0.length) 0 () = some r) : Runs PG 35 0 (cL (cR (cL (cR (cR ref_CheckTypes_c))))) (ref_CheckTypes_F0 a0 0 ) (ref_CheckTypes_H0 a0 0 ) (finOc (ref_CheckTypes_B0 a0) ref_CheckTypes_R r) :=
  Runs.loop' (by kernel_rfl) (forN_rounds (σ := Unit) (ρ := Int) (body := fun i2 s => ref_CheckTypes_b0 a0 i2 ) (F := fun i2 s => ref_CheckTypes_F0 a0 i2 ) (H := fun i2 s => ref_CheckTypes_H0 a0 i2 ) (B := ref_CheckTypes_B0 a0) (R := ref_CheckTypes_R) (M := a0.length) (fun _ => rfl) (fun _ => rfl) (fun s => ref_CheckTypes_b0_e a0 ) (fun i s o hi h => ref_CheckTypes_b0_r a0 i o hi h) _ 0 _ r (Nat.zero_add _) h)
noncomputable def ref_CheckTypes (a0 : List PartType) : Option Int :=
 cnd (decide ((a0.length : Int) > 200)) (some 2) (aft0 (forN (fun i2 s => ref_CheckTypes_b0 a0 i2 ) (a0.length) 0 ()) (
 some 0)
 (fun r17 =>
 some r17))
theorem ref_CheckTypes_ok (a0 : List PartType) (r : Int) (h : ref_CheckTypes a0 = some r) : Spec PG 52 [lT 2 (List.map e_PartType a0)] [] (iA r) [] := by
  unfold ref_CheckTypes at h
  rcases cnd_e h with ⟨h1, h⟩ | ⟨h1, h⟩
  · have h := Option.some.inj h
    subst h
    exact Spec.path XTok PGmix ref_CheckTypes_fn 0 [.r [], .r [.eq 7 (iA (a0.length : Int))], .b true, .r []] (an (leni_eq e_PartType a0) h1) (by kernel_rfl)
  · rcases aft0_e h with ⟨h16, h⟩ | ⟨r17, h16, h⟩
    · have h := Option.some.inj h
      subst h
      exact Spec.path XTok PGmix ref_CheckTypes_fn 0 [.r [], .r [.eq 7 (iA (a0.length : Int))], .b false, .r [.eq 10 (iA (a0.length : Int))], .s (ref_CheckTypes_F0 a0 0 ) (ref_CheckTypes_H0 a0 0 ) [] (ref_CheckTypes_B0 a0 ()), .r []] (an (leni_eq e_PartType a0) (an h1 (an (leni_eq e_PartType a0) (ref_CheckTypes_l0 a0 (.fin ()) h16)))) (by kernel_rfl)
    · have h := Option.some.inj h
      subst h
      exact Spec.path XTok PGmix ref_CheckTypes_fn 0 [.r [], .r [.eq 7 (iA (a0.length : Int))], .b false, .r [.eq 10 (iA (a0.length : Int))], .s (ref_CheckTypes_F0 a0 0 ) (ref_CheckTypes_H0 a0 0 ) [] (ref_CheckTypes_R r17)] (an (leni_eq e_PartType a0) (an h1 (an (leni_eq e_PartType a0) (ref_CheckTypes_l0 a0 (.ret r17) h16)))) (by kernel_rfl)

noncomputable def ref_partOf_c : Code := (Go.Proofs.Tryd.f75.body).getD .skip
theorem ref_partOf_fn : FnOk PG 75 ref_partOf_c 20 [.tmp 4] := ⟨⟨Go.Proofs.Tryd.f75, by kernel_rfl, by kernel_rfl, by kernel_rfl, by kernel_rfl, by kernel_rfl⟩⟩
noncomputable def ref_partOf_c0 : Code := cL (cL (cR (cL (cR ref_partOf_c))))
noncomputable def ref_partOf_R (r : Int) : Oc := .ret [(4, iA r)] []
noncomputable def ref_partOf_F0 (a0 : List Part) (a1 : ByteArray) (i1 : Nat) : Fr := [(1, sA a1), (7, lA 2 (List.map e_Part a0)), (8, iA (a0.length : Int)), (9, iA (i1 : Int))]
noncomputable def ref_partOf_H0 (a0 : List Part) (a1 : ByteArray) (i1 : Nat) : Hp := []
noncomputable def ref_partOf_B0 (a0 : List Part) (a1 : ByteArray) (s : Unit) : Oc := .ex 0 [] []
noncomputable def ref_partOf_b0 (a0 : List Part) (a1 : ByteArray) (i1 : Nat) : Option (Stp Unit Int) :=
 bnd (atI a0 (i1 : Int)) fun x2 =>
 cnd (sEq x2.Name a1) (some (.ret (i1 : Int))) (some (.go ()))
theorem ref_partOf_b0_r (a0 : List Part) (a1 : ByteArray) (i1 : Nat) (o : Stp Unit Int) (hi : i1 < a0.length) (h : ref_partOf_b0 a0 a1 i1 = some o) :
    Runs PG 20 0 ref_partOf_c0 (ref_partOf_F0 a0 a1 i1 ) (ref_partOf_H0 a0 a1 i1 ) (stpOc (fun s' => .nor (ref_partOf_F0 a0 a1 (i1 + 1) ) (ref_partOf_H0 a0 a1 (i1 + 1) )) (ref_partOf_B0 a0 a1) ref_partOf_R o) := by
  unfold ref_partOf_b0 at h
  refine Runs.len (s := 7) (sz := 2) (xs := List.map e_Part a0) (by kernel_rfl) fun hl => ?_
  have hM : a0.length ≤ lim := len_of hl
  obtain ⟨x2, h3, h⟩ := bnd_e h
  rcases cnd_e h with ⟨h4, h⟩ | ⟨h4, h⟩
  · have h := Option.some.inj h
    subst h
    exact Runs.path XTok PGmix [.r [], .b true, .r [.el (e_Part x2), .id 0], .r [], .b true, .r []] [] (an (lt_true hi) (an (idx_ok e_Part h3) h4)) (by kernel_rfl)
  · have h := Option.some.inj h
    subst h
    exact Runs.path XTok PGmix [.r [], .b true, .r [.el (e_Part x2), .id 0], .r [], .b false, .r [.eq 19 (iA ((i1 + 1 : Nat) : Int))]] [] (an (lt_true hi) (an (idx_ok e_Part h3) (an h4 (wrap_eq hi hM)))) (by kernel_rfl)
theorem ref_partOf_b0_e (a0 : List Part) (a1 : ByteArray) : Runs PG 20 0 ref_partOf_c0 (ref_partOf_F0 a0 a1 (a0.length) ) (ref_partOf_H0 a0 a1 (a0.length) ) (ref_partOf_B0 a0 a1 ()) := by
  exact Runs.path XTok PGmix [.r [], .b false] [] (lt_false (a0.length)) (by kernel_rfl)
theorem ref_partOf_l0 (a0 : List Part) (a1 : ByteArray) (r : Fin' Unit Int) (h : forN (fun i1 s => ref_partOf_b0 a0 a1 i1 ) (a0.length) 0 () = some r) : Runs PG 20 0 (cL (cR (cL (cR ref_partOf_c)))) (ref_partOf_F0 a0 a1 0 ) (ref_partOf_H0 a0 a1 0 ) (finOc (ref_partOf_B0 a0 a1) ref_partOf_R r) :=
  Runs.loop' (by kernel_rfl) (forN_rounds (σ := Unit) (ρ := Int) (body := fun i1 s => ref_partOf_b0 a0 a1 i1 ) (F := fun i1 s => ref_partOf_F0 a0 a1 i1 ) (H := fun i1 s => ref_partOf_H0 a0 a1 i1 ) (B := ref_partOf_B0 a0 a1) (R := ref_partOf_R) (M := a0.length) (fun _ => rfl) (fun _ => rfl) (fun s => ref_partOf_b0_e a0 a1 ) (fun i s o hi h => ref_partOf_b0_r a0 a1 i o hi h) _ 0 _ r (Nat.zero_add _) h)
noncomputable def ref_partOf (a0 : List Part) (a1 : ByteArray) : Option Int :=
 aft0 (forN (fun i1 s => ref_partOf_b0 a0 a1 i1 ) (a0.length) 0 ()) (
 some (-1))
 (fun r6 =>
 some r6)
theorem ref_partOf_ok (a0 : List Part) (a1 : ByteArray) (r : Int) (h : ref_partOf a0 a1 = some r) : Spec PG 75 [lT 2 (List.map e_Part a0), sT a1] [] (iA r) [] := by
  unfold ref_partOf at h
  rcases aft0_e h with ⟨h5, h⟩ | ⟨r6, h5, h⟩
  · have h := Option.some.inj h
    subst h
    exact Spec.path XTok PGmix ref_partOf_fn 0 [.r [], .r [.eq 8 (iA (a0.length : Int))], .s (ref_partOf_F0 a0 a1 0 ) (ref_partOf_H0 a0 a1 0 ) [] (ref_partOf_B0 a0 a1 ()), .r []] (an (leni_eq e_Part a0) (ref_partOf_l0 a0 a1 (.fin ()) h5)) (by kernel_rfl)
  · have h := Option.some.inj h
    subst h
    exact Spec.path XTok PGmix ref_partOf_fn 0 [.r [], .r [.eq 8 (iA (a0.length : Int))], .s (ref_partOf_F0 a0 a1 0 ) (ref_partOf_H0 a0 a1 0 ) [] (ref_partOf_R r6)] (an (leni_eq e_Part a0) (ref_partOf_l0 a0 a1 (.ret r6) h5)) (by kernel_rfl)

noncomputable def ref_typeOf_c : Code := (Go.Proofs.Tryd.f76.body).getD .skip
theorem ref_typeOf_fn : FnOk PG 76 ref_typeOf_c 20 [.tmp 4] := ⟨⟨Go.Proofs.Tryd.f76, by kernel_rfl, by kernel_rfl, by kernel_rfl, by kernel_rfl, by kernel_rfl⟩⟩
noncomputable def ref_typeOf_c0 : Code := cL (cL (cR (cL (cR ref_typeOf_c))))
noncomputable def ref_typeOf_R (r : Int) : Oc := .ret [(4, iA r)] []
noncomputable def ref_typeOf_F0 (a0 : List PartType) (a1 : ByteArray) (i1 : Nat) : Fr := [(1, sA a1), (7, lA 2 (List.map e_PartType a0)), (8, iA (a0.length : Int)), (9, iA (i1 : Int))]
noncomputable def ref_typeOf_H0 (a0 : List PartType) (a1 : ByteArray) (i1 : Nat) : Hp := []
noncomputable def ref_typeOf_B0 (a0 : List PartType) (a1 : ByteArray) (s : Unit) : Oc := .ex 0 [] []
noncomputable def ref_typeOf_b0 (a0 : List PartType) (a1 : ByteArray) (i1 : Nat) : Option (Stp Unit Int) :=
 bnd (atI a0 (i1 : Int)) fun x2 =>
 cnd (sEq x2.Name a1) (some (.ret (i1 : Int))) (some (.go ()))
theorem ref_typeOf_b0_r (a0 : List PartType) (a1 : ByteArray) (i1 : Nat) (o : Stp Unit Int) (hi : i1 < a0.length) (h : ref_typeOf_b0 a0 a1 i1 = some o) :
    Runs PG 20 0 ref_typeOf_c0 (ref_typeOf_F0 a0 a1 i1 ) (ref_typeOf_H0 a0 a1 i1 ) (stpOc (fun s' => .nor (ref_typeOf_F0 a0 a1 (i1 + 1) ) (ref_typeOf_H0 a0 a1 (i1 + 1) )) (ref_typeOf_B0 a0 a1) ref_typeOf_R o) := by
  unfold ref_typeOf_b0 at h
  refine Runs.len (s := 7) (sz := 2) (xs := List.map e_PartType a0) (by kernel_rfl) fun hl => ?_
  have hM : a0.length ≤ lim := len_of hl
  obtain ⟨x2, h3, h⟩ := bnd_e h
  rcases cnd_e h with ⟨h4, h⟩ | ⟨h4, h⟩
  · have h := Option.some.inj h
    subst h
    exact Runs.path XTok PGmix [.r [], .b true, .r [.el (e_PartType x2), .id 0], .r [], .b true, .r []] [] (an (lt_true hi) (an (idx_ok e_PartType h3) h4)) (by kernel_rfl)
  · have h := Option.some.inj h
    subst h
    exact Runs.path XTok PGmix [.r [], .b true, .r [.el (e_PartType x2), .id 0], .r [], .b false, .r [.eq 19 (iA ((i1 + 1 : Nat) : Int))]] [] (an (lt_true hi) (an (idx_ok e_PartType h3) (an h4 (wrap_eq hi hM)))) (by kernel_rfl)
theorem ref_typeOf_b0_e (a0 : List PartType) (a1 : ByteArray) : Runs PG 20 0 ref_typeOf_c0 (ref_typeOf_F0 a0 a1 (a0.length) ) (ref_typeOf_H0 a0 a1 (a0.length) ) (ref_typeOf_B0 a0 a1 ()) := by
  exact Runs.path XTok PGmix [.r [], .b false] [] (lt_false (a0.length)) (by kernel_rfl)
theorem ref_typeOf_l0 (a0 : List PartType) (a1 : ByteArray) (r : Fin' Unit Int) (h : forN (fun i1 s => ref_typeOf_b0 a0 a1 i1 ) (a0.length) 0 () = some r) : Runs PG 20 0 (cL (cR (cL (cR ref_typeOf_c)))) (ref_typeOf_F0 a0 a1 0 ) (ref_typeOf_H0 a0 a1 0 ) (finOc (ref_typeOf_B0 a0 a1) ref_typeOf_R r) :=
  Runs.loop' (by kernel_rfl) (forN_rounds (σ := Unit) (ρ := Int) (body := fun i1 s => ref_typeOf_b0 a0 a1 i1 ) (F := fun i1 s => ref_typeOf_F0 a0 a1 i1 ) (H := fun i1 s => ref_typeOf_H0 a0 a1 i1 ) (B := ref_typeOf_B0 a0 a1) (R := ref_typeOf_R) (M := a0.length) (fun _ => rfl) (fun _ => rfl) (fun s => ref_typeOf_b0_e a0 a1 ) (fun i s o hi h => ref_typeOf_b0_r a0 a1 i o hi h) _ 0 _ r (Nat.zero_add _) h)
noncomputable def ref_typeOf (a0 : List PartType) (a1 : ByteArray) : Option Int :=
 aft0 (forN (fun i1 s => ref_typeOf_b0 a0 a1 i1 ) (a0.length) 0 ()) (
 some (-1))
 (fun r6 =>
 some r6)
theorem ref_typeOf_ok (a0 : List PartType) (a1 : ByteArray) (r : Int) (h : ref_typeOf a0 a1 = some r) : Spec PG 76 [lT 2 (List.map e_PartType a0), sT a1] [] (iA r) [] := by
  unfold ref_typeOf at h
  rcases aft0_e h with ⟨h5, h⟩ | ⟨r6, h5, h⟩
  · have h := Option.some.inj h
    subst h
    exact Spec.path XTok PGmix ref_typeOf_fn 0 [.r [], .r [.eq 8 (iA (a0.length : Int))], .s (ref_typeOf_F0 a0 a1 0 ) (ref_typeOf_H0 a0 a1 0 ) [] (ref_typeOf_B0 a0 a1 ()), .r []] (an (leni_eq e_PartType a0) (ref_typeOf_l0 a0 a1 (.fin ()) h5)) (by kernel_rfl)
  · have h := Option.some.inj h
    subst h
    exact Spec.path XTok PGmix ref_typeOf_fn 0 [.r [], .r [.eq 8 (iA (a0.length : Int))], .s (ref_typeOf_F0 a0 a1 0 ) (ref_typeOf_H0 a0 a1 0 ) [] (ref_typeOf_R r6)] (an (leni_eq e_PartType a0) (ref_typeOf_l0 a0 a1 (.ret r6) h5)) (by kernel_rfl)

noncomputable def ref_pinOf_c : Code := (Go.Proofs.Tryd.f108.body).getD .skip
theorem ref_pinOf_fn : FnOk PG 108 ref_pinOf_c 21 [.tmp 4] := ⟨⟨Go.Proofs.Tryd.f108, by kernel_rfl, by kernel_rfl, by kernel_rfl, by kernel_rfl, by kernel_rfl⟩⟩
noncomputable def ref_pinOf_c0 : Code := cL (cL (cR (cL (cR ref_pinOf_c))))
noncomputable def ref_pinOf_R (r : Int) : Oc := .ret [(4, iA r)] []
noncomputable def ref_pinOf_F0 (a0 : PartType) (a1 : ByteArray) (i1 : Nat) : Fr := [(1, sA a1), (8, lA 3 (List.map e_PinType a0.Pins)), (9, iA (a0.Pins.length : Int)), (10, iA (i1 : Int))]
noncomputable def ref_pinOf_H0 (a0 : PartType) (a1 : ByteArray) (i1 : Nat) : Hp := []
noncomputable def ref_pinOf_B0 (a0 : PartType) (a1 : ByteArray) (s : Unit) : Oc := .ex 0 [] []
noncomputable def ref_pinOf_b0 (a0 : PartType) (a1 : ByteArray) (i1 : Nat) : Option (Stp Unit Int) :=
 bnd (atI a0.Pins (i1 : Int)) fun x2 =>
 cnd (sEq x2.Name a1) (some (.ret (i1 : Int))) (some (.go ()))
theorem ref_pinOf_b0_r (a0 : PartType) (a1 : ByteArray) (i1 : Nat) (o : Stp Unit Int) (hi : i1 < a0.Pins.length) (h : ref_pinOf_b0 a0 a1 i1 = some o) :
    Runs PG 21 0 ref_pinOf_c0 (ref_pinOf_F0 a0 a1 i1 ) (ref_pinOf_H0 a0 a1 i1 ) (stpOc (fun s' => .nor (ref_pinOf_F0 a0 a1 (i1 + 1) ) (ref_pinOf_H0 a0 a1 (i1 + 1) )) (ref_pinOf_B0 a0 a1) ref_pinOf_R o) := by
  unfold ref_pinOf_b0 at h
  refine Runs.len (s := 8) (sz := 3) (xs := List.map e_PinType a0.Pins) (by kernel_rfl) fun hl => ?_
  have hM : a0.Pins.length ≤ lim := len_of hl
  obtain ⟨x2, h3, h⟩ := bnd_e h
  rcases cnd_e h with ⟨h4, h⟩ | ⟨h4, h⟩
  · have h := Option.some.inj h
    subst h
    exact Runs.path XTok PGmix [.r [], .b true, .r [.el (e_PinType x2), .id 0], .r [], .b true, .r []] [] (an (lt_true hi) (an (idx_ok e_PinType h3) h4)) (by kernel_rfl)
  · have h := Option.some.inj h
    subst h
    exact Runs.path XTok PGmix [.r [], .b true, .r [.el (e_PinType x2), .id 0], .r [], .b false, .r [.eq 20 (iA ((i1 + 1 : Nat) : Int))]] [] (an (lt_true hi) (an (idx_ok e_PinType h3) (an h4 (wrap_eq hi hM)))) (by kernel_rfl)
theorem ref_pinOf_b0_e (a0 : PartType) (a1 : ByteArray) : Runs PG 21 0 ref_pinOf_c0 (ref_pinOf_F0 a0 a1 (a0.Pins.length) ) (ref_pinOf_H0 a0 a1 (a0.Pins.length) ) (ref_pinOf_B0 a0 a1 ()) := by
  exact Runs.path XTok PGmix [.r [], .b false] [] (lt_false (a0.Pins.length)) (by kernel_rfl)
theorem ref_pinOf_l0 (a0 : PartType) (a1 : ByteArray) (r : Fin' Unit Int) (h : forN (fun i1 s => ref_pinOf_b0 a0 a1 i1 ) (a0.Pins.length) 0 () = some r) : Runs PG 21 0 (cL (cR (cL (cR ref_pinOf_c)))) (ref_pinOf_F0 a0 a1 0 ) (ref_pinOf_H0 a0 a1 0 ) (finOc (ref_pinOf_B0 a0 a1) ref_pinOf_R r) :=
  Runs.loop' (by kernel_rfl) (forN_rounds (σ := Unit) (ρ := Int) (body := fun i1 s => ref_pinOf_b0 a0 a1 i1 ) (F := fun i1 s => ref_pinOf_F0 a0 a1 i1 ) (H := fun i1 s => ref_pinOf_H0 a0 a1 i1 ) (B := ref_pinOf_B0 a0 a1) (R := ref_pinOf_R) (M := a0.Pins.length) (fun _ => rfl) (fun _ => rfl) (fun s => ref_pinOf_b0_e a0 a1 ) (fun i s o hi h => ref_pinOf_b0_r a0 a1 i o hi h) _ 0 _ r (Nat.zero_add _) h)
noncomputable def ref_pinOf (a0 : PartType) (a1 : ByteArray) : Option Int :=
 aft0 (forN (fun i1 s => ref_pinOf_b0 a0 a1 i1 ) (a0.Pins.length) 0 ()) (
 some (-1))
 (fun r6 =>
 some r6)
theorem ref_pinOf_ok (a0 : PartType) (a1 : ByteArray) (r : Int) (h : ref_pinOf a0 a1 = some r) : Spec PG 108 [gT (e_PartType a0), sT a1] [] (iA r) [] := by
  unfold ref_pinOf at h
  rcases aft0_e h with ⟨h5, h⟩ | ⟨r6, h5, h⟩
  · have h := Option.some.inj h
    subst h
    exact Spec.path XTok PGmix ref_pinOf_fn 0 [.r [.id 0], .r [.eq 9 (iA (a0.Pins.length : Int))], .s (ref_pinOf_F0 a0 a1 0 ) (ref_pinOf_H0 a0 a1 0 ) [] (ref_pinOf_B0 a0 a1 ()), .r []] (an (leni_eq e_PinType a0.Pins) (ref_pinOf_l0 a0 a1 (.fin ()) h5)) (by kernel_rfl)
  · have h := Option.some.inj h
    subst h
    exact Spec.path XTok PGmix ref_pinOf_fn 0 [.r [.id 0], .r [.eq 9 (iA (a0.Pins.length : Int))], .s (ref_pinOf_F0 a0 a1 0 ) (ref_pinOf_H0 a0 a1 0 ) [] (ref_pinOf_R r6)] (an (leni_eq e_PinType a0.Pins) (ref_pinOf_l0 a0 a1 (.ret r6) h5)) (by kernel_rfl)

noncomputable def ref_HasPin_c : Code := (Go.Proofs.Tryd.f45.body).getD .skip
theorem ref_HasPin_fn : FnOk PG 45 ref_HasPin_c 32 [.tmp 6] := ⟨⟨Go.Proofs.Tryd.f45, by kernel_rfl, by kernel_rfl, by kernel_rfl, by kernel_rfl, by kernel_rfl⟩⟩
noncomputable def ref_HasPin (a0 : List PartType) (a1 : Netlist) (a2 : Pin) : Option Bool :=
 bnd (ref_partOf a1.Parts a2.Part) fun r1 =>
 bnd1 (cnd (decide (r1 ≥ 0)) (bnd (atI a1.Parts r1) fun x7 =>
 bnd (ref_typeOf a0 x7.Type_) fun r9 =>
 bnd (atI a0 r9) fun x11 =>
 bnd (ref_pinOf x11 a2.Pin) fun r13 =>
 some (decide (r13 ≥ 0))) (some false)) fun v3 =>
 some v3
theorem ref_HasPin_ok (a0 : List PartType) (a1 : Netlist) (a2 : Pin) (r : Bool) (h : ref_HasPin a0 a1 a2 = some r) : Spec PG 45 [lT 2 (List.map e_PartType a0), gT (e_Netlist a1), gT (e_Pin a2)] [] (bA r) [] := by
  unfold ref_HasPin at h
  obtain ⟨r1, h2, h⟩ := bnd_e h
  obtain ⟨v3, h4, h⟩ := bnd1_e h
  let q15_f : Fr := [(0, lA 2 (List.map e_PartType a0)), (4, .t (.v (.ptr 0 0))), (5, .t (.v (.ptr 1 0))), (7, iA r1)]
  let q15_g : Hp := [(0, .cells 26 [.c (.sl 2 (List.map e_Part a1.Parts)), .c (.sl 3 (List.map e_Net a1.Nets))]), (1, .cells 28 [.c (sC a2.Part), .c (sC a2.Pin)])]
  let q15_f' : Fr := [(6, bA v3)]
  let q15_g' : Hp := []
  have R5 : Runs PG 32 0 (cL (cR (cR ref_HasPin_c))) q15_f q15_g (.nor q15_f' q15_g') := by
    rcases cnd_e h4 with ⟨h6, h4⟩ | ⟨h6, h4⟩
    · obtain ⟨x7, h8, h4⟩ := bnd_e h4
      obtain ⟨r9, h10, h4⟩ := bnd_e h4
      obtain ⟨x11, h12, h4⟩ := bnd_e h4
      obtain ⟨r13, h14, h4⟩ := bnd_e h4
      have h4 := Option.some.inj h4
      subst h4
      exact Runs.path XTok PGmix [.d [([], []), ([], []), ([], []), ([], [.b true]), ([], [.b true]), ([], [.b true]), ([0], [.b true]), ([], [.b true]), ([], [.b true, .el (e_Part x7)]), ([], [.b true]), ([], [.b true]), ([], [.b true, .val (iA r9)]), ([], [.b true, .el (e_PartType x11)]), ([], [.b true]), ([], [.b true]), ([1], [.b true]), ([], [.b true, .val (iA r13)]), ([], [.b true]), ([], [.b true]), ([], [])]] [] (an h6 (an h6 (an h6 (an h6 (an h6 (an h6 (an (idx_ok e_Part h8) (an h6 (an h6 (an h6 (an (ref_typeOf_ok a0 x7.Type_ r9 h10) (an h6 (an (idx_ok e_PartType h12) (an h6 (an h6 (an h6 (an h6 (an (ref_pinOf_ok x11 a2.Pin r13 h14) (an h6 h6))))))))))))))))))) (by kernel_rfl)
    · have h4 := Option.some.inj h4
      subst h4
      exact Runs.path XTok PGmix [.d [([], []), ([], []), ([], []), ([], [.b false]), ([], [.b false]), ([], [.b false]), ([], [.b false]), ([], [.b false]), ([], [.b false]), ([], [.b false]), ([], [.b false]), ([], [.b false]), ([], [.b false]), ([], [.b false]), ([], [.b false]), ([], [.b false]), ([], [.b false]), ([], [.b false]), ([], [.b false]), ([], [])]] [] (an h6 (an h6 (an h6 (an h6 (an h6 (an h6 (an h6 (an h6 (an h6 (an h6 (an h6 (an h6 (an h6 (an h6 (an h6 h6))))))))))))))) (by kernel_rfl)
  have h := Option.some.inj h
  subst h
  exact Spec.path XTok PGmix ref_HasPin_fn 0 [.r [.id 0, .id 1], .r [.val (iA r1)], .s q15_f q15_g [] (.nor q15_f' q15_g')] (an (ref_partOf_ok a1.Parts a2.Part r1 h2) R5) (by kernel_rfl)

noncomputable def ref_IsPath_c : Code := (Go.Proofs.Tryd.f115.body).getD .skip
theorem ref_IsPath_fn : FnOk PG 115 ref_IsPath_c 19 [.tmp 2] := ⟨⟨Go.Proofs.Tryd.f115, by kernel_rfl, by kernel_rfl, by kernel_rfl, by kernel_rfl, by kernel_rfl⟩⟩
noncomputable def ref_IsPath_c0 : Code := cL (cL (cR (cL (cR ref_IsPath_c))))
noncomputable def ref_IsPath_R (r : Bool) : Oc := .ret [(2, bA r)] []
noncomputable def ref_IsPath_F0 (a0 : ByteArray) (r1 : List ByteArray) (i3 : Nat) : Fr := [(0, sA a0), (6, lA 1 (List.map e_str r1)), (7, iA (r1.length : Int)), (8, iA (i3 : Int))]
noncomputable def ref_IsPath_H0 (a0 : ByteArray) (r1 : List ByteArray) (i3 : Nat) : Hp := []
noncomputable def ref_IsPath_B0 (a0 : ByteArray) (r1 : List ByteArray) (s : Unit) : Oc := .ex 0 [(0, sA a0)] []
noncomputable def ref_IsPath_b0 (a0 : ByteArray) (r1 : List ByteArray) (i3 : Nat) : Option (Stp Unit Bool) :=
 bnd (atI r1 (i3 : Int)) fun x4 =>
 bnd (ref_IsWord x4) fun r6 =>
 cnd (!r6) (some (.ret false)) (some (.go ()))
theorem ref_IsPath_b0_r (a0 : ByteArray) (r1 : List ByteArray) (i3 : Nat) (o : Stp Unit Bool) (hi : i3 < r1.length) (h : ref_IsPath_b0 a0 r1 i3 = some o) :
    Runs PG 19 0 ref_IsPath_c0 (ref_IsPath_F0 a0 r1 i3 ) (ref_IsPath_H0 a0 r1 i3 ) (stpOc (fun s' => .nor (ref_IsPath_F0 a0 r1 (i3 + 1) ) (ref_IsPath_H0 a0 r1 (i3 + 1) )) (ref_IsPath_B0 a0 r1) ref_IsPath_R o) := by
  unfold ref_IsPath_b0 at h
  refine Runs.len (s := 6) (sz := 1) (xs := List.map e_str r1) (by kernel_rfl) fun hl => ?_
  have hM : r1.length ≤ lim := len_of hl
  obtain ⟨x4, h5, h⟩ := bnd_e h
  obtain ⟨r6, h7, h⟩ := bnd_e h
  rcases cnd_e h with ⟨h8, h⟩ | ⟨h8, h⟩
  · have h := Option.some.inj h
    subst h
    exact Runs.path XTok PGmix [.r [], .b true, .r [.el [sC x4]], .r [.val (bA r6)], .b true, .r []] [] (an (lt_true hi) (an (idx_ok e_str h5) (an (ref_IsWord_ok x4 r6 h7) h8))) (by kernel_rfl)
  · have h := Option.some.inj h
    subst h
    exact Runs.path XTok PGmix [.r [], .b true, .r [.el [sC x4]], .r [.val (bA r6)], .b false, .r [.eq 15 (iA ((i3 + 1 : Nat) : Int))]] [] (an (lt_true hi) (an (idx_ok e_str h5) (an (ref_IsWord_ok x4 r6 h7) (an h8 (wrap_eq hi hM))))) (by kernel_rfl)
theorem ref_IsPath_b0_e (a0 : ByteArray) (r1 : List ByteArray) : Runs PG 19 0 ref_IsPath_c0 (ref_IsPath_F0 a0 r1 (r1.length) ) (ref_IsPath_H0 a0 r1 (r1.length) ) (ref_IsPath_B0 a0 r1 ()) := by
  exact Runs.path XTok PGmix [.r [], .b false] [] (lt_false (r1.length)) (by kernel_rfl)
theorem ref_IsPath_l0 (a0 : ByteArray) (r1 : List ByteArray) (r : Fin' Unit Bool) (h : forN (fun i3 s => ref_IsPath_b0 a0 r1 i3 ) (r1.length) 0 () = some r) : Runs PG 19 0 (cL (cR (cL (cR ref_IsPath_c)))) (ref_IsPath_F0 a0 r1 0 ) (ref_IsPath_H0 a0 r1 0 ) (finOc (ref_IsPath_B0 a0 r1) ref_IsPath_R r) :=
  Runs.loop' (by kernel_rfl) (forN_rounds (σ := Unit) (ρ := Bool) (body := fun i3 s => ref_IsPath_b0 a0 r1 i3 ) (F := fun i3 s => ref_IsPath_F0 a0 r1 i3 ) (H := fun i3 s => ref_IsPath_H0 a0 r1 i3 ) (B := ref_IsPath_B0 a0 r1) (R := ref_IsPath_R) (M := r1.length) (fun _ => rfl) (fun _ => rfl) (fun s => ref_IsPath_b0_e a0 r1 ) (fun i s o hi h => ref_IsPath_b0_r a0 r1 i o hi h) _ 0 _ r (Nat.zero_add _) h)
noncomputable def ref_IsPath (a0 : ByteArray) : Option Bool :=
 bnd (strings_Split a0 (⟨#[47]⟩ : ByteArray)) fun r1 =>
 aft0 (forN (fun i3 s => ref_IsPath_b0 a0 r1 i3 ) (r1.length) 0 ()) (
 some (decide ((a0.size : Int) ≤ 200)))
 (fun r10 =>
 some r10)
theorem ref_IsPath_ok (a0 : ByteArray) (r : Bool) (h : ref_IsPath a0 = some r) : Spec PG 115 [sT a0] [] (bA r) [] := by
  unfold ref_IsPath at h
  obtain ⟨r1, h2, h⟩ := bnd_e h
  rcases aft0_e h with ⟨h9, h⟩ | ⟨r10, h9, h⟩
  · have h := Option.some.inj h
    subst h
    exact Spec.path XTok PGmix ref_IsPath_fn 0 [.r [], .r [.val (lA 1 (List.map e_str r1)), .eq 7 (iA (r1.length : Int))], .s (ref_IsPath_F0 a0 r1 0 ) (ref_IsPath_H0 a0 r1 0 ) [] (ref_IsPath_B0 a0 r1 ()), .r []] (an (strings_Split_ok a0 (⟨#[47]⟩ : ByteArray) r1 h2) (an (leni_eq e_str r1) (ref_IsPath_l0 a0 r1 (.fin ()) h9))) (by kernel_rfl)
  · have h := Option.some.inj h
    subst h
    exact Spec.path XTok PGmix ref_IsPath_fn 0 [.r [], .r [.val (lA 1 (List.map e_str r1)), .eq 7 (iA (r1.length : Int))], .s (ref_IsPath_F0 a0 r1 0 ) (ref_IsPath_H0 a0 r1 0 ) [] (ref_IsPath_R r10)] (an (strings_Split_ok a0 (⟨#[47]⟩ : ByteArray) r1 h2) (an (leni_eq e_str r1) (ref_IsPath_l0 a0 r1 (.ret r10) h9))) (by kernel_rfl)

noncomputable def ref_before_c : Code := (Go.Proofs.Tryd.f116.body).getD .skip
theorem ref_before_fn : FnOk PG 116 ref_before_c 24 [.tmp 4] := ⟨⟨Go.Proofs.Tryd.f116, by kernel_rfl, by kernel_rfl, by kernel_rfl, by kernel_rfl, by kernel_rfl⟩⟩
noncomputable def ref_before (a0 : Pin) (a1 : Pin) : Option Bool :=
 bnd1 (cnd (sLt a0.Part a1.Part) (some true) (cnd (sEq a0.Part a1.Part) (some (sLt a0.Pin a1.Pin)) (some false))) fun v1 =>
 some v1
theorem ref_before_ok (a0 : Pin) (a1 : Pin) (r : Bool) (h : ref_before a0 a1 = some r) : Spec PG 116 [gT (e_Pin a0), gT (e_Pin a1)] [] (bA r) [] := by
  unfold ref_before at h
  obtain ⟨v1, h2, h⟩ := bnd1_e h
  let q6_f : Fr := [(2, .t (.v (.ptr 0 0))), (3, .t (.v (.ptr 1 0)))]
  let q6_g : Hp := [(0, .cells 28 [.c (sC a0.Part), .c (sC a0.Pin)]), (1, .cells 28 [.c (sC a1.Part), .c (sC a1.Pin)])]
  let q6_f' : Fr := [(4, bA v1)]
  let q6_g' : Hp := []
  have R3 : Runs PG 24 0 (cL (cR ref_before_c)) q6_f q6_g (.nor q6_f' q6_g') := by
    rcases cnd_e h2 with ⟨h4, h2⟩ | ⟨h4, h2⟩
    · have h2 := Option.some.inj h2
      subst h2
      exact Runs.path XTok PGmix [.r [.b true, .b true, .b true, .b true, .b true, .b true, .b true, .b true]] [] (an h4 (an h4 (an h4 (an h4 (an h4 (an h4 (an h4 h4))))))) (by kernel_rfl)
    · rcases cnd_e h2 with ⟨h5, h2⟩ | ⟨h5, h2⟩
      · have h2 := Option.some.inj h2
        subst h2
        exact Runs.path XTok PGmix [.r [.b false, .b false, .b false, .b false, .b false, .b false, .b true, .b true, .b true, .b true, .b true, .b false, .b true, .b false]] [] (an h4 (an h4 (an h4 (an h4 (an h4 (an h4 (an h5 (an h5 (an h5 (an h5 (an h5 (an h4 (an h5 h4))))))))))))) (by kernel_rfl)
      · have h2 := Option.some.inj h2
        subst h2
        exact Runs.path XTok PGmix [.r [.b false, .b false, .b false, .b false, .b false, .b false, .b false, .b false, .b false, .b false, .b false, .b false, .b false, .b false]] [] (an h4 (an h4 (an h4 (an h4 (an h4 (an h4 (an h5 (an h5 (an h5 (an h5 (an h5 (an h4 (an h5 h4))))))))))))) (by kernel_rfl)
  have h := Option.some.inj h
  subst h
  exact Spec.path XTok PGmix ref_before_fn 0 [.r [.id 0, .id 1], .s q6_f q6_g [] (.nor q6_f' q6_g')] R3 (by kernel_rfl)

noncomputable def slices_Index_api_Pin_api_Pin_c : Code := (Go.Proofs.Tryd.f156.body).getD .skip
theorem slices_Index_api_Pin_api_Pin_fn : FnOk PG 156 slices_Index_api_Pin_api_Pin_c 19 [.tmp 4] := ⟨⟨Go.Proofs.Tryd.f156, by kernel_rfl, by kernel_rfl, by kernel_rfl, by kernel_rfl, by kernel_rfl⟩⟩
noncomputable def slices_Index_api_Pin_api_Pin_c0 : Code := cL (cL (cR (cL (cR slices_Index_api_Pin_api_Pin_c))))
noncomputable def slices_Index_api_Pin_api_Pin_R (r : Int) : Oc := .ret [(4, iA r)] []
noncomputable def slices_Index_api_Pin_api_Pin_F0 (a0 : List Pin) (a1 : Pin) (i1 : Nat) : Fr := [(0, lA 2 (List.map e_Pin a0)), (3, .t (.v (.ptr 0 0))), (6, lA 2 (List.map e_Pin a0)), (7, iA (a0.length : Int)), (8, iA (i1 : Int))]
noncomputable def slices_Index_api_Pin_api_Pin_H0 (a0 : List Pin) (a1 : Pin) (i1 : Nat) : Hp := [(0, .cells 28 [.c (sC a1.Part), .c (sC a1.Pin)])]
noncomputable def slices_Index_api_Pin_api_Pin_B0 (a0 : List Pin) (a1 : Pin) (s : Unit) : Oc := .ex 0 [] []
noncomputable def slices_Index_api_Pin_api_Pin_b0 (a0 : List Pin) (a1 : Pin) (i1 : Nat) : Option (Stp Unit Int) :=
 bnd (atI a0 (i1 : Int)) fun x2 =>
 cnd (sEq a1.Part x2.Part && (sEq a1.Pin x2.Pin && true)) (some (.ret (i1 : Int))) (some (.go ()))
theorem slices_Index_api_Pin_api_Pin_b0_r (a0 : List Pin) (a1 : Pin) (i1 : Nat) (o : Stp Unit Int) (hi : i1 < a0.length) (h : slices_Index_api_Pin_api_Pin_b0 a0 a1 i1 = some o) :
    Runs PG 19 0 slices_Index_api_Pin_api_Pin_c0 (slices_Index_api_Pin_api_Pin_F0 a0 a1 i1 ) (slices_Index_api_Pin_api_Pin_H0 a0 a1 i1 ) (stpOc (fun s' => .nor (slices_Index_api_Pin_api_Pin_F0 a0 a1 (i1 + 1) ) (slices_Index_api_Pin_api_Pin_H0 a0 a1 (i1 + 1) )) (slices_Index_api_Pin_api_Pin_B0 a0 a1) slices_Index_api_Pin_api_Pin_R o) := by
  unfold slices_Index_api_Pin_api_Pin_b0 at h
  refine Runs.len (s := 6) (sz := 2) (xs := List.map e_Pin a0) (by kernel_rfl) fun hl => ?_
  have hM : a0.length ≤ lim := len_of hl
  obtain ⟨x2, h3, h⟩ := bnd_e h
  rcases cnd_e h with ⟨h4, h⟩ | ⟨h4, h⟩
  · have h := Option.some.inj h
    subst h
    exact Runs.path XTok PGmix [.r [], .b true, .r [], .d [([0], []), ([], []), ([], []), ([], [.el (e_Pin x2)]), ([], []), ([], [])], .b true, .r []] [] (an (lt_true hi) (an (idx_ok e_Pin h3) h4)) (by kernel_rfl)
  · have h := Option.some.inj h
    subst h
    exact Runs.path XTok PGmix [.r [], .b true, .r [], .d [([0], []), ([], []), ([], []), ([], [.el (e_Pin x2)]), ([], []), ([], [])], .b false, .r [.eq 18 (iA ((i1 + 1 : Nat) : Int))]] [] (an (lt_true hi) (an (idx_ok e_Pin h3) (an h4 (wrap_eq hi hM)))) (by kernel_rfl)
theorem slices_Index_api_Pin_api_Pin_b0_e (a0 : List Pin) (a1 : Pin) : Runs PG 19 0 slices_Index_api_Pin_api_Pin_c0 (slices_Index_api_Pin_api_Pin_F0 a0 a1 (a0.length) ) (slices_Index_api_Pin_api_Pin_H0 a0 a1 (a0.length) ) (slices_Index_api_Pin_api_Pin_B0 a0 a1 ()) := by
  exact Runs.path XTok PGmix [.r [], .b false] [] (lt_false (a0.length)) (by kernel_rfl)
theorem slices_Index_api_Pin_api_Pin_l0 (a0 : List Pin) (a1 : Pin) (r : Fin' Unit Int) (h : forN (fun i1 s => slices_Index_api_Pin_api_Pin_b0 a0 a1 i1 ) (a0.length) 0 () = some r) : Runs PG 19 0 (cL (cR (cL (cR slices_Index_api_Pin_api_Pin_c)))) (slices_Index_api_Pin_api_Pin_F0 a0 a1 0 ) (slices_Index_api_Pin_api_Pin_H0 a0 a1 0 ) (finOc (slices_Index_api_Pin_api_Pin_B0 a0 a1) slices_Index_api_Pin_api_Pin_R r) :=
  Runs.loop' (by kernel_rfl) (forN_rounds (σ := Unit) (ρ := Int) (body := fun i1 s => slices_Index_api_Pin_api_Pin_b0 a0 a1 i1 ) (F := fun i1 s => slices_Index_api_Pin_api_Pin_F0 a0 a1 i1 ) (H := fun i1 s => slices_Index_api_Pin_api_Pin_H0 a0 a1 i1 ) (B := slices_Index_api_Pin_api_Pin_B0 a0 a1) (R := slices_Index_api_Pin_api_Pin_R) (M := a0.length) (fun _ => rfl) (fun _ => rfl) (fun s => slices_Index_api_Pin_api_Pin_b0_e a0 a1 ) (fun i s o hi h => slices_Index_api_Pin_api_Pin_b0_r a0 a1 i o hi h) _ 0 _ r (Nat.zero_add _) h)
noncomputable def slices_Index_api_Pin_api_Pin (a0 : List Pin) (a1 : Pin) : Option Int :=
 aft0 (forN (fun i1 s => slices_Index_api_Pin_api_Pin_b0 a0 a1 i1 ) (a0.length) 0 ()) (
 some (-1))
 (fun r6 =>
 some r6)
theorem slices_Index_api_Pin_api_Pin_ok (a0 : List Pin) (a1 : Pin) (r : Int) (h : slices_Index_api_Pin_api_Pin a0 a1 = some r) : Spec PG 156 [lT 2 (List.map e_Pin a0), gT (e_Pin a1)] [] (iA r) [] := by
  unfold slices_Index_api_Pin_api_Pin at h
  rcases aft0_e h with ⟨h5, h⟩ | ⟨r6, h5, h⟩
  · have h := Option.some.inj h
    subst h
    exact Spec.path XTok PGmix slices_Index_api_Pin_api_Pin_fn 0 [.r [.id 0], .r [.eq 7 (iA (a0.length : Int))], .s (slices_Index_api_Pin_api_Pin_F0 a0 a1 0 ) (slices_Index_api_Pin_api_Pin_H0 a0 a1 0 ) [] (slices_Index_api_Pin_api_Pin_B0 a0 a1 ()), .r []] (an (leni_eq e_Pin a0) (slices_Index_api_Pin_api_Pin_l0 a0 a1 (.fin ()) h5)) (by kernel_rfl)
  · have h := Option.some.inj h
    subst h
    exact Spec.path XTok PGmix slices_Index_api_Pin_api_Pin_fn 0 [.r [.id 0], .r [.eq 7 (iA (a0.length : Int))], .s (slices_Index_api_Pin_api_Pin_F0 a0 a1 0 ) (slices_Index_api_Pin_api_Pin_H0 a0 a1 0 ) [] (slices_Index_api_Pin_api_Pin_R r6)] (an (leni_eq e_Pin a0) (slices_Index_api_Pin_api_Pin_l0 a0 a1 (.ret r6) h5)) (by kernel_rfl)

noncomputable def slices_Contains_api_Pin_api_Pin_c : Code := (Go.Proofs.Tryd.f109.body).getD .skip
theorem slices_Contains_api_Pin_api_Pin_fn : FnOk PG 109 slices_Contains_api_Pin_api_Pin_c 9 [.tmp 4] := ⟨⟨Go.Proofs.Tryd.f109, by kernel_rfl, by kernel_rfl, by kernel_rfl, by kernel_rfl, by kernel_rfl⟩⟩
noncomputable def slices_Contains_api_Pin_api_Pin (a0 : List Pin) (a1 : Pin) : Option Bool :=
 bnd (slices_Index_api_Pin_api_Pin a0 a1) fun r1 =>
 some (decide (r1 ≥ 0))
theorem slices_Contains_api_Pin_api_Pin_ok (a0 : List Pin) (a1 : Pin) (r : Bool) (h : slices_Contains_api_Pin_api_Pin a0 a1 = some r) : Spec PG 109 [lT 2 (List.map e_Pin a0), gT (e_Pin a1)] [] (bA r) [] := by
  unfold slices_Contains_api_Pin_api_Pin at h
  obtain ⟨r1, h2, h⟩ := bnd_e h
  have h := Option.some.inj h
  subst h
  exact Spec.path XTok PGmix slices_Contains_api_Pin_api_Pin_fn 0 [.r [.id 0], .r [.val (iA r1)]] (slices_Index_api_Pin_api_Pin_ok a0 a1 r1 h2) (by kernel_rfl)

noncomputable def ref_inNets_c : Code := (Go.Proofs.Tryd.f117.body).getD .skip
theorem ref_inNets_fn : FnOk PG 117 ref_inNets_c 18 [.tmp 4] := ⟨⟨Go.Proofs.Tryd.f117, by kernel_rfl, by kernel_rfl, by kernel_rfl, by kernel_rfl, by kernel_rfl⟩⟩
noncomputable def ref_inNets_c0 : Code := cL (cL (cR (cL (cR ref_inNets_c))))
noncomputable def ref_inNets_R (r : Bool) : Oc := .ret [(4, bA r)] []
noncomputable def ref_inNets_F0 (a0 : List Net) (a1 : Pin) (i1 : Nat) : Fr := [(3, .t (.v (.ptr 0 0))), (7, lA 3 (List.map e_Net a0)), (8, iA (a0.length : Int)), (9, iA (i1 : Int))]
noncomputable def ref_inNets_H0 (a0 : List Net) (a1 : Pin) (i1 : Nat) : Hp := [(0, .cells 28 [.c (sC a1.Part), .c (sC a1.Pin)])]
noncomputable def ref_inNets_B0 (a0 : List Net) (a1 : Pin) (s : Unit) : Oc := .ex 0 [] []
noncomputable def ref_inNets_b0 (a0 : List Net) (a1 : Pin) (i1 : Nat) : Option (Stp Unit Bool) :=
 bnd (atI a0 (i1 : Int)) fun x2 =>
 bnd (slices_Contains_api_Pin_api_Pin x2.Pins a1) fun r4 =>
 cnd r4 (some (.ret true)) (some (.go ()))
theorem ref_inNets_b0_r (a0 : List Net) (a1 : Pin) (i1 : Nat) (o : Stp Unit Bool) (hi : i1 < a0.length) (h : ref_inNets_b0 a0 a1 i1 = some o) :
    Runs PG 18 0 ref_inNets_c0 (ref_inNets_F0 a0 a1 i1 ) (ref_inNets_H0 a0 a1 i1 ) (stpOc (fun s' => .nor (ref_inNets_F0 a0 a1 (i1 + 1) ) (ref_inNets_H0 a0 a1 (i1 + 1) )) (ref_inNets_B0 a0 a1) ref_inNets_R o) := by
  unfold ref_inNets_b0 at h
  refine Runs.len (s := 7) (sz := 3) (xs := List.map e_Net a0) (by kernel_rfl) fun hl => ?_
  have hM : a0.length ≤ lim := len_of hl
  obtain ⟨x2, h3, h⟩ := bnd_e h
  obtain ⟨r4, h5, h⟩ := bnd_e h
  rcases cnd_e h with ⟨h6, h⟩ | ⟨h6, h⟩
  · have h := Option.some.inj h
    subst h
    exact Runs.path XTok PGmix [.r [], .b true, .r [.el (e_Net x2), .id 1], .r [.val (bA r4)], .b true, .r []] [] (an (lt_true hi) (an (idx_ok e_Net h3) (an (slices_Contains_api_Pin_api_Pin_ok x2.Pins a1 r4 h5) h6))) (by kernel_rfl)
  · have h := Option.some.inj h
    subst h
    exact Runs.path XTok PGmix [.r [], .b true, .r [.el (e_Net x2), .id 1], .r [.val (bA r4)], .b false, .r [.eq 17 (iA ((i1 + 1 : Nat) : Int))]] [] (an (lt_true hi) (an (idx_ok e_Net h3) (an (slices_Contains_api_Pin_api_Pin_ok x2.Pins a1 r4 h5) (an h6 (wrap_eq hi hM))))) (by kernel_rfl)
theorem ref_inNets_b0_e (a0 : List Net) (a1 : Pin) : Runs PG 18 0 ref_inNets_c0 (ref_inNets_F0 a0 a1 (a0.length) ) (ref_inNets_H0 a0 a1 (a0.length) ) (ref_inNets_B0 a0 a1 ()) := by
  exact Runs.path XTok PGmix [.r [], .b false] [] (lt_false (a0.length)) (by kernel_rfl)
theorem ref_inNets_l0 (a0 : List Net) (a1 : Pin) (r : Fin' Unit Bool) (h : forN (fun i1 s => ref_inNets_b0 a0 a1 i1 ) (a0.length) 0 () = some r) : Runs PG 18 0 (cL (cR (cL (cR ref_inNets_c)))) (ref_inNets_F0 a0 a1 0 ) (ref_inNets_H0 a0 a1 0 ) (finOc (ref_inNets_B0 a0 a1) ref_inNets_R r) :=
  Runs.loop' (by kernel_rfl) (forN_rounds (σ := Unit) (ρ := Bool) (body := fun i1 s => ref_inNets_b0 a0 a1 i1 ) (F := fun i1 s => ref_inNets_F0 a0 a1 i1 ) (H := fun i1 s => ref_inNets_H0 a0 a1 i1 ) (B := ref_inNets_B0 a0 a1) (R := ref_inNets_R) (M := a0.length) (fun _ => rfl) (fun _ => rfl) (fun s => ref_inNets_b0_e a0 a1 ) (fun i s o hi h => ref_inNets_b0_r a0 a1 i o hi h) _ 0 _ r (Nat.zero_add _) h)
noncomputable def ref_inNets (a0 : List Net) (a1 : Pin) : Option Bool :=
 aft0 (forN (fun i1 s => ref_inNets_b0 a0 a1 i1 ) (a0.length) 0 ()) (
 some false)
 (fun r8 =>
 some r8)
theorem ref_inNets_ok (a0 : List Net) (a1 : Pin) (r : Bool) (h : ref_inNets a0 a1 = some r) : Spec PG 117 [lT 3 (List.map e_Net a0), gT (e_Pin a1)] [] (bA r) [] := by
  unfold ref_inNets at h
  rcases aft0_e h with ⟨h7, h⟩ | ⟨r8, h7, h⟩
  · have h := Option.some.inj h
    subst h
    exact Spec.path XTok PGmix ref_inNets_fn 0 [.r [.id 0], .r [.eq 8 (iA (a0.length : Int))], .s (ref_inNets_F0 a0 a1 0 ) (ref_inNets_H0 a0 a1 0 ) [] (ref_inNets_B0 a0 a1 ()), .r []] (an (leni_eq e_Net a0) (ref_inNets_l0 a0 a1 (.fin ()) h7)) (by kernel_rfl)
  · have h := Option.some.inj h
    subst h
    exact Spec.path XTok PGmix ref_inNets_fn 0 [.r [.id 0], .r [.eq 8 (iA (a0.length : Int))], .s (ref_inNets_F0 a0 a1 0 ) (ref_inNets_H0 a0 a1 0 ) [] (ref_inNets_R r8)] (an (leni_eq e_Net a0) (ref_inNets_l0 a0 a1 (.ret r8) h7)) (by kernel_rfl)
end Go.Proofs.YtlbndchfmdogeaaDoor.Sym
