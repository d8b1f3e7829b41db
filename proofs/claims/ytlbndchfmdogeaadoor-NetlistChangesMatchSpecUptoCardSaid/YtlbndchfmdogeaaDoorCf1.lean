/- Printed by gen2.py: the plain forms of functions, and that calling them gives what these give. Conditions: none. -/
import Derived.Test.YtlbndchfmdogeaaDoorCf0
set_option linter.unusedVariables false
set_option maxHeartbeats 4000000
namespace Go.Proofs.YtlbndchfmdogeaaDoor.Sym
open Go Go.RowKit
noncomputable def slices_BinarySearchFunc_api_PinType_api_PinType_string_c : Code := (Go.Proofs.Tryd.f123.body).getD .skip
theorem slices_BinarySearchFunc_api_PinType_api_PinType_string_fn : FnOk PG 123 slices_BinarySearchFunc_api_PinType_api_PinType_string_c 49 [.tmp 6, .tmp 7] := ⟨⟨Go.Proofs.Tryd.f123, by kernel_rfl, by kernel_rfl, by kernel_rfl, by kernel_rfl, by kernel_rfl⟩⟩
noncomputable def slices_BinarySearchFunc_api_PinType_api_PinType_string_c0 : Code := cL (cL (cL (cR (cR (cR slices_BinarySearchFunc_api_PinType_api_PinType_string_c)))))
noncomputable def slices_BinarySearchFunc_api_PinType_api_PinType_string_R (r : Int × Bool) : Oc := .ret [(6, iA r.1), (7, bA r.2)] []
noncomputable def slices_BinarySearchFunc_api_PinType_api_PinType_string_F0 (a2_k : FuncId) (a2_c : List C) (a0 : List PinType) (a1 : ByteArray) (y1 : Int) (y2 : Int) : Fr := [(0, lA 3 (List.map e_PinType a0)), (1, sA a1), (2, .t (.v (.c (.fn a2_k a2_c)))), (8, iA (a0.length : Int)), (9, iA y1), (10, iA y2)]
noncomputable def slices_BinarySearchFunc_api_PinType_api_PinType_string_H0 (a2_k : FuncId) (a2_c : List C) (a0 : List PinType) (a1 : ByteArray) (y1 : Int) (y2 : Int) : Hp := []
noncomputable def slices_BinarySearchFunc_api_PinType_api_PinType_string_B0 (a2_k : FuncId) (a2_c : List C) (a0 : List PinType) (a1 : ByteArray) (s : Int × Int) : Oc := .ex 0 [(0, lA 3 (List.map e_PinType a0)), (1, sA a1), (2, .t (.v (.c (.fn a2_k a2_c)))), (8, iA (a0.length : Int)), (9, iA s.1)] []
noncomputable def slices_BinarySearchFunc_api_PinType_api_PinType_string_b0 (a2 : PinType → ByteArray → Option Int) (a0 : List PinType) (a1 : ByteArray) (y1 : Int) (y2 : Int) : Option (Stp (Int × Int) (Int × Bool)) :=
 cnd (decide (y1 < y2)) (grd ((0 : Int) ≤ 1) <|
 bnd (atI a0 (IntKind.i64.wrap ((IntKind.u64.wrap (w64 (y1 + y2))) / 2 ^ min (Int.toNat 1) 64))) fun x5 =>
 bnd (a2 x5 a1) fun r7 =>
 bnd2 (cnd (decide (r7 < 0)) (some (y2, w64 ((IntKind.i64.wrap ((IntKind.u64.wrap (w64 (y1 + y2))) / 2 ^ min (Int.toNat 1) 64)) + 1))) (some (IntKind.i64.wrap ((IntKind.u64.wrap (w64 (y1 + y2))) / 2 ^ min (Int.toNat 1) 64), y1))) fun v9 v10 =>
 some (.go (v10, v9))) (some (.brk (y1, y2)))
theorem slices_BinarySearchFunc_api_PinType_api_PinType_string_b0_r (a2_k : FuncId) (a2_c : List C) (a2 : PinType → ByteArray → Option Int) (a2_ok : ∀ (z0 : PinType) (z1 : ByteArray) (r : Int), a2 z0 z1 = some r → Spec PG a2_k ([gT (e_PinType z0), sT z1] ++ List.map (fun x => TV.v (CV.c x)) a2_c) [] (iA r) []) (a0 : List PinType) (a1 : ByteArray) (y1 : Int) (y2 : Int) (o : Stp (Int × Int) (Int × Bool)) (h : slices_BinarySearchFunc_api_PinType_api_PinType_string_b0 a2 a0 a1 y1 y2 = some o) :
    Runs PG 49 0 slices_BinarySearchFunc_api_PinType_api_PinType_string_c0 (slices_BinarySearchFunc_api_PinType_api_PinType_string_F0 a2_k a2_c a0 a1 y1 y2) (slices_BinarySearchFunc_api_PinType_api_PinType_string_H0 a2_k a2_c a0 a1 y1 y2) (stpOc (fun s' => .nor (slices_BinarySearchFunc_api_PinType_api_PinType_string_F0 a2_k a2_c a0 a1 s'.1 s'.2) (slices_BinarySearchFunc_api_PinType_api_PinType_string_H0 a2_k a2_c a0 a1 s'.1 s'.2)) (slices_BinarySearchFunc_api_PinType_api_PinType_string_B0 a2_k a2_c a0 a1) slices_BinarySearchFunc_api_PinType_api_PinType_string_R o) := by
  unfold slices_BinarySearchFunc_api_PinType_api_PinType_string_b0 at h
  rcases cnd_e h with ⟨h3, h⟩ | ⟨h3, h⟩
  · obtain ⟨h4, h⟩ := grd_e h
    obtain ⟨x5, h6, h⟩ := bnd_e h
    obtain ⟨r7, h8, h⟩ := bnd_e h
    obtain ⟨v9, v10, h11, h⟩ := bnd2_e h
    let q18_f : Fr := [(0, lA 3 (List.map e_PinType a0)), (1, sA a1), (2, .t (.v (.c (.fn a2_k a2_c)))), (8, iA (a0.length : Int)), (9, iA y1), (10, iA y2), (11, iA (IntKind.i64.wrap ((IntKind.u64.wrap (w64 (y1 + y2))) / 2 ^ min (Int.toNat 1) 64))), (31, bA (decide (r7 < 0)))]
    let q18_g : Hp := []
    let q18_f' : Fr := [(0, lA 3 (List.map e_PinType a0)), (1, sA a1), (2, .t (.v (.c (.fn a2_k a2_c)))), (8, iA (a0.length : Int)), (9, iA v10), (10, iA v9)]
    let q18_g' : Hp := []
    have R12 : Runs PG 49 0 (cR (cR (cL (cR slices_BinarySearchFunc_api_PinType_api_PinType_string_c0)))) q18_f q18_g (.nor q18_f' q18_g') := by
      rcases cnd_e h11 with ⟨h13, h11⟩ | ⟨h13, h11⟩
      · have h11 := Option.some.inj h11
        have q14 := (Prod.mk.inj h11).1
        have q15 := (Prod.mk.inj h11).2
        subst q14
        subst q15
        exact Runs.path XTok PGmix [.b true, .r []] [] h13 (by kernel_rfl)
      · have h11 := Option.some.inj h11
        have q16 := (Prod.mk.inj h11).1
        have q17 := (Prod.mk.inj h11).2
        subst q16
        subst q17
        exact Runs.path XTok PGmix [.b false, .r []] [] h13 (by kernel_rfl)
    have h := Option.some.inj h
    subst h
    exact Runs.path XTok PGmix [.r [], .b true, .r [], .r [.el (e_PinType x5), .val (iA r7)], .s q18_f q18_g [] (.nor q18_f' q18_g')] [] (an h3 (an h4 (an (idx_ok e_PinType h6) (an (a2_ok x5 a1 r7 h8) R12)))) (by kernel_rfl)
  · have h := Option.some.inj h
    subst h
    exact Runs.path XTok PGmix [.r [], .b false] [] h3 (by kernel_rfl)
theorem slices_BinarySearchFunc_api_PinType_api_PinType_string_l0 (a2_k : FuncId) (a2_c : List C) (a2 : PinType → ByteArray → Option Int) (a2_ok : ∀ (z0 : PinType) (z1 : ByteArray) (r : Int), a2 z0 z1 = some r → Spec PG a2_k ([gT (e_PinType z0), sT z1] ++ List.map (fun x => TV.v (CV.c x)) a2_c) [] (iA r) []) (a0 : List PinType) (a1 : ByteArray) (y1 : Int) (y2 : Int) (r : Fin' (Int × Int) (Int × Bool)) (h : loop (fun s => slices_BinarySearchFunc_api_PinType_api_PinType_string_b0 a2 a0 a1 s.1 s.2) (y1, y2) = some r) : Runs PG 49 0 (cL (cL (cR (cR (cR slices_BinarySearchFunc_api_PinType_api_PinType_string_c))))) (slices_BinarySearchFunc_api_PinType_api_PinType_string_F0 a2_k a2_c a0 a1 y1 y2) (slices_BinarySearchFunc_api_PinType_api_PinType_string_H0 a2_k a2_c a0 a1 y1 y2) (finOc (slices_BinarySearchFunc_api_PinType_api_PinType_string_B0 a2_k a2_c a0 a1) slices_BinarySearchFunc_api_PinType_api_PinType_string_R r) :=
  Runs.loop' (by kernel_rfl) (loop_rounds (σ := (Int × Int)) (ρ := (Int × Bool)) (body := fun s => slices_BinarySearchFunc_api_PinType_api_PinType_string_b0 a2 a0 a1 s.1 s.2) (F := fun s => slices_BinarySearchFunc_api_PinType_api_PinType_string_F0 a2_k a2_c a0 a1 s.1 s.2) (H := fun s => slices_BinarySearchFunc_api_PinType_api_PinType_string_H0 a2_k a2_c a0 a1 s.1 s.2) (B := slices_BinarySearchFunc_api_PinType_api_PinType_string_B0 a2_k a2_c a0 a1) (R := slices_BinarySearchFunc_api_PinType_api_PinType_string_R) (fun _ => rfl) (fun _ => rfl) (fun s o h => slices_BinarySearchFunc_api_PinType_api_PinType_string_b0_r a2_k a2_c a2 a2_ok a0 a1 s.1 s.2 o h) h)
noncomputable def slices_BinarySearchFunc_api_PinType_api_PinType_string (a0 : List PinType) (a1 : ByteArray) (a2 : PinType → ByteArray → Option Int) : Option (Int × Bool) :=
 aft2 (loop (fun s => slices_BinarySearchFunc_api_PinType_api_PinType_string_b0 a2 a0 a1 s.1 s.2) (0, (a0.length : Int))) (fun u19 u20 =>
 bnd1 (cnd (decide (u19 < (a0.length : Int))) (bnd (atI a0 u19) fun x27 =>
 bnd (a2 x27 a1) fun r29 =>
 some (r29 == 0)) (some false)) fun v23 =>
 some (u19, v23))
 (fun r22 =>
 some r22)
theorem slices_BinarySearchFunc_api_PinType_api_PinType_string_ok (a0 : List PinType) (a1 : ByteArray) (a2_k : FuncId) (a2_c : List C) (a2 : PinType → ByteArray → Option Int) (a2_ok : ∀ (z0 : PinType) (z1 : ByteArray) (r : Int), a2 z0 z1 = some r → Spec PG a2_k ([gT (e_PinType z0), sT z1] ++ List.map (fun x => TV.v (CV.c x)) a2_c) [] (iA r) []) (r : Int × Bool) (h : slices_BinarySearchFunc_api_PinType_api_PinType_string a0 a1 a2 = some r) : Spec PG 123 [lT 3 (List.map e_PinType a0), sT a1, .v (.c (.fn a2_k a2_c))] [] (.tup [iT r.1, bT r.2]) [] := by
  unfold slices_BinarySearchFunc_api_PinType_api_PinType_string at h
  rcases aft2_e h with ⟨u19, u20, h21, h⟩ | ⟨r22, h21, h⟩
  · obtain ⟨v23, h24, h⟩ := bnd1_e h
    let q31_f : Fr := [(0, lA 3 (List.map e_PinType a0)), (1, sA a1), (2, .t (.v (.c (.fn a2_k a2_c)))), (8, iA (a0.length : Int)), (9, iA u19)]
    let q31_g : Hp := []
    let q31_f' : Fr := [(6, iA u19), (7, bA v23)]
    let q31_g' : Hp := []
    have R25 : Runs PG 49 0 (cL (cR (cR (cR (cR slices_BinarySearchFunc_api_PinType_api_PinType_string_c))))) q31_f q31_g (.nor q31_f' q31_g') := by
      rcases cnd_e h24 with ⟨h26, h24⟩ | ⟨h26, h24⟩
      · obtain ⟨x27, h28, h24⟩ := bnd_e h24
        obtain ⟨r29, h30, h24⟩ := bnd_e h24
        have h24 := Option.some.inj h24
        subst h24
        exact Runs.path XTok PGmix [.r [.b true, .b true, .b true, .b true, .el (e_PinType x27), .b true, .b true, .b true, .val (iA r29), .b true, .b true]] [] (an h26 (an h26 (an h26 (an h26 (an (idx_ok e_PinType h28) (an h26 (an h26 (an h26 (an (a2_ok x27 a1 r29 h30) (an h26 h26)))))))))) (by kernel_rfl)
      · have h24 := Option.some.inj h24
        subst h24
        exact Runs.path XTok PGmix [.r [.b false, .b false, .b false, .b false, .b false, .b false, .b false, .b false, .b false]] [] (an h26 (an h26 (an h26 (an h26 (an h26 (an h26 (an h26 (an h26 h26)))))))) (by kernel_rfl)
    have h := Option.some.inj h
    subst h
    exact Spec.path XTok PGmix slices_BinarySearchFunc_api_PinType_api_PinType_string_fn 0 [.r [], .r [.eq 13 (iA (a0.length : Int))], .r [], .s (slices_BinarySearchFunc_api_PinType_api_PinType_string_F0 a2_k a2_c a0 a1 0 (a0.length : Int)) (slices_BinarySearchFunc_api_PinType_api_PinType_string_H0 a2_k a2_c a0 a1 0 (a0.length : Int)) [] (slices_BinarySearchFunc_api_PinType_api_PinType_string_B0 a2_k a2_c a0 a1 (u19, u20)), .s q31_f q31_g [] (.nor q31_f' q31_g')] (an (leni_eq e_PinType a0) (an (slices_BinarySearchFunc_api_PinType_api_PinType_string_l0 a2_k a2_c a2 a2_ok a0 a1 0 (a0.length : Int) (.fin (u19, u20)) h21) R25)) (by kernel_rfl)
  · have h := Option.some.inj h
    subst h
    exact Spec.path XTok PGmix slices_BinarySearchFunc_api_PinType_api_PinType_string_fn 0 [.r [], .r [.eq 13 (iA (a0.length : Int))], .r [], .s (slices_BinarySearchFunc_api_PinType_api_PinType_string_F0 a2_k a2_c a0 a1 0 (a0.length : Int)) (slices_BinarySearchFunc_api_PinType_api_PinType_string_H0 a2_k a2_c a0 a1 0 (a0.length : Int)) [] (slices_BinarySearchFunc_api_PinType_api_PinType_string_R r22)] (an (leni_eq e_PinType a0) (slices_BinarySearchFunc_api_PinType_api_PinType_string_l0 a2_k a2_c a2 a2_ok a0 a1 0 (a0.length : Int) (.ret r22) h21)) (by kernel_rfl)

noncomputable def nl_PinAt_1_c : Code := (Go.Proofs.Tryd.f124.body).getD .skip
theorem nl_PinAt_1_fn : FnOk PG 124 nl_PinAt_1_c 9 [.tmp 4] := ⟨⟨Go.Proofs.Tryd.f124, by kernel_rfl, by kernel_rfl, by kernel_rfl, by kernel_rfl, by kernel_rfl⟩⟩
noncomputable def nl_PinAt_1 (a0 : PinType) (a1 : ByteArray) : Option Int :=
 bnd (strings_Compare a0.Name a1) fun r1 =>
 some r1
theorem nl_PinAt_1_ok (a0 : PinType) (a1 : ByteArray) (r : Int) (h : nl_PinAt_1 a0 a1 = some r) : Spec PG 124 [gT (e_PinType a0), sT a1] [] (iA r) [] := by
  unfold nl_PinAt_1 at h
  obtain ⟨r1, h2, h⟩ := bnd_e h
  have h := Option.some.inj h
  subst h
  exact Spec.path XTok PGmix nl_PinAt_1_fn 0 [.r [.id 0], .r [.val (iA r1)]] (strings_Compare_ok a0.Name a1 r1 h2) (by kernel_rfl)

noncomputable def nl_PinAt_c : Code := (Go.Proofs.Tryd.f59.body).getD .skip
theorem nl_PinAt_fn : FnOk PG 59 nl_PinAt_c 17 [.tmp 4] := ⟨⟨Go.Proofs.Tryd.f59, by kernel_rfl, by kernel_rfl, by kernel_rfl, by kernel_rfl, by kernel_rfl⟩⟩
noncomputable def nl_PinAt (a0 : PartType) (a1 : ByteArray) : Option Int :=
 bnd (slices_BinarySearchFunc_api_PinType_api_PinType_string a0.Pins a1 (fun z0 z1 => nl_PinAt_1 z0 z1)) fun r1 =>
 cnd (!r1.2) (some (-1)) (some r1.1)
theorem nl_PinAt_ok (a0 : PartType) (a1 : ByteArray) (r : Int) (h : nl_PinAt a0 a1 = some r) : Spec PG 59 [gT (e_PartType a0), sT a1] [] (iA r) [] := by
  unfold nl_PinAt at h
  obtain ⟨r1, h2, h⟩ := bnd_e h
  rcases cnd_e h with ⟨h3, h⟩ | ⟨h3, h⟩
  · have h := Option.some.inj h
    subst h
    exact Spec.path XTok PGmix nl_PinAt_fn 0 [.r [.id 0], .r [.val (.tup [iT r1.1, bT r1.2])], .r [], .b true, .r []] (an (slices_BinarySearchFunc_api_PinType_api_PinType_string_ok a0.Pins a1 124 [] (fun z0 z1 => nl_PinAt_1 z0 z1) (fun z0 z1 r h => nl_PinAt_1_ok z0 z1 r h) r1 h2) h3) (by kernel_rfl)
  · have h := Option.some.inj h
    subst h
    exact Spec.path XTok PGmix nl_PinAt_fn 0 [.r [.id 0], .r [.val (.tup [iT r1.1, bT r1.2])], .r [], .b false, .r []] (an (slices_BinarySearchFunc_api_PinType_api_PinType_string_ok a0.Pins a1 124 [] (fun z0 z1 => nl_PinAt_1 z0 z1) (fun z0 z1 r h => nl_PinAt_1_ok z0 z1 r h) r1 h2) h3) (by kernel_rfl)

noncomputable def nl_hasPin_c : Code := (Go.Proofs.Tryd.f43.body).getD .skip
theorem nl_hasPin_fn : FnOk PG 43 nl_hasPin_c 30 [.tmp 6] := ⟨⟨Go.Proofs.Tryd.f43, by kernel_rfl, by kernel_rfl, by kernel_rfl, by kernel_rfl, by kernel_rfl⟩⟩
noncomputable def nl_hasPin (a0 : List PartType) (a1 : List Part) (a2 : Pin) : Option Bool :=
 bnd (nl_partAt a1 a2.Part) fun r1 =>
 bnd1 (cnd (decide (r1 ≥ 0)) (bnd (atI a1 r1) fun x7 =>
 bnd (nl_TypeAt a0 x7.Type_) fun r9 =>
 bnd (atI a0 r9) fun x11 =>
 bnd (nl_PinAt x11 a2.Pin) fun r13 =>
 some (decide (r13 ≥ 0))) (some false)) fun v3 =>
 some v3
theorem nl_hasPin_ok (a0 : List PartType) (a1 : List Part) (a2 : Pin) (r : Bool) (h : nl_hasPin a0 a1 a2 = some r) : Spec PG 43 [lT 2 (List.map e_PartType a0), lT 2 (List.map e_Part a1), gT (e_Pin a2)] [] (bA r) [] := by
  unfold nl_hasPin at h
  obtain ⟨r1, h2, h⟩ := bnd_e h
  obtain ⟨v3, h4, h⟩ := bnd1_e h
  let q15_f : Fr := [(0, lA 2 (List.map e_PartType a0)), (1, lA 2 (List.map e_Part a1)), (5, .t (.v (.ptr 0 0))), (7, iA r1)]
  let q15_g : Hp := [(0, .cells 28 [.c (sC a2.Part), .c (sC a2.Pin)])]
  let q15_f' : Fr := [(6, bA v3)]
  let q15_g' : Hp := []
  have R5 : Runs PG 30 0 (cL (cR (cR nl_hasPin_c))) q15_f q15_g (.nor q15_f' q15_g') := by
    rcases cnd_e h4 with ⟨h6, h4⟩ | ⟨h6, h4⟩
    · obtain ⟨x7, h8, h4⟩ := bnd_e h4
      obtain ⟨r9, h10, h4⟩ := bnd_e h4
      obtain ⟨x11, h12, h4⟩ := bnd_e h4
      obtain ⟨r13, h14, h4⟩ := bnd_e h4
      have h4 := Option.some.inj h4
      subst h4
      exact Runs.path XTok PGmix [.d [([], []), ([], []), ([], []), ([], [.b true]), ([], [.b true]), ([], [.b true]), ([], [.b true]), ([], [.b true, .el (e_Part x7)]), ([], [.b true]), ([], [.b true]), ([], [.b true, .val (iA r9)]), ([], [.b true, .el (e_PartType x11)]), ([], [.b true]), ([], [.b true]), ([0], [.b true]), ([], [.b true, .val (iA r13)]), ([], [.b true]), ([], [.b true]), ([], [])]] [] (an h6 (an h6 (an h6 (an h6 (an h6 (an (idx_ok e_Part h8) (an h6 (an h6 (an h6 (an (nl_TypeAt_ok a0 x7.Type_ r9 h10) (an h6 (an (idx_ok e_PartType h12) (an h6 (an h6 (an h6 (an h6 (an (nl_PinAt_ok x11 a2.Pin r13 h14) (an h6 h6)))))))))))))))))) (by kernel_rfl)
    · have h4 := Option.some.inj h4
      subst h4
      exact Runs.path XTok PGmix [.d [([], []), ([], []), ([], []), ([], [.b false]), ([], [.b false]), ([], [.b false]), ([], [.b false]), ([], [.b false]), ([], [.b false]), ([], [.b false]), ([], [.b false]), ([], [.b false]), ([], [.b false]), ([], [.b false]), ([], [.b false]), ([], [.b false]), ([], [.b false]), ([], [.b false]), ([], [])]] [] (an h6 (an h6 (an h6 (an h6 (an h6 (an h6 (an h6 (an h6 (an h6 (an h6 (an h6 (an h6 (an h6 (an h6 h6)))))))))))))) (by kernel_rfl)
  have h := Option.some.inj h
  subst h
  exact Spec.path XTok PGmix nl_hasPin_fn 0 [.r [.id 0], .r [.val (iA r1)], .s q15_f q15_g [] (.nor q15_f' q15_g')] (an (nl_partAt_ok a1 a2.Part r1 h2) R5) (by kernel_rfl)

noncomputable def nl_CheckList_1_c : Code := (Go.Proofs.Tryd.f51.body).getD .skip
theorem nl_CheckList_1_fn : FnOk PG 51 nl_CheckList_1_c 10 [.tmp 4] := ⟨⟨Go.Proofs.Tryd.f51, by kernel_rfl, by kernel_rfl, by kernel_rfl, by kernel_rfl, by kernel_rfl⟩⟩
noncomputable def nl_CheckList_1 (a0 : Pin) (a1 : List PartType) (a2 : Netlist) : Option Bool :=
 bnd (nl_hasPin a1 a2.Parts a0) fun r1 =>
 some r1
theorem nl_CheckList_1_ok (a0 : Pin) (a1 : List PartType) (a2 : Netlist) (r : Bool) (h : nl_CheckList_1 a0 a1 a2 = some r) : Spec PG 51 [gT (e_Pin a0), .v (.c (.ptr [.sl 2 (List.map e_PartType a1)])), .v (.c (.ptr (e_Netlist a2)))] [] (bA r) [] := by
  unfold nl_CheckList_1 at h
  obtain ⟨r1, h2, h⟩ := bnd_e h
  have h := Option.some.inj h
  subst h
  exact Spec.path XTok PGmix nl_CheckList_1_fn 0 [.r [.id 0], .r [.val (bA r1)]] (nl_hasPin_ok a1 a2.Parts a0 r1 h2) (by kernel_rfl)

noncomputable def nl_CheckList_c : Code := (Go.Proofs.Tryd.f15.body).getD .skip
theorem nl_CheckList_fn : FnOk PG 15 nl_CheckList_c 71 [.tmp 4] := ⟨⟨Go.Proofs.Tryd.f15, by kernel_rfl, by kernel_rfl, by kernel_rfl, by kernel_rfl, by kernel_rfl⟩⟩
noncomputable def nl_CheckList_c0 : Code := cL (cL (cR (cL (cR (cR (cR (cR (cR nl_CheckList_c))))))))
noncomputable def nl_CheckList_R (r : Int) : Oc := .ret [(4, iA r)] []
noncomputable def nl_CheckList_F0 (a0 : List PartType) (a1 : Netlist) (i8 : Nat) (y9 : List (Pin × Bool)) : Fr := [(2, .t (.v (.c (.ptr [.sl 2 (List.map e_PartType a0)])))), (3, .t (.v (.c (.ptr (e_Netlist a1))))), (7, .t (.v (.rt 2))), (29, lA 3 (List.map e_Net a1.Nets)), (30, iA (a1.Nets.length : Int)), (31, iA (i8 : Int))]
noncomputable def nl_CheckList_H0 (a0 : List PartType) (a1 : Netlist) (i8 : Nat) (y9 : List (Pin × Bool)) : Hp := [(2, .map (keys PG 28) (encM kv_Pin dv_bool y9))]
noncomputable def nl_CheckList_B0 (a0 : List PartType) (a1 : Netlist) (s : (List (Pin × Bool))) : Oc := .ex 0 [] []
noncomputable def nl_CheckList_b0 (a0 : List PartType) (a1 : Netlist) (i8 : Nat) (y9 : List (Pin × Bool)) : Option (Stp (List (Pin × Bool)) Int) :=
 bnd (atI a1.Nets (i8 : Int)) fun x10 =>
 bnd (nl_IsPath x10.Name) fun r12 =>
 cnd (!r12) (some (.ret 5)) (cnd ((x10.Pins.length : Int) == 0) (some (.ret 9)) (bnd (nl_checkNetPins x10.Pins (fun z0 => nl_CheckList_1 z0 a0 a1) y9) fun r16 =>
 cnd (r16.1 != 0) (some (.ret r16.1)) (cnd (decide ((x10.Ports.length : Int) > 0)) (some (.ret 3)) (bnd1 (cnd (decide ((i8 : Int) > 0)) (bnd (atI a1.Nets (w64 ((i8 : Int) - 1))) fun x24 =>
 some (sLe x10.Name x24.Name)) (some false)) fun v20 =>
 cnd v20 (some (.ret 8)) (some (.go r16.2))))))
theorem nl_CheckList_b0_r (a0 : List PartType) (a1 : Netlist) (i8 : Nat) (y9 : List (Pin × Bool)) (o : Stp (List (Pin × Bool)) Int) (hi : i8 < a1.Nets.length) (h : nl_CheckList_b0 a0 a1 i8 y9 = some o) :
    Runs PG 71 0 nl_CheckList_c0 (nl_CheckList_F0 a0 a1 i8 y9) (nl_CheckList_H0 a0 a1 i8 y9) (stpOc (fun s' => .nor (nl_CheckList_F0 a0 a1 (i8 + 1) s') (nl_CheckList_H0 a0 a1 (i8 + 1) s')) (nl_CheckList_B0 a0 a1) nl_CheckList_R o) := by
  unfold nl_CheckList_b0 at h
  refine Runs.len (s := 29) (sz := 3) (xs := List.map e_Net a1.Nets) (by kernel_rfl) fun hl => ?_
  have hM : a1.Nets.length ≤ lim := len_of hl
  obtain ⟨x10, h11, h⟩ := bnd_e h
  obtain ⟨r12, h13, h⟩ := bnd_e h
  rcases cnd_e h with ⟨h14, h⟩ | ⟨h14, h⟩
  · have h := Option.some.inj h
    subst h
    exact Runs.path XTok PGmix [.r [], .b true, .r [.el (e_Net x10), .id 3], .r [.val (bA r12)], .b true, .r []] [] (an (lt_true hi) (an (idx_ok e_Net h11) (an (nl_IsPath_ok x10.Name r12 h13) h14))) (by kernel_rfl)
  · rcases cnd_e h with ⟨h15, h⟩ | ⟨h15, h⟩
    · have h := Option.some.inj h
      subst h
      exact Runs.path XTok PGmix [.r [], .b true, .r [.el (e_Net x10), .id 3], .r [.val (bA r12)], .b false, .r [.eq 42 (iA (x10.Pins.length : Int))], .b true, .r []] [] (an (lt_true hi) (an (idx_ok e_Net h11) (an (nl_IsPath_ok x10.Name r12 h13) (an h14 (an (leni_eq e_Pin x10.Pins) h15))))) (by kernel_rfl)
    · obtain ⟨r16, h17, h⟩ := bnd_e h
      rcases cnd_e h with ⟨h18, h⟩ | ⟨h18, h⟩
      · have h := Option.some.inj h
        subst h
        exact Runs.path XTok PGmix [.r [], .b true, .r [.el (e_Net x10), .id 3], .r [.val (bA r12)], .b false, .r [.eq 42 (iA (x10.Pins.length : Int))], .b false, .r [.call [(0, 2)] [lT 2 (List.map e_Pin x10.Pins), .v (.c (.fn 51 [.ptr [.sl 2 (List.map e_PartType a0)], .ptr (e_Netlist a1)])), .v (.rt 0)] [(0, .map (keys PG 28) (encM kv_Pin dv_bool y9))] (iA r16.1) [(0, .map (keys PG 28) (encM kv_Pin dv_bool r16.2))]], .r [], .b true, .r []] [] (an (lt_true hi) (an (idx_ok e_Net h11) (an (nl_IsPath_ok x10.Name r12 h13) (an h14 (an (leni_eq e_Pin x10.Pins) (an h15 (an (an (nl_checkNetPins_ok x10.Pins 51 [.ptr [.sl 2 (List.map e_PartType a0)], .ptr (e_Netlist a1)] (fun z0 => nl_CheckList_1 z0 a0 a1) (fun z0 r h => nl_CheckList_1_ok z0 a0 a1 r h) y9 r16 h17) (an (Eq.refl ([lT 2 (List.map e_Pin x10.Pins), .v (.c (.fn 51 [.ptr [.sl 2 (List.map e_PartType a0)], .ptr (e_Netlist a1)])), .v (.rt 2)] : List TV)) (Eq.refl (renH (asg [(0, 2)]) [(0, .map (keys PG 28) (encM kv_Pin dv_bool y9))])))) h18))))))) (by kernel_rfl)
      · rcases cnd_e h with ⟨h19, h⟩ | ⟨h19, h⟩
        · have h := Option.some.inj h
          subst h
          exact Runs.path XTok PGmix [.r [], .b true, .r [.el (e_Net x10), .id 3], .r [.val (bA r12)], .b false, .r [.eq 42 (iA (x10.Pins.length : Int))], .b false, .r [.call [(0, 2)] [lT 2 (List.map e_Pin x10.Pins), .v (.c (.fn 51 [.ptr [.sl 2 (List.map e_PartType a0)], .ptr (e_Netlist a1)])), .v (.rt 0)] [(0, .map (keys PG 28) (encM kv_Pin dv_bool y9))] (iA r16.1) [(0, .map (keys PG 28) (encM kv_Pin dv_bool r16.2))]], .r [], .b false, .r [.eq 54 (iA (x10.Ports.length : Int))], .b true, .r []] [] (an (lt_true hi) (an (idx_ok e_Net h11) (an (nl_IsPath_ok x10.Name r12 h13) (an h14 (an (leni_eq e_Pin x10.Pins) (an h15 (an (an (nl_checkNetPins_ok x10.Pins 51 [.ptr [.sl 2 (List.map e_PartType a0)], .ptr (e_Netlist a1)] (fun z0 => nl_CheckList_1 z0 a0 a1) (fun z0 r h => nl_CheckList_1_ok z0 a0 a1 r h) y9 r16 h17) (an (Eq.refl ([lT 2 (List.map e_Pin x10.Pins), .v (.c (.fn 51 [.ptr [.sl 2 (List.map e_PartType a0)], .ptr (e_Netlist a1)])), .v (.rt 2)] : List TV)) (Eq.refl (renH (asg [(0, 2)]) [(0, .map (keys PG 28) (encM kv_Pin dv_bool y9))])))) (an h18 (an (leni_eq e_str x10.Ports) h19))))))))) (by kernel_rfl)
        · obtain ⟨v20, h21, h⟩ := bnd1_e h
          let q26_f : Fr := [(2, .t (.v (.c (.ptr [.sl 2 (List.map e_PartType a0)])))), (3, .t (.v (.c (.ptr (e_Netlist a1))))), (7, .t (.v (.rt 2))), (8, iA (i8 : Int)), (9, .t (.v (.ptr 3 0))), (29, lA 3 (List.map e_Net a1.Nets)), (30, iA (a1.Nets.length : Int)), (31, iA (i8 : Int))]
          let q26_g : Hp := [(2, .map (keys PG 28) (encM kv_Pin dv_bool r16.2)), (3, .cells 64 [.c (sC x10.Name), .c (.sl 2 (List.map e_Pin x10.Pins)), .c (.sl 1 (List.map e_str x10.Ports))])]
          let q26_f' : Fr := [(2, .t (.v (.c (.ptr [.sl 2 (List.map e_PartType a0)])))), (3, .t (.v (.c (.ptr (e_Netlist a1))))), (7, .t (.v (.rt 2))), (29, lA 3 (List.map e_Net a1.Nets)), (30, iA (a1.Nets.length : Int)), (31, iA (i8 : Int)), (69, bA v20)]
          let q26_g' : Hp := [(2, .map (keys PG 28) (encM kv_Pin dv_bool r16.2))]
          have R22 : Runs PG 71 0 (cL (cR (cR (cR (cR (cR (cL (cL (cR (cR nl_CheckList_c0)))))))))) q26_f q26_g (.nor q26_f' q26_g') := by
            rcases cnd_e h21 with ⟨h23, h21⟩ | ⟨h23, h21⟩
            · obtain ⟨x24, h25, h21⟩ := bnd_e h21
              have h21 := Option.some.inj h21
              subst h21
              exact Runs.path XTok PGmix [.d [([], []), ([], []), ([], []), ([], [.b true]), ([3], [.b true]), ([], [.b true]), ([], [.b true]), ([], [.b true]), ([], [.b true]), ([], [.b true, .el (e_Net x24)]), ([], [.b true]), ([], [.b true]), ([], [.b true]), ([], [.b true])]] [] (an h23 (an h23 (an h23 (an h23 (an h23 (an h23 (an h23 (an (idx_ok e_Net h25) (an h23 (an h23 (an h23 h23))))))))))) (by kernel_rfl)
            · have h21 := Option.some.inj h21
              subst h21
              exact Runs.path XTok PGmix [.d [([], []), ([], []), ([], []), ([], [.b false]), ([], [.b false]), ([], [.b false]), ([], [.b false]), ([], [.b false]), ([], [.b false]), ([], [.b false]), ([], [.b false]), ([], [.b false]), ([], [.b false]), ([], [.b false])]] [] (an h23 (an h23 (an h23 (an h23 (an h23 (an h23 (an h23 (an h23 (an h23 (an h23 h23)))))))))) (by kernel_rfl)
          rcases cnd_e h with ⟨h27, h⟩ | ⟨h27, h⟩
          · have h := Option.some.inj h
            subst h
            exact Runs.path XTok PGmix [.r [], .b true, .r [.el (e_Net x10), .id 3], .r [.val (bA r12)], .b false, .r [.eq 42 (iA (x10.Pins.length : Int))], .b false, .r [.call [(0, 2)] [lT 2 (List.map e_Pin x10.Pins), .v (.c (.fn 51 [.ptr [.sl 2 (List.map e_PartType a0)], .ptr (e_Netlist a1)])), .v (.rt 0)] [(0, .map (keys PG 28) (encM kv_Pin dv_bool y9))] (iA r16.1) [(0, .map (keys PG 28) (encM kv_Pin dv_bool r16.2))]], .r [], .b false, .r [.eq 54 (iA (x10.Ports.length : Int))], .b false, .s q26_f q26_g [] (.nor q26_f' q26_g'), .b true, .r []] [] (an (lt_true hi) (an (idx_ok e_Net h11) (an (nl_IsPath_ok x10.Name r12 h13) (an h14 (an (leni_eq e_Pin x10.Pins) (an h15 (an (an (nl_checkNetPins_ok x10.Pins 51 [.ptr [.sl 2 (List.map e_PartType a0)], .ptr (e_Netlist a1)] (fun z0 => nl_CheckList_1 z0 a0 a1) (fun z0 r h => nl_CheckList_1_ok z0 a0 a1 r h) y9 r16 h17) (an (Eq.refl ([lT 2 (List.map e_Pin x10.Pins), .v (.c (.fn 51 [.ptr [.sl 2 (List.map e_PartType a0)], .ptr (e_Netlist a1)])), .v (.rt 2)] : List TV)) (Eq.refl (renH (asg [(0, 2)]) [(0, .map (keys PG 28) (encM kv_Pin dv_bool y9))])))) (an h18 (an (leni_eq e_str x10.Ports) (an h19 (an R22 h27))))))))))) (by kernel_rfl)
          · have h := Option.some.inj h
            subst h
            exact Runs.path XTok PGmix [.r [], .b true, .r [.el (e_Net x10), .id 3], .r [.val (bA r12)], .b false, .r [.eq 42 (iA (x10.Pins.length : Int))], .b false, .r [.call [(0, 2)] [lT 2 (List.map e_Pin x10.Pins), .v (.c (.fn 51 [.ptr [.sl 2 (List.map e_PartType a0)], .ptr (e_Netlist a1)])), .v (.rt 0)] [(0, .map (keys PG 28) (encM kv_Pin dv_bool y9))] (iA r16.1) [(0, .map (keys PG 28) (encM kv_Pin dv_bool r16.2))]], .r [], .b false, .r [.eq 54 (iA (x10.Ports.length : Int))], .b false, .s q26_f q26_g [] (.nor q26_f' q26_g'), .b false, .r [.eq 70 (iA ((i8 + 1 : Nat) : Int))]] [] (an (lt_true hi) (an (idx_ok e_Net h11) (an (nl_IsPath_ok x10.Name r12 h13) (an h14 (an (leni_eq e_Pin x10.Pins) (an h15 (an (an (nl_checkNetPins_ok x10.Pins 51 [.ptr [.sl 2 (List.map e_PartType a0)], .ptr (e_Netlist a1)] (fun z0 => nl_CheckList_1 z0 a0 a1) (fun z0 r h => nl_CheckList_1_ok z0 a0 a1 r h) y9 r16 h17) (an (Eq.refl ([lT 2 (List.map e_Pin x10.Pins), .v (.c (.fn 51 [.ptr [.sl 2 (List.map e_PartType a0)], .ptr (e_Netlist a1)])), .v (.rt 2)] : List TV)) (Eq.refl (renH (asg [(0, 2)]) [(0, .map (keys PG 28) (encM kv_Pin dv_bool y9))])))) (an h18 (an (leni_eq e_str x10.Ports) (an h19 (an R22 (an h27 (wrap_eq hi hM))))))))))))) (by kernel_rfl)
theorem nl_CheckList_b0_e (a0 : List PartType) (a1 : Netlist) (y9 : List (Pin × Bool)) : Runs PG 71 0 nl_CheckList_c0 (nl_CheckList_F0 a0 a1 (a1.Nets.length) y9) (nl_CheckList_H0 a0 a1 (a1.Nets.length) y9) (nl_CheckList_B0 a0 a1 y9) := by
  exact Runs.path XTok PGmix [.r [], .b false] [] (lt_false (a1.Nets.length)) (by kernel_rfl)
theorem nl_CheckList_l0 (a0 : List PartType) (a1 : Netlist) (y9 : List (Pin × Bool)) (r : Fin' (List (Pin × Bool)) Int) (h : forN (fun i8 s => nl_CheckList_b0 a0 a1 i8 s) (a1.Nets.length) 0 y9 = some r) : Runs PG 71 0 (cL (cR (cL (cR (cR (cR (cR (cR nl_CheckList_c)))))))) (nl_CheckList_F0 a0 a1 0 y9) (nl_CheckList_H0 a0 a1 0 y9) (finOc (nl_CheckList_B0 a0 a1) nl_CheckList_R r) :=
  Runs.loop' (by kernel_rfl) (forN_rounds (σ := (List (Pin × Bool))) (ρ := Int) (body := fun i8 s => nl_CheckList_b0 a0 a1 i8 s) (F := fun i8 s => nl_CheckList_F0 a0 a1 i8 s) (H := fun i8 s => nl_CheckList_H0 a0 a1 i8 s) (B := nl_CheckList_B0 a0 a1) (R := nl_CheckList_R) (M := a1.Nets.length) (fun _ => rfl) (fun _ => rfl) (fun s => nl_CheckList_b0_e a0 a1 s) (fun i s o hi h => nl_CheckList_b0_r a0 a1 i s o hi h) _ 0 _ r (Nat.zero_add _) h)
noncomputable def nl_CheckList (a0 : List PartType) (a1 : Netlist) : Option Int :=
 bnd (nl_CheckTypes a0) fun r1 =>
 cnd (r1 != 0) (some r1) (bnd (nl_checkParts a0 a1.Parts (fun z0 => nl_IsPath z0)) fun r4 =>
 cnd (r4 != 0) (some r4) (cnd (decide ((a1.Nets.length : Int) > 1000)) (some 2) (aft1 (forN (fun i8 s => nl_CheckList_b0 a0 a1 i8 s) (a1.Nets.length) 0 []) (fun u28 =>
 some 0)
 (fun r30 =>
 some r30))))
theorem nl_CheckList_ok (a0 : List PartType) (a1 : Netlist) (r : Int) (h : nl_CheckList a0 a1 = some r) : Spec PG 15 [lT 2 (List.map e_PartType a0), gT (e_Netlist a1)] [] (iA r) [] := by
  unfold nl_CheckList at h
  obtain ⟨r1, h2, h⟩ := bnd_e h
  rcases cnd_e h with ⟨h3, h⟩ | ⟨h3, h⟩
  · have h := Option.some.inj h
    subst h
    exact Spec.path XTok PGmix nl_CheckList_fn 0 [.r [.id 0, .id 1], .r [.val (iA r1)], .r [], .b true, .r []] (an (nl_CheckTypes_ok a0 r1 h2) h3) (by kernel_rfl)
  · obtain ⟨r4, h5, h⟩ := bnd_e h
    rcases cnd_e h with ⟨h6, h⟩ | ⟨h6, h⟩
    · have h := Option.some.inj h
      subst h
      exact Spec.path XTok PGmix nl_CheckList_fn 0 [.r [.id 0, .id 1], .r [.val (iA r1)], .r [], .b false, .r [.val (iA r4)], .r [], .b true, .r []] (an (nl_CheckTypes_ok a0 r1 h2) (an h3 (an (nl_checkParts_ok a0 a1.Parts 49 [] (fun z0 => nl_IsPath z0) (fun z0 r h => nl_IsPath_ok z0 r h) r4 h5) h6))) (by kernel_rfl)
    · rcases cnd_e h with ⟨h7, h⟩ | ⟨h7, h⟩
      · have h := Option.some.inj h
        subst h
        exact Spec.path XTok PGmix nl_CheckList_fn 0 [.r [.id 0, .id 1], .r [.val (iA r1)], .r [], .b false, .r [.val (iA r4)], .r [], .b false, .r [.eq 25 (iA (a1.Nets.length : Int))], .b true, .r []] (an (nl_CheckTypes_ok a0 r1 h2) (an h3 (an (nl_checkParts_ok a0 a1.Parts 49 [] (fun z0 => nl_IsPath z0) (fun z0 r h => nl_IsPath_ok z0 r h) r4 h5) (an h6 (an (leni_eq e_Net a1.Nets) h7))))) (by kernel_rfl)
      · rcases aft1_e h with ⟨u28, h29, h⟩ | ⟨r30, h29, h⟩
        · have h := Option.some.inj h
          subst h
          exact Spec.path XTok PGmix nl_CheckList_fn 0 [.r [.id 0, .id 1], .r [.val (iA r1)], .r [], .b false, .r [.val (iA r4)], .r [], .b false, .r [.eq 25 (iA (a1.Nets.length : Int))], .b false, .r [.id 2], .r [.eq 30 (iA (a1.Nets.length : Int))], .fb 0, .fb 1, .s (nl_CheckList_F0 a0 a1 0 []) (nl_CheckList_H0 a0 a1 0 []) [] (nl_CheckList_B0 a0 a1 u28), .r []] (an (nl_CheckTypes_ok a0 r1 h2) (an h3 (an (nl_checkParts_ok a0 a1.Parts 49 [] (fun z0 => nl_IsPath z0) (fun z0 r h => nl_IsPath_ok z0 r h) r4 h5) (an h6 (an (leni_eq e_Net a1.Nets) (an h7 (an (leni_eq e_Net a1.Nets) (nl_CheckList_l0 a0 a1 [] (.fin u28) h29)))))))) (by kernel_rfl)
        · have h := Option.some.inj h
          subst h
          exact Spec.path XTok PGmix nl_CheckList_fn 0 [.r [.id 0, .id 1], .r [.val (iA r1)], .r [], .b false, .r [.val (iA r4)], .r [], .b false, .r [.eq 25 (iA (a1.Nets.length : Int))], .b false, .r [.id 2], .r [.eq 30 (iA (a1.Nets.length : Int))], .fb 0, .fb 1, .s (nl_CheckList_F0 a0 a1 0 []) (nl_CheckList_H0 a0 a1 0 []) [] (nl_CheckList_R r30)] (an (nl_CheckTypes_ok a0 r1 h2) (an h3 (an (nl_checkParts_ok a0 a1.Parts 49 [] (fun z0 => nl_IsPath z0) (fun z0 r h => nl_IsPath_ok z0 r h) r4 h5) (an h6 (an (leni_eq e_Net a1.Nets) (an h7 (an (leni_eq e_Net a1.Nets) (nl_CheckList_l0 a0 a1 [] (.ret r30) h29)))))))) (by kernel_rfl)

noncomputable def nl_Nets_c : Code := (Go.Proofs.Tryd.f44.body).getD .skip
theorem nl_Nets_fn : FnOk PG 44 nl_Nets_c 30 [.tmp 2] := ⟨⟨Go.Proofs.Tryd.f44, by kernel_rfl, by kernel_rfl, by kernel_rfl, by kernel_rfl, by kernel_rfl⟩⟩
noncomputable def nl_Nets_c0 : Code := cL (cL (cR (cL (cR (cR nl_Nets_c)))))
noncomputable def nl_Nets_R (r : (List (Pin × Int))) : Oc := .ret [(2, .t (.v (.rt 0)))] [(0, .map (keys PG 28) (encM kv_Pin dv_i64 r))]
noncomputable def nl_Nets_c1 : Code := cL (cL (cR (cR (cL (cL (cR (cR nl_Nets_c0)))))))
noncomputable def nl_Nets_F1 (a0 : Netlist) (i1 : Nat) (x3 : Net) (i5 : Nat) (y6 : List (Pin × Int)) : Fr := [(3, .t (.v (.rt 1))), (4, iA (i1 : Int)), (10, lA 3 (List.map e_Net a0.Nets)), (11, iA (a0.Nets.length : Int)), (12, iA (i1 : Int)), (18, lA 2 (List.map e_Pin x3.Pins)), (19, iA (x3.Pins.length : Int)), (20, iA (i5 : Int))]
noncomputable def nl_Nets_H1 (a0 : Netlist) (i1 : Nat) (x3 : Net) (i5 : Nat) (y6 : List (Pin × Int)) : Hp := [(1, .map (keys PG 28) (encM kv_Pin dv_i64 y6))]
noncomputable def nl_Nets_B1 (a0 : Netlist) (i1 : Nat) (x3 : Net) (s : (List (Pin × Int))) : Oc := .ex 2 [(3, .t (.v (.rt 1))), (10, lA 3 (List.map e_Net a0.Nets)), (11, iA (a0.Nets.length : Int)), (12, iA (i1 : Int))] [(1, .map (keys PG 28) (encM kv_Pin dv_i64 s))]
noncomputable def nl_Nets_b1 (a0 : Netlist) (i1 : Nat) (x3 : Net) (i5 : Nat) (y6 : List (Pin × Int)) : Option (Stp (List (Pin × Int)) (List (Pin × Int))) :=
 bnd (atI x3.Pins (i5 : Int)) fun x7 =>
 some (.go (tput y6 x7 (i1 : Int)))
theorem nl_Nets_b1_r (a0 : Netlist) (i1 : Nat) (x3 : Net) (i5 : Nat) (y6 : List (Pin × Int)) (o : Stp (List (Pin × Int)) (List (Pin × Int))) (hi : i5 < x3.Pins.length) (h : nl_Nets_b1 a0 i1 x3 i5 y6 = some o) :
    Runs PG 30 0 nl_Nets_c1 (nl_Nets_F1 a0 i1 x3 i5 y6) (nl_Nets_H1 a0 i1 x3 i5 y6) (stpOc (fun s' => .nor (nl_Nets_F1 a0 i1 x3 (i5 + 1) s') (nl_Nets_H1 a0 i1 x3 (i5 + 1) s')) (nl_Nets_B1 a0 i1 x3) nl_Nets_R o) := by
  unfold nl_Nets_b1 at h
  refine Runs.len (s := 18) (sz := 2) (xs := List.map e_Pin x3.Pins) (by kernel_rfl) fun hl => ?_
  have hM : x3.Pins.length ≤ lim := len_of hl
  obtain ⟨x7, h8, h⟩ := bnd_e h
  have h := Option.some.inj h
  subst h
  exact Runs.path XTok PGmix [.r [], .b true, .r [.el (e_Pin x7), .id 2], .r [.es (encM kv_Pin dv_i64 (tput y6 x7 (i1 : Int)))], .r [.eq 27 (iA ((i5 + 1 : Nat) : Int))]] [] (an (lt_true hi) (an (idx_ok e_Pin h8) (an (an kd_Pin (an (Eq.refl (keys PG 28)) (an (kf_Pin x7) (put_ok dv_i64 ki_Pin y6 x7 (i1 : Int))))) (wrap_eq hi hM)))) (by kernel_rfl)
theorem nl_Nets_b1_e (a0 : Netlist) (i1 : Nat) (x3 : Net) (y6 : List (Pin × Int)) : Runs PG 30 0 nl_Nets_c1 (nl_Nets_F1 a0 i1 x3 (x3.Pins.length) y6) (nl_Nets_H1 a0 i1 x3 (x3.Pins.length) y6) (nl_Nets_B1 a0 i1 x3 y6) := by
  exact Runs.path XTok PGmix [.r [], .b false] [] (lt_false (x3.Pins.length)) (by kernel_rfl)
theorem nl_Nets_l1 (a0 : Netlist) (i1 : Nat) (x3 : Net) (y6 : List (Pin × Int)) (r : Fin' (List (Pin × Int)) (List (Pin × Int))) (h : forN (fun i5 s => nl_Nets_b1 a0 i1 x3 i5 s) (x3.Pins.length) 0 y6 = some r) : Runs PG 30 0 (cL (cR (cR (cL (cL (cR (cR nl_Nets_c0))))))) (nl_Nets_F1 a0 i1 x3 0 y6) (nl_Nets_H1 a0 i1 x3 0 y6) (finOc (nl_Nets_B1 a0 i1 x3) nl_Nets_R r) :=
  Runs.loop' (by kernel_rfl) (forN_rounds (σ := (List (Pin × Int))) (ρ := (List (Pin × Int))) (body := fun i5 s => nl_Nets_b1 a0 i1 x3 i5 s) (F := fun i5 s => nl_Nets_F1 a0 i1 x3 i5 s) (H := fun i5 s => nl_Nets_H1 a0 i1 x3 i5 s) (B := nl_Nets_B1 a0 i1 x3) (R := nl_Nets_R) (M := x3.Pins.length) (fun _ => rfl) (fun _ => rfl) (fun s => nl_Nets_b1_e a0 i1 x3 s) (fun i s o hi h => nl_Nets_b1_r a0 i1 x3 i s o hi h) _ 0 _ r (Nat.zero_add _) h)
noncomputable def nl_Nets_F0 (a0 : Netlist) (i1 : Nat) (y2 : List (Pin × Int)) : Fr := [(3, .t (.v (.rt 1))), (10, lA 3 (List.map e_Net a0.Nets)), (11, iA (a0.Nets.length : Int)), (12, iA (i1 : Int))]
noncomputable def nl_Nets_H0 (a0 : Netlist) (i1 : Nat) (y2 : List (Pin × Int)) : Hp := [(1, .map (keys PG 28) (encM kv_Pin dv_i64 y2))]
noncomputable def nl_Nets_B0 (a0 : Netlist) (s : (List (Pin × Int))) : Oc := .ex 0 [(3, .t (.v (.rt 1)))] [(1, .map (keys PG 28) (encM kv_Pin dv_i64 s))]
noncomputable def nl_Nets_b0 (a0 : Netlist) (i1 : Nat) (y2 : List (Pin × Int)) : Option (Stp (List (Pin × Int)) (List (Pin × Int))) :=
 bnd (atI a0.Nets (i1 : Int)) fun x3 =>
 aft1 (forN (fun i5 s => nl_Nets_b1 a0 i1 x3 i5 s) (x3.Pins.length) 0 y2) (fun u9 =>
 some (.go u9))
 (fun r11 =>
 some (.ret r11))
theorem nl_Nets_b0_r (a0 : Netlist) (i1 : Nat) (y2 : List (Pin × Int)) (o : Stp (List (Pin × Int)) (List (Pin × Int))) (hi : i1 < a0.Nets.length) (h : nl_Nets_b0 a0 i1 y2 = some o) :
    Runs PG 30 0 nl_Nets_c0 (nl_Nets_F0 a0 i1 y2) (nl_Nets_H0 a0 i1 y2) (stpOc (fun s' => .nor (nl_Nets_F0 a0 (i1 + 1) s') (nl_Nets_H0 a0 (i1 + 1) s')) (nl_Nets_B0 a0) nl_Nets_R o) := by
  unfold nl_Nets_b0 at h
  refine Runs.len (s := 10) (sz := 3) (xs := List.map e_Net a0.Nets) (by kernel_rfl) fun hl => ?_
  have hM : a0.Nets.length ≤ lim := len_of hl
  obtain ⟨x3, h4, h⟩ := bnd_e h
  rcases aft1_e h with ⟨u9, h10, h⟩ | ⟨r11, h10, h⟩
  · have h := Option.some.inj h
    subst h
    exact Runs.path XTok PGmix [.r [], .b true, .r [.el (e_Net x3), .id 2], .r [.eq 19 (iA (x3.Pins.length : Int))], .s (nl_Nets_F1 a0 i1 x3 0 y2) (nl_Nets_H1 a0 i1 x3 0 y2) [] (nl_Nets_B1 a0 i1 x3 u9), .r [.eq 28 (iA ((i1 + 1 : Nat) : Int))]] [] (an (lt_true hi) (an (idx_ok e_Net h4) (an (leni_eq e_Pin x3.Pins) (an (nl_Nets_l1 a0 i1 x3 y2 (.fin u9) h10) (wrap_eq hi hM))))) (by kernel_rfl)
  · have h := Option.some.inj h
    subst h
    exact Runs.path XTok PGmix [.r [], .b true, .r [.el (e_Net x3), .id 2], .r [.eq 19 (iA (x3.Pins.length : Int))], .s (nl_Nets_F1 a0 i1 x3 0 y2) (nl_Nets_H1 a0 i1 x3 0 y2) [] (nl_Nets_R r11)] [] (an (lt_true hi) (an (idx_ok e_Net h4) (an (leni_eq e_Pin x3.Pins) (nl_Nets_l1 a0 i1 x3 y2 (.ret r11) h10)))) (by kernel_rfl)
theorem nl_Nets_b0_e (a0 : Netlist) (y2 : List (Pin × Int)) : Runs PG 30 0 nl_Nets_c0 (nl_Nets_F0 a0 (a0.Nets.length) y2) (nl_Nets_H0 a0 (a0.Nets.length) y2) (nl_Nets_B0 a0 y2) := by
  exact Runs.path XTok PGmix [.r [], .b false] [] (lt_false (a0.Nets.length)) (by kernel_rfl)
theorem nl_Nets_l0 (a0 : Netlist) (y2 : List (Pin × Int)) (r : Fin' (List (Pin × Int)) (List (Pin × Int))) (h : forN (fun i1 s => nl_Nets_b0 a0 i1 s) (a0.Nets.length) 0 y2 = some r) : Runs PG 30 0 (cL (cR (cL (cR (cR nl_Nets_c))))) (nl_Nets_F0 a0 0 y2) (nl_Nets_H0 a0 0 y2) (finOc (nl_Nets_B0 a0) nl_Nets_R r) :=
  Runs.loop' (by kernel_rfl) (forN_rounds (σ := (List (Pin × Int))) (ρ := (List (Pin × Int))) (body := fun i1 s => nl_Nets_b0 a0 i1 s) (F := fun i1 s => nl_Nets_F0 a0 i1 s) (H := fun i1 s => nl_Nets_H0 a0 i1 s) (B := nl_Nets_B0 a0) (R := nl_Nets_R) (M := a0.Nets.length) (fun _ => rfl) (fun _ => rfl) (fun s => nl_Nets_b0_e a0 s) (fun i s o hi h => nl_Nets_b0_r a0 i s o hi h) _ 0 _ r (Nat.zero_add _) h)
noncomputable def nl_Nets (a0 : Netlist) : Option ((List (Pin × Int))) :=
 aft1 (forN (fun i1 s => nl_Nets_b0 a0 i1 s) (a0.Nets.length) 0 []) (fun u12 =>
 some u12)
 (fun r14 =>
 some r14)
theorem nl_Nets_ok (a0 : Netlist) (r : (List (Pin × Int))) (h : nl_Nets a0 = some r) : Spec PG 44 [gT (e_Netlist a0)] [] (.t (.v (.rt 0))) [(0, .map (keys PG 28) (encM kv_Pin dv_i64 r))] := by
  unfold nl_Nets at h
  rcases aft1_e h with ⟨u12, h13, h⟩ | ⟨r14, h13, h⟩
  · have h := Option.some.inj h
    subst h
    exact Spec.path XTok PGmix nl_Nets_fn 0 [.r [.id 0], .r [.id 1], .r [.eq 11 (iA (a0.Nets.length : Int))], .s (nl_Nets_F0 a0 0 []) (nl_Nets_H0 a0 0 []) [] (nl_Nets_B0 a0 u12), .r [], .w [(2, .t (.v (.rt 0)))] [(0, .map (keys PG 28) (encM kv_Pin dv_i64 u12))] [(0, 1)]] (an (leni_eq e_Net a0.Nets) (nl_Nets_l0 a0 [] (.fin u12) h13)) (by kernel_rfl)
  · have h := Option.some.inj h
    subst h
    exact Spec.path XTok PGmix nl_Nets_fn 0 [.r [.id 0], .r [.id 1], .r [.eq 11 (iA (a0.Nets.length : Int))], .s (nl_Nets_F0 a0 0 []) (nl_Nets_H0 a0 0 []) [] (nl_Nets_R r14)] (an (leni_eq e_Net a0.Nets) (nl_Nets_l0 a0 [] (.ret r14) h13)) (by kernel_rfl)

noncomputable def nl_pinsOf_c : Code := (Go.Proofs.Tryd.f74.body).getD .skip
theorem nl_pinsOf_fn : FnOk PG 74 nl_pinsOf_c 31 [.tmp 4] := ⟨⟨Go.Proofs.Tryd.f74, by kernel_rfl, by kernel_rfl, by kernel_rfl, by kernel_rfl, by kernel_rfl⟩⟩
noncomputable def nl_pinsOf_c0 : Code := cL (cL (cR (cL (cR (cR nl_pinsOf_c)))))
noncomputable def nl_pinsOf_R (r : List Pin) : Oc := .ret [(4, lA 2 (List.map e_Pin r))] []
noncomputable def nl_pinsOf_F0 (a1 : Part) (x3 : PartType) (i5 : Nat) (y6 : List Pin) : Fr := [(3, .t (.v (.ptr 0 0))), (5, .t (.v (.rt 1))), (15, lA 3 (List.map e_PinType x3.Pins)), (16, iA (x3.Pins.length : Int)), (17, iA (i5 : Int))]
noncomputable def nl_pinsOf_H0 (a1 : Part) (x3 : PartType) (i5 : Nat) (y6 : List Pin) : Hp := [(0, .cells 73 [.c (sC a1.Name), .c (sC a1.Type_)]), (1, .row 28 2 (List.map e_Pin y6))]
noncomputable def nl_pinsOf_B0 (a1 : Part) (x3 : PartType) (s : List Pin) : Oc := .ex 0 [(5, .t (.v (.rt 1)))] [(1, .row 28 2 (List.map e_Pin s))]
noncomputable def nl_pinsOf_b0 (a1 : Part) (x3 : PartType) (i5 : Nat) (y6 : List Pin) : Option (Stp (List Pin) (List Pin)) :=
 bnd (atI x3.Pins (i5 : Int)) fun x7 =>
 grd (y6.length + [(⟨a1.Name, x7.Name⟩ : Pin)].length ≤ lim) <|
 some (.go (y6 ++ [(⟨a1.Name, x7.Name⟩ : Pin)]))
theorem nl_pinsOf_b0_r (a1 : Part) (x3 : PartType) (i5 : Nat) (y6 : List Pin) (o : Stp (List Pin) (List Pin)) (hi : i5 < x3.Pins.length) (h : nl_pinsOf_b0 a1 x3 i5 y6 = some o) :
    Runs PG 31 0 nl_pinsOf_c0 (nl_pinsOf_F0 a1 x3 i5 y6) (nl_pinsOf_H0 a1 x3 i5 y6) (stpOc (fun s' => .nor (nl_pinsOf_F0 a1 x3 (i5 + 1) s') (nl_pinsOf_H0 a1 x3 (i5 + 1) s')) (nl_pinsOf_B0 a1 x3) nl_pinsOf_R o) := by
  unfold nl_pinsOf_b0 at h
  refine Runs.len (s := 15) (sz := 3) (xs := List.map e_PinType x3.Pins) (by kernel_rfl) fun hl => ?_
  have hM : x3.Pins.length ≤ lim := len_of hl
  obtain ⟨x7, h8, h⟩ := bnd_e h
  obtain ⟨h9, h⟩ := grd_e h
  have h := Option.some.inj h
  subst h
  exact Runs.path XTok PGmix [.r [], .b true, .r [.el (e_PinType x7), .id 2], .r [.id 3, .row (List.map e_Pin [(⟨a1.Name, x7.Name⟩ : Pin)]), .id 4, .row (List.map e_Pin (y6 ++ [(⟨a1.Name, x7.Name⟩ : Pin)]))], .r [.eq 29 (iA ((i5 + 1 : Nat) : Int))]] [(1, 4)] (an (lt_true hi) (an (idx_ok e_PinType h8) (an (Eq.refl (List.flatten (List.map e_Pin [(⟨a1.Name, x7.Name⟩ : Pin)]))) (an (app_ok e_Pin h9) (wrap_eq hi hM))))) (by kernel_rfl)
theorem nl_pinsOf_b0_e (a1 : Part) (x3 : PartType) (y6 : List Pin) : Runs PG 31 0 nl_pinsOf_c0 (nl_pinsOf_F0 a1 x3 (x3.Pins.length) y6) (nl_pinsOf_H0 a1 x3 (x3.Pins.length) y6) (nl_pinsOf_B0 a1 x3 y6) := by
  exact Runs.path XTok PGmix [.r [], .b false] [] (lt_false (x3.Pins.length)) (by kernel_rfl)
theorem nl_pinsOf_l0 (a1 : Part) (x3 : PartType) (y6 : List Pin) (r : Fin' (List Pin) (List Pin)) (h : forN (fun i5 s => nl_pinsOf_b0 a1 x3 i5 s) (x3.Pins.length) 0 y6 = some r) : Runs PG 31 0 (cL (cR (cL (cR (cR nl_pinsOf_c))))) (nl_pinsOf_F0 a1 x3 0 y6) (nl_pinsOf_H0 a1 x3 0 y6) (finOc (nl_pinsOf_B0 a1 x3) nl_pinsOf_R r) :=
  Runs.loop' (by kernel_rfl) (forN_rounds (σ := (List Pin)) (ρ := (List Pin)) (body := fun i5 s => nl_pinsOf_b0 a1 x3 i5 s) (F := fun i5 s => nl_pinsOf_F0 a1 x3 i5 s) (H := fun i5 s => nl_pinsOf_H0 a1 x3 i5 s) (B := nl_pinsOf_B0 a1 x3) (R := nl_pinsOf_R) (M := x3.Pins.length) (fun _ => rfl) (fun _ => rfl) (fun s => nl_pinsOf_b0_e a1 x3 s) (fun i s o hi h => nl_pinsOf_b0_r a1 x3 i s o hi h) _ 0 _ r (Nat.zero_add _) h)
noncomputable def nl_pinsOf (a0 : List PartType) (a1 : Part) : Option (List Pin) :=
 bnd (nl_TypeAt a0 a1.Type_) fun r1 =>
 bnd (atI a0 r1) fun x3 =>
 aft1 (forN (fun i5 s => nl_pinsOf_b0 a1 x3 i5 s) (x3.Pins.length) 0 []) (fun u10 =>
 some u10)
 (fun r12 =>
 some r12)
theorem nl_pinsOf_ok (a0 : List PartType) (a1 : Part) (r : List Pin) (h : nl_pinsOf a0 a1 = some r) : Spec PG 74 [lT 2 (List.map e_PartType a0), gT (e_Part a1)] [] (lA 2 (List.map e_Pin r)) [] := by
  unfold nl_pinsOf at h
  obtain ⟨r1, h2, h⟩ := bnd_e h
  obtain ⟨x3, h4, h⟩ := bnd_e h
  rcases aft1_e h with ⟨u10, h11, h⟩ | ⟨r12, h11, h⟩
  · have h := Option.some.inj h
    subst h
    exact Spec.path XTok PGmix nl_pinsOf_fn 0 [.r [.id 0, .nl 2], .r [.mk 1 28 2], .r [.val (iA r1), .el (e_PartType x3), .eq 16 (iA (x3.Pins.length : Int))], .s (nl_pinsOf_F0 a1 x3 0 []) (nl_pinsOf_H0 a1 x3 0 []) [] (nl_pinsOf_B0 a1 x3 u10), .r [], .f 1] (an (nl_TypeAt_ok a0 a1.Type_ r1 h2) (an (idx_ok e_PartType h4) (an (leni_eq e_PinType x3.Pins) (nl_pinsOf_l0 a1 x3 [] (.fin u10) h11)))) (by kernel_rfl)
  · have h := Option.some.inj h
    subst h
    exact Spec.path XTok PGmix nl_pinsOf_fn 0 [.r [.id 0, .nl 2], .r [.mk 1 28 2], .r [.val (iA r1), .el (e_PartType x3), .eq 16 (iA (x3.Pins.length : Int))], .s (nl_pinsOf_F0 a1 x3 0 []) (nl_pinsOf_H0 a1 x3 0 []) [] (nl_pinsOf_R r12)] (an (nl_TypeAt_ok a0 a1.Type_ r1 h2) (an (idx_ok e_PartType h4) (an (leni_eq e_PinType x3.Pins) (nl_pinsOf_l0 a1 x3 [] (.ret r12) h11)))) (by kernel_rfl)

noncomputable def nl_LooseOf_c : Code := (Go.Proofs.Tryd.f54.body).getD .skip
theorem nl_LooseOf_fn : FnOk PG 54 nl_LooseOf_c 45 [.tmp 4] := ⟨⟨Go.Proofs.Tryd.f54, by kernel_rfl, by kernel_rfl, by kernel_rfl, by kernel_rfl, by kernel_rfl⟩⟩
noncomputable def nl_LooseOf_c0 : Code := cL (cL (cR (cL (cR (cR (cR nl_LooseOf_c))))))
noncomputable def nl_LooseOf_R (r : List Pin) : Oc := .ret [(4, lA 2 (List.map e_Pin r))] []
noncomputable def nl_LooseOf_c1 : Code := cL (cL (cR (cR (cL (cL (cR (cR nl_LooseOf_c0)))))))
noncomputable def nl_LooseOf_F1 (a0 : List PartType) (a1 : Netlist) (r1 : (List (Pin × Int))) (i3 : Nat) (r7 : List Pin) (i9 : Nat) (y10 : List Pin) : Fr := [(0, lA 2 (List.map e_PartType a0)), (5, .t (.v (.rt 1))), (6, .t (.v (.rt 2))), (16, lA 2 (List.map e_Part a1.Parts)), (17, iA (a1.Parts.length : Int)), (18, iA (i3 : Int)), (24, lA 2 (List.map e_Pin r7)), (25, iA (r7.length : Int)), (26, iA (i9 : Int))]
noncomputable def nl_LooseOf_H1 (a0 : List PartType) (a1 : Netlist) (r1 : (List (Pin × Int))) (i3 : Nat) (r7 : List Pin) (i9 : Nat) (y10 : List Pin) : Hp := [(1, .map (keys PG 28) (encM kv_Pin dv_i64 r1)), (2, .row 28 2 (List.map e_Pin y10))]
noncomputable def nl_LooseOf_B1 (a0 : List PartType) (a1 : Netlist) (r1 : (List (Pin × Int))) (i3 : Nat) (r7 : List Pin) (s : List Pin) : Oc := .ex 2 [(0, lA 2 (List.map e_PartType a0)), (5, .t (.v (.rt 1))), (6, .t (.v (.rt 2))), (16, lA 2 (List.map e_Part a1.Parts)), (17, iA (a1.Parts.length : Int)), (18, iA (i3 : Int))] [(1, .map (keys PG 28) (encM kv_Pin dv_i64 r1)), (2, .row 28 2 (List.map e_Pin s))]
noncomputable def nl_LooseOf_b1 (a0 : List PartType) (a1 : Netlist) (r1 : (List (Pin × Int))) (i3 : Nat) (r7 : List Pin) (i9 : Nat) (y10 : List Pin) : Option (Stp (List Pin) (List Pin)) :=
 bnd (atI r7 (i9 : Int)) fun x11 =>
 bnd1 (opt (tlook r1 x11) (fun v16 =>
 some true) (some false)) fun v13 =>
 bnd1 (cnd (!v13) (grd (y10.length + [x11].length ≤ lim) <|
 some (y10 ++ [x11])) (some y10)) fun v19 =>
 some (.go v19)
theorem nl_LooseOf_b1_r (a0 : List PartType) (a1 : Netlist) (r1 : (List (Pin × Int))) (i3 : Nat) (r7 : List Pin) (i9 : Nat) (y10 : List Pin) (o : Stp (List Pin) (List Pin)) (hi : i9 < r7.length) (h : nl_LooseOf_b1 a0 a1 r1 i3 r7 i9 y10 = some o) :
    Runs PG 45 0 nl_LooseOf_c1 (nl_LooseOf_F1 a0 a1 r1 i3 r7 i9 y10) (nl_LooseOf_H1 a0 a1 r1 i3 r7 i9 y10) (stpOc (fun s' => .nor (nl_LooseOf_F1 a0 a1 r1 i3 r7 (i9 + 1) s') (nl_LooseOf_H1 a0 a1 r1 i3 r7 (i9 + 1) s')) (nl_LooseOf_B1 a0 a1 r1 i3 r7) nl_LooseOf_R o) := by
  unfold nl_LooseOf_b1 at h
  refine Runs.len (s := 24) (sz := 2) (xs := List.map e_Pin r7) (by kernel_rfl) fun hl => ?_
  have hM : r7.length ≤ lim := len_of hl
  obtain ⟨x11, h12, h⟩ := bnd_e h
  obtain ⟨v13, h14, h⟩ := bnd1_e h
  let q18_f : Fr := [(0, lA 2 (List.map e_PartType a0)), (5, .t (.v (.rt 1))), (6, .t (.v (.rt 2))), (10, .t (.v (.ptr 3 0))), (16, lA 2 (List.map e_Part a1.Parts)), (17, iA (a1.Parts.length : Int)), (18, iA (i3 : Int)), (24, lA 2 (List.map e_Pin r7)), (25, iA (r7.length : Int)), (26, iA (i9 : Int))]
  let q18_g : Hp := [(1, .map (keys PG 28) (encM kv_Pin dv_i64 r1)), (2, .row 28 2 (List.map e_Pin y10)), (3, .cells 28 [.c (sC x11.Part), .c (sC x11.Pin)])]
  let q18_f' : Fr := [(0, lA 2 (List.map e_PartType a0)), (5, .t (.v (.rt 1))), (6, .t (.v (.rt 2))), (10, .t (.v (.ptr 3 0))), (16, lA 2 (List.map e_Part a1.Parts)), (17, iA (a1.Parts.length : Int)), (18, iA (i3 : Int)), (24, lA 2 (List.map e_Pin r7)), (25, iA (r7.length : Int)), (26, iA (i9 : Int)), (12, bA v13)]
  let q18_g' : Hp := [(1, .map (keys PG 28) (encM kv_Pin dv_i64 r1)), (2, .row 28 2 (List.map e_Pin y10)), (3, .cells 28 [.c (sC x11.Part), .c (sC x11.Pin)])]
  have R15 : Runs PG 45 0 (cL (cR (cL (cL (cR (cR nl_LooseOf_c1)))))) q18_f q18_g (.nor q18_f' q18_g') := by
    rcases opt_e h14 with ⟨v16, h17, h14⟩ | ⟨h17, h14⟩
    · have h14 := Option.some.inj h14
      subst h14
      exact Runs.path XTok PGmix [.r [.look (some (dv_i64 v16))]] [] (an kd_Pin (an (Eq.refl (keys PG 28)) (an (kf_Pin x11) (tl_some dv_i64 ki_Pin h17)))) (by kernel_rfl)
    · have h14 := Option.some.inj h14
      subst h14
      exact Runs.path XTok PGmix [.r [.look (none)]] [] (an kd_Pin (an (Eq.refl (keys PG 28)) (an (kf_Pin x11) (tl_none dv_i64 ki_Pin h17)))) (by kernel_rfl)
  obtain ⟨v19, h20, h⟩ := bnd1_e h
  let q24_f : Fr := [(0, lA 2 (List.map e_PartType a0)), (5, .t (.v (.rt 1))), (6, .t (.v (.rt 2))), (10, .t (.v (.ptr 3 0))), (16, lA 2 (List.map e_Part a1.Parts)), (17, iA (a1.Parts.length : Int)), (18, iA (i3 : Int)), (24, lA 2 (List.map e_Pin r7)), (25, iA (r7.length : Int)), (26, iA (i9 : Int)), (37, bA (!v13))]
  let q24_g : Hp := [(1, .map (keys PG 28) (encM kv_Pin dv_i64 r1)), (2, .row 28 2 (List.map e_Pin y10)), (3, .cells 28 [.c (sC x11.Part), .c (sC x11.Pin)])]
  let q24_f' : Fr := [(0, lA 2 (List.map e_PartType a0)), (5, .t (.v (.rt 1))), (6, .t (.v (.rt 5))), (16, lA 2 (List.map e_Part a1.Parts)), (17, iA (a1.Parts.length : Int)), (18, iA (i3 : Int)), (24, lA 2 (List.map e_Pin r7)), (25, iA (r7.length : Int)), (26, iA (i9 : Int))]
  let q24_g' : Hp := [(1, .map (keys PG 28) (encM kv_Pin dv_i64 r1)), (5, .row 28 2 (List.map e_Pin v19))]
  have R21 : Runs PG 45 0 (cR (cR (cR (cL (cL (cR (cR nl_LooseOf_c1))))))) q24_f q24_g (.nor q24_f' q24_g') := by
    rcases cnd_e h20 with ⟨h22, h20⟩ | ⟨h22, h20⟩
    · obtain ⟨h23, h20⟩ := grd_e h20
      have h20 := Option.some.inj h20
      subst h20
      exact Runs.path XTok PGmix [.b true, .r [.id 4, .row (List.map e_Pin [x11]), .id 5, .row (List.map e_Pin (y10 ++ [x11]))]] [] (an h22 (an (Eq.refl (List.flatten (List.map e_Pin [x11]))) (app_ok e_Pin h23))) (by kernel_rfl)
    · have h20 := Option.some.inj h20
      subst h20
      exact Runs.path XTok PGmix [.b false] [(5, 2)] h22 (by kernel_rfl)
  have h := Option.some.inj h
  subst h
  exact Runs.path XTok PGmix [.r [], .b true, .r [.el (e_Pin x11), .id 3], .s q18_f q18_g [] (.nor q18_f' q18_g'), .r [], .s q24_f q24_g [] (.nor q24_f' q24_g'), .r [.eq 42 (iA ((i9 + 1 : Nat) : Int))]] [(2, 5)] (an (lt_true hi) (an (idx_ok e_Pin h12) (an R15 (an R21 (wrap_eq hi hM))))) (by kernel_rfl)
theorem nl_LooseOf_b1_e (a0 : List PartType) (a1 : Netlist) (r1 : (List (Pin × Int))) (i3 : Nat) (r7 : List Pin) (y10 : List Pin) : Runs PG 45 0 nl_LooseOf_c1 (nl_LooseOf_F1 a0 a1 r1 i3 r7 (r7.length) y10) (nl_LooseOf_H1 a0 a1 r1 i3 r7 (r7.length) y10) (nl_LooseOf_B1 a0 a1 r1 i3 r7 y10) := by
  exact Runs.path XTok PGmix [.r [], .b false] [] (lt_false (r7.length)) (by kernel_rfl)
theorem nl_LooseOf_l1 (a0 : List PartType) (a1 : Netlist) (r1 : (List (Pin × Int))) (i3 : Nat) (r7 : List Pin) (y10 : List Pin) (r : Fin' (List Pin) (List Pin)) (h : forN (fun i9 s => nl_LooseOf_b1 a0 a1 r1 i3 r7 i9 s) (r7.length) 0 y10 = some r) : Runs PG 45 0 (cL (cR (cR (cL (cL (cR (cR nl_LooseOf_c0))))))) (nl_LooseOf_F1 a0 a1 r1 i3 r7 0 y10) (nl_LooseOf_H1 a0 a1 r1 i3 r7 0 y10) (finOc (nl_LooseOf_B1 a0 a1 r1 i3 r7) nl_LooseOf_R r) :=
  Runs.loop' (by kernel_rfl) (forN_rounds (σ := (List Pin)) (ρ := (List Pin)) (body := fun i9 s => nl_LooseOf_b1 a0 a1 r1 i3 r7 i9 s) (F := fun i9 s => nl_LooseOf_F1 a0 a1 r1 i3 r7 i9 s) (H := fun i9 s => nl_LooseOf_H1 a0 a1 r1 i3 r7 i9 s) (B := nl_LooseOf_B1 a0 a1 r1 i3 r7) (R := nl_LooseOf_R) (M := r7.length) (fun _ => rfl) (fun _ => rfl) (fun s => nl_LooseOf_b1_e a0 a1 r1 i3 r7 s) (fun i s o hi h => nl_LooseOf_b1_r a0 a1 r1 i3 r7 i s o hi h) _ 0 _ r (Nat.zero_add _) h)
noncomputable def nl_LooseOf_F0 (a0 : List PartType) (a1 : Netlist) (r1 : (List (Pin × Int))) (i3 : Nat) (y4 : List Pin) : Fr := [(0, lA 2 (List.map e_PartType a0)), (5, .t (.v (.rt 1))), (6, .t (.v (.rt 2))), (16, lA 2 (List.map e_Part a1.Parts)), (17, iA (a1.Parts.length : Int)), (18, iA (i3 : Int))]
noncomputable def nl_LooseOf_H0 (a0 : List PartType) (a1 : Netlist) (r1 : (List (Pin × Int))) (i3 : Nat) (y4 : List Pin) : Hp := [(1, .map (keys PG 28) (encM kv_Pin dv_i64 r1)), (2, .row 28 2 (List.map e_Pin y4))]
noncomputable def nl_LooseOf_B0 (a0 : List PartType) (a1 : Netlist) (r1 : (List (Pin × Int))) (s : List Pin) : Oc := .ex 0 [(6, .t (.v (.rt 2)))] [(2, .row 28 2 (List.map e_Pin s))]
noncomputable def nl_LooseOf_b0 (a0 : List PartType) (a1 : Netlist) (r1 : (List (Pin × Int))) (i3 : Nat) (y4 : List Pin) : Option (Stp (List Pin) (List Pin)) :=
 bnd (atI a1.Parts (i3 : Int)) fun x5 =>
 bnd (nl_pinsOf a0 x5) fun r7 =>
 aft1 (forN (fun i9 s => nl_LooseOf_b1 a0 a1 r1 i3 r7 i9 s) (r7.length) 0 y4) (fun u25 =>
 some (.go u25))
 (fun r27 =>
 some (.ret r27))
theorem nl_LooseOf_b0_r (a0 : List PartType) (a1 : Netlist) (r1 : (List (Pin × Int))) (i3 : Nat) (y4 : List Pin) (o : Stp (List Pin) (List Pin)) (hi : i3 < a1.Parts.length) (h : nl_LooseOf_b0 a0 a1 r1 i3 y4 = some o) :
    Runs PG 45 0 nl_LooseOf_c0 (nl_LooseOf_F0 a0 a1 r1 i3 y4) (nl_LooseOf_H0 a0 a1 r1 i3 y4) (stpOc (fun s' => .nor (nl_LooseOf_F0 a0 a1 r1 (i3 + 1) s') (nl_LooseOf_H0 a0 a1 r1 (i3 + 1) s')) (nl_LooseOf_B0 a0 a1 r1) nl_LooseOf_R o) := by
  unfold nl_LooseOf_b0 at h
  refine Runs.len (s := 16) (sz := 2) (xs := List.map e_Part a1.Parts) (by kernel_rfl) fun hl => ?_
  have hM : a1.Parts.length ≤ lim := len_of hl
  obtain ⟨x5, h6, h⟩ := bnd_e h
  obtain ⟨r7, h8, h⟩ := bnd_e h
  rcases aft1_e h with ⟨u25, h26, h⟩ | ⟨r27, h26, h⟩
  · have h := Option.some.inj h
    subst h
    exact Runs.path XTok PGmix [.r [], .b true, .r [.el (e_Part x5), .id 3], .r [.val (lA 2 (List.map e_Pin r7)), .eq 25 (iA (r7.length : Int))], .s (nl_LooseOf_F1 a0 a1 r1 i3 r7 0 y4) (nl_LooseOf_H1 a0 a1 r1 i3 r7 0 y4) [] (nl_LooseOf_B1 a0 a1 r1 i3 r7 u25), .r [.eq 43 (iA ((i3 + 1 : Nat) : Int))]] [] (an (lt_true hi) (an (idx_ok e_Part h6) (an (nl_pinsOf_ok a0 x5 r7 h8) (an (leni_eq e_Pin r7) (an (nl_LooseOf_l1 a0 a1 r1 i3 r7 y4 (.fin u25) h26) (wrap_eq hi hM)))))) (by kernel_rfl)
  · have h := Option.some.inj h
    subst h
    exact Runs.path XTok PGmix [.r [], .b true, .r [.el (e_Part x5), .id 3], .r [.val (lA 2 (List.map e_Pin r7)), .eq 25 (iA (r7.length : Int))], .s (nl_LooseOf_F1 a0 a1 r1 i3 r7 0 y4) (nl_LooseOf_H1 a0 a1 r1 i3 r7 0 y4) [] (nl_LooseOf_R r27)] [] (an (lt_true hi) (an (idx_ok e_Part h6) (an (nl_pinsOf_ok a0 x5 r7 h8) (an (leni_eq e_Pin r7) (nl_LooseOf_l1 a0 a1 r1 i3 r7 y4 (.ret r27) h26))))) (by kernel_rfl)
theorem nl_LooseOf_b0_e (a0 : List PartType) (a1 : Netlist) (r1 : (List (Pin × Int))) (y4 : List Pin) : Runs PG 45 0 nl_LooseOf_c0 (nl_LooseOf_F0 a0 a1 r1 (a1.Parts.length) y4) (nl_LooseOf_H0 a0 a1 r1 (a1.Parts.length) y4) (nl_LooseOf_B0 a0 a1 r1 y4) := by
  exact Runs.path XTok PGmix [.r [], .b false] [] (lt_false (a1.Parts.length)) (by kernel_rfl)
theorem nl_LooseOf_l0 (a0 : List PartType) (a1 : Netlist) (r1 : (List (Pin × Int))) (y4 : List Pin) (r : Fin' (List Pin) (List Pin)) (h : forN (fun i3 s => nl_LooseOf_b0 a0 a1 r1 i3 s) (a1.Parts.length) 0 y4 = some r) : Runs PG 45 0 (cL (cR (cL (cR (cR (cR nl_LooseOf_c)))))) (nl_LooseOf_F0 a0 a1 r1 0 y4) (nl_LooseOf_H0 a0 a1 r1 0 y4) (finOc (nl_LooseOf_B0 a0 a1 r1) nl_LooseOf_R r) :=
  Runs.loop' (by kernel_rfl) (forN_rounds (σ := (List Pin)) (ρ := (List Pin)) (body := fun i3 s => nl_LooseOf_b0 a0 a1 r1 i3 s) (F := fun i3 s => nl_LooseOf_F0 a0 a1 r1 i3 s) (H := fun i3 s => nl_LooseOf_H0 a0 a1 r1 i3 s) (B := nl_LooseOf_B0 a0 a1 r1) (R := nl_LooseOf_R) (M := a1.Parts.length) (fun _ => rfl) (fun _ => rfl) (fun s => nl_LooseOf_b0_e a0 a1 r1 s) (fun i s o hi h => nl_LooseOf_b0_r a0 a1 r1 i s o hi h) _ 0 _ r (Nat.zero_add _) h)
noncomputable def nl_LooseOf (a0 : List PartType) (a1 : Netlist) : Option (List Pin) :=
 bnd (nl_Nets a1) fun r1 =>
 aft1 (forN (fun i3 s => nl_LooseOf_b0 a0 a1 r1 i3 s) (a1.Parts.length) 0 []) (fun u28 =>
 some u28)
 (fun r30 =>
 some r30)
theorem nl_LooseOf_ok (a0 : List PartType) (a1 : Netlist) (r : List Pin) (h : nl_LooseOf a0 a1 = some r) : Spec PG 54 [lT 2 (List.map e_PartType a0), gT (e_Netlist a1)] [] (lA 2 (List.map e_Pin r)) [] := by
  unfold nl_LooseOf at h
  obtain ⟨r1, h2, h⟩ := bnd_e h
  rcases aft1_e h with ⟨u28, h29, h⟩ | ⟨r30, h29, h⟩
  · have h := Option.some.inj h
    subst h
    exact Spec.path XTok PGmix nl_LooseOf_fn 0 [.r [.id 0, .nl 2], .r [.call [(0, 1)] [gT (e_Netlist a1)] [] (.t (.v (.rt 0))) [(0, .map (keys PG 28) (encM kv_Pin dv_i64 r1))]], .r [.mk 2 28 2], .r [.eq 17 (iA (a1.Parts.length : Int))], .s (nl_LooseOf_F0 a0 a1 r1 0 []) (nl_LooseOf_H0 a0 a1 r1 0 []) [] (nl_LooseOf_B0 a0 a1 r1 u28), .r [], .f 2] (an (an (nl_Nets_ok a1 r1 h2) (an (Eq.refl ([gT (e_Netlist a1)] : List TV)) (Eq.refl (renH (asg [(0, 1)]) [])))) (an (leni_eq e_Part a1.Parts) (nl_LooseOf_l0 a0 a1 r1 [] (.fin u28) h29))) (by kernel_rfl)
  · have h := Option.some.inj h
    subst h
    exact Spec.path XTok PGmix nl_LooseOf_fn 0 [.r [.id 0, .nl 2], .r [.call [(0, 1)] [gT (e_Netlist a1)] [] (.t (.v (.rt 0))) [(0, .map (keys PG 28) (encM kv_Pin dv_i64 r1))]], .r [.mk 2 28 2], .r [.eq 17 (iA (a1.Parts.length : Int))], .s (nl_LooseOf_F0 a0 a1 r1 0 []) (nl_LooseOf_H0 a0 a1 r1 0 []) [] (nl_LooseOf_R r30)] (an (an (nl_Nets_ok a1 r1 h2) (an (Eq.refl ([gT (e_Netlist a1)] : List TV)) (Eq.refl (renH (asg [(0, 1)]) [])))) (an (leni_eq e_Part a1.Parts) (nl_LooseOf_l0 a0 a1 r1 [] (.ret r30) h29))) (by kernel_rfl)

noncomputable def nl_Loose_c : Code := (Go.Proofs.Tryd.f17.body).getD .skip
theorem nl_Loose_fn : FnOk PG 17 nl_Loose_c 16 [.tmp 4, .tmp 5] := ⟨⟨Go.Proofs.Tryd.f17, by kernel_rfl, by kernel_rfl, by kernel_rfl, by kernel_rfl, by kernel_rfl⟩⟩
noncomputable def nl_Loose (a0 : List PartType) (a1 : Netlist) : Option (List Pin × Int) :=
 bnd (nl_CheckList a0 a1) fun r1 =>
 cnd (r1 != 0) (some ([], r1)) (bnd (nl_LooseOf a0 a1) fun r4 =>
 some (r4, 0))
theorem nl_Loose_ok (a0 : List PartType) (a1 : Netlist) (r : List Pin × Int) (h : nl_Loose a0 a1 = some r) : Spec PG 17 [lT 2 (List.map e_PartType a0), gT (e_Netlist a1)] [] (.tup [lT 2 (List.map e_Pin r.1), iT r.2]) [] := by
  unfold nl_Loose at h
  obtain ⟨r1, h2, h⟩ := bnd_e h
  rcases cnd_e h with ⟨h3, h⟩ | ⟨h3, h⟩
  · have h := Option.some.inj h
    subst h
    exact Spec.path XTok PGmix nl_Loose_fn 0 [.r [.id 0, .nl 2], .r [.val (iA r1)], .r [], .b true, .r [.nl 2]] (an (nl_CheckList_ok a0 a1 r1 h2) h3) (by kernel_rfl)
  · obtain ⟨r4, h5, h⟩ := bnd_e h
    have h := Option.some.inj h
    subst h
    exact Spec.path XTok PGmix nl_Loose_fn 0 [.r [.id 0, .nl 2], .r [.val (iA r1)], .r [], .b false, .r [.val (lA 2 (List.map e_Pin r4))]] (an (nl_CheckList_ok a0 a1 r1 h2) (an h3 (nl_LooseOf_ok a0 a1 r4 h5))) (by kernel_rfl)

noncomputable def law_awake_c : Code := (Go.Proofs.Tryd.f20.body).getD .skip
theorem law_awake_fn : FnOk PG 20 law_awake_c 30 [.tmp 0] := ⟨⟨Go.Proofs.Tryd.f20, by kernel_rfl, by kernel_rfl, by kernel_rfl, by kernel_rfl, by kernel_rfl⟩⟩
noncomputable def law_awake : Option Bool :=
 bnd (nl_Loose ([(⟨(⟨#[114]⟩ : ByteArray), [(⟨(⟨#[49]⟩ : ByteArray), 6, 0⟩ : PinType)]⟩ : PartType)]) (⟨[(⟨(⟨#[97]⟩ : ByteArray), (⟨#[114]⟩ : ByteArray)⟩ : Part)], []⟩ : Netlist)) fun r1 =>
 bnd1 (cnd (r1.2 == 0) (cnd ((r1.1.length : Int) == 1) (bnd (atI r1.1 0) fun x8 =>
 some (sEq x8.Part (⟨#[97]⟩ : ByteArray) && (sEq x8.Pin (⟨#[49]⟩ : ByteArray) && true))) (some false)) (some false)) fun v3 =>
 some v3
theorem law_awake_ok (r : Bool) (h : law_awake = some r) : Spec PG 20 [] [] (bA r) [] := by
  unfold law_awake at h
  obtain ⟨r1, h2, h⟩ := bnd_e h
  obtain ⟨v3, h4, h⟩ := bnd1_e h
  let q10_f : Fr := [(2, lA 2 (List.map e_Pin r1.1)), (3, iA r1.2)]
  let q10_g : Hp := []
  let q10_f' : Fr := [(0, bA v3)]
  let q10_g' : Hp := []
  have R5 : Runs PG 30 0 (cL (cR (cR (cR law_awake_c)))) q10_f q10_g (.nor q10_f' q10_g') := by
    rcases cnd_e h4 with ⟨h6, h4⟩ | ⟨h6, h4⟩
    · rcases cnd_e h4 with ⟨h7, h4⟩ | ⟨h7, h4⟩
      · obtain ⟨x8, h9, h4⟩ := bnd_e h4
        have h4 := Option.some.inj h4
        subst h4
        exact Runs.path XTok PGmix [.r [.b true, .b true, .eq 20 (iA (r1.1.length : Int)), .b true, .b true, .b true, .b true, .el (e_Pin x8), .b true, .b true, .b true, .b true]] [] (an h6 (an h6 (an (leni_eq e_Pin r1.1) (an h6 (an h6 (an h7 (an h7 (an (idx_ok e_Pin h9) (an h7 (an h7 (an h7 h7))))))))))) (by kernel_rfl)
      · have h4 := Option.some.inj h4
        subst h4
        exact Runs.path XTok PGmix [.r [.b true, .b true, .eq 20 (iA (r1.1.length : Int)), .b true, .b true, .b false, .b false, .b false, .b false, .b false, .b false]] [] (an h6 (an h6 (an (leni_eq e_Pin r1.1) (an h6 (an h6 (an h7 (an h7 (an h7 (an h7 (an h7 h7)))))))))) (by kernel_rfl)
    · have h4 := Option.some.inj h4
      subst h4
      exact Runs.path XTok PGmix [.r [.b false, .b false, .b false, .b false, .b false, .b false, .b false, .b false, .b false, .b false]] [] (an h6 (an h6 (an h6 (an h6 (an (Eq.refl false) (an (Eq.refl false) (an (Eq.refl false) (an (Eq.refl false) (an (Eq.refl false) (Eq.refl false)))))))))) (by kernel_rfl)
  have h := Option.some.inj h
  subst h
  exact Spec.path XTok PGmix law_awake_fn 0 [.r [], .r [.id 0, .row (List.map e_PinType [(⟨(⟨#[49]⟩ : ByteArray), 6, 0⟩ : PinType)]), .fz 0, .id 0, .row (List.map e_PartType [(⟨(⟨#[114]⟩ : ByteArray), [(⟨(⟨#[49]⟩ : ByteArray), 6, 0⟩ : PinType)]⟩ : PartType)])], .r [.id 1, .row (List.map e_Part [(⟨(⟨#[97]⟩ : ByteArray), (⟨#[114]⟩ : ByteArray)⟩ : Part)]), .fz 0, .fz 1, .val (.tup [lT 2 (List.map e_Pin r1.1), iT r1.2])], .s q10_f q10_g [] (.nor q10_f' q10_g')] (an (Eq.refl (List.flatten (List.map e_PinType [(⟨(⟨#[49]⟩ : ByteArray), 6, 0⟩ : PinType)]))) (an (Eq.refl (List.flatten (List.map e_PartType [(⟨(⟨#[114]⟩ : ByteArray), [(⟨(⟨#[49]⟩ : ByteArray), 6, 0⟩ : PinType)]⟩ : PartType)]))) (an (Eq.refl (List.flatten (List.map e_Part [(⟨(⟨#[97]⟩ : ByteArray), (⟨#[114]⟩ : ByteArray)⟩ : Part)]))) (an (Spec.fit (nl_Loose_ok ([(⟨(⟨#[114]⟩ : ByteArray), [(⟨(⟨#[49]⟩ : ByteArray), 6, 0⟩ : PinType)]⟩ : PartType)]) (⟨[(⟨(⟨#[97]⟩ : ByteArray), (⟨#[114]⟩ : ByteArray)⟩ : Part)], []⟩ : Netlist) r1 h2) (.cons (FitT.v (FitC.same _)) (.cons (FitT.agg (.cons (FitC.same _) (.cons (FitC.nil 3) .nil))) .nil))) R5)))) (by kernel_rfl)

noncomputable def nl_checkTwo_c : Code := (Go.Proofs.Tryd.f72.body).getD .skip
theorem nl_checkTwo_fn : FnOk PG 72 nl_checkTwo_c 17 [.tmp 6] := ⟨⟨Go.Proofs.Tryd.f72, by kernel_rfl, by kernel_rfl, by kernel_rfl, by kernel_rfl, by kernel_rfl⟩⟩
noncomputable def nl_checkTwo (a0 : List PartType) (a1 : Netlist) (a2 : Netlist) : Option Int :=
 bnd (nl_CheckList a0 a1) fun r1 =>
 cnd (r1 != 0) (some r1) (bnd (nl_CheckList a0 a2) fun r4 =>
 some r4)
theorem nl_checkTwo_ok (a0 : List PartType) (a1 : Netlist) (a2 : Netlist) (r : Int) (h : nl_checkTwo a0 a1 a2 = some r) : Spec PG 72 [lT 2 (List.map e_PartType a0), gT (e_Netlist a1), gT (e_Netlist a2)] [] (iA r) [] := by
  unfold nl_checkTwo at h
  obtain ⟨r1, h2, h⟩ := bnd_e h
  rcases cnd_e h with ⟨h3, h⟩ | ⟨h3, h⟩
  · have h := Option.some.inj h
    subst h
    exact Spec.path XTok PGmix nl_checkTwo_fn 0 [.r [.id 0, .id 1], .r [.val (iA r1)], .r [], .b true, .r []] (an (nl_CheckList_ok a0 a1 r1 h2) h3) (by kernel_rfl)
  · obtain ⟨r4, h5, h⟩ := bnd_e h
    have h := Option.some.inj h
    subst h
    exact Spec.path XTok PGmix nl_checkTwo_fn 0 [.r [.id 0, .id 1], .r [.val (iA r1)], .r [], .b false, .r [.val (iA r4)]] (an (nl_CheckList_ok a0 a1 r1 h2) (an h3 (nl_CheckList_ok a0 a2 r4 h5))) (by kernel_rfl)

noncomputable def nl_Changes_1_c : Code := (Go.Proofs.Tryd.f73.body).getD .skip
theorem nl_Changes_1_fn : FnOk PG 73 nl_Changes_1_c 11 [] := ⟨⟨Go.Proofs.Tryd.f73, by kernel_rfl, by kernel_rfl, by kernel_rfl, by kernel_rfl, by kernel_rfl⟩⟩
noncomputable def nl_Changes_1 (a0 : Int) (a1 : ByteArray) (a2 : List ListChange) : Option (List ListChange) :=
 grd (a2.length + ([(⟨a0, a1, (⟨#[]⟩ : ByteArray)⟩ : ListChange)]).length ≤ lim) <|
 some (a2 ++ ([(⟨a0, a1, (⟨#[]⟩ : ByteArray)⟩ : ListChange)]))
theorem nl_Changes_1_ok (a0 : Int) (a1 : ByteArray) (a2 : List ListChange) (r : List ListChange) (h : nl_Changes_1 a0 a1 a2 = some r) : Spec PG 73 [iT a0, sT a1, .v (.ptr 0 0)] [(0, .cells 48 [.rt 1]), (1, .row 53 3 (List.map e_ListChange a2))] (.tup []) [(0, .cells 48 [.rt 2]), (2, .row 53 3 (List.map e_ListChange r))] := by
  unfold nl_Changes_1 at h
  obtain ⟨h1, h⟩ := grd_e h
  have h := Option.some.inj h
  subst h
  exact Spec.path XTok PGmix nl_Changes_1_fn 2 [.w [(0, iA a0), (1, sA a1), (2, .t (.v (.ptr 0 0)))] [(0, .cells 48 [.rt 2]), (2, .row 53 3 (List.map e_ListChange a2))] [(2, 1)], .r [.id 3, .row (List.map e_ListChange [(⟨a0, a1, (⟨#[]⟩ : ByteArray)⟩ : ListChange)]), .id 4, .row (List.map e_ListChange (a2 ++ ([(⟨a0, a1, (⟨#[]⟩ : ByteArray)⟩ : ListChange)])))], .w [] [(2, .row 53 3 (List.map e_ListChange (a2 ++ ([(⟨a0, a1, (⟨#[]⟩ : ByteArray)⟩ : ListChange)])))), (0, .cells 48 [.rt 2])] [(2, 4)]] (an (Eq.refl (List.flatten (List.map e_ListChange [(⟨a0, a1, (⟨#[]⟩ : ByteArray)⟩ : ListChange)]))) (app_ok e_ListChange h1)) (by kernel_rfl)

noncomputable def nl_Changes_c : Code := (Go.Proofs.Tryd.f27.body).getD .skip
theorem nl_Changes_fn : FnOk PG 27 nl_Changes_c 156 [.tmp 6, .tmp 7] := ⟨⟨Go.Proofs.Tryd.f27, by kernel_rfl, by kernel_rfl, by kernel_rfl, by kernel_rfl, by kernel_rfl⟩⟩
noncomputable def nl_Changes_c0 : Code := cL (cL (cR (cL (cR (cR (cR (cR (cR nl_Changes_c))))))))
noncomputable def nl_Changes_R (r : List ListChange × Int) : Oc := .ret [(6, lA 3 (List.map e_ListChange r.1)), (7, iA r.2)] []
noncomputable def nl_Changes_F0 (a0 : List PartType) (a1 : Netlist) (a2 : Netlist) (r4 : (List (Pin × Int))) (r6 : (List (Pin × Int))) (i8 : Nat) (y9 : List ListChange) : Fr := [(0, lA 2 (List.map e_PartType a0)), (4, .t (.v (.ptr 0 0))), (5, .t (.v (.ptr 1 0))), (9, .t (.v (.ptr 2 0))), (10, .t (.v (.rt 3))), (11, .t (.v (.fn 73 [.own 2]))), (12, .t (.v (.rt 5))), (13, .t (.v (.rt 6))), (40, lA 2 (List.map e_Part a2.Parts)), (41, iA (a2.Parts.length : Int)), (42, iA (i8 : Int))]
noncomputable def nl_Changes_H0 (a0 : List PartType) (a1 : Netlist) (a2 : Netlist) (r4 : (List (Pin × Int))) (r6 : (List (Pin × Int))) (i8 : Nat) (y9 : List ListChange) : Hp := [(6, .map (keys PG 28) (encM kv_Pin dv_i64 r6)), (5, .map (keys PG 28) (encM kv_Pin dv_i64 r4)), (0, .cells 26 [.c (.sl 2 (List.map e_Part a1.Parts)), .c (.sl 3 (List.map e_Net a1.Nets))]), (1, .cells 26 [.c (.sl 2 (List.map e_Part a2.Parts)), .c (.sl 3 (List.map e_Net a2.Nets))]), (2, .cells 48 [.rt 4]), (3, .row 53 3 (List.map e_ListChange [])), (4, .row 53 3 (List.map e_ListChange y9))]
noncomputable def nl_Changes_B0 (a0 : List PartType) (a1 : Netlist) (a2 : Netlist) (r4 : (List (Pin × Int))) (r6 : (List (Pin × Int))) (s : List ListChange) : Oc := .ex 0 [(0, lA 2 (List.map e_PartType a0)), (4, .t (.v (.ptr 0 0))), (5, .t (.v (.ptr 1 0))), (9, .t (.v (.ptr 2 0))), (10, .t (.v (.rt 3))), (11, .t (.v (.fn 73 [.own 2]))), (12, .t (.v (.rt 5))), (13, .t (.v (.rt 6)))] [(6, .map (keys PG 28) (encM kv_Pin dv_i64 r6)), (5, .map (keys PG 28) (encM kv_Pin dv_i64 r4)), (0, .cells 26 [.c (.sl 2 (List.map e_Part a1.Parts)), .c (.sl 3 (List.map e_Net a1.Nets))]), (1, .cells 26 [.c (.sl 2 (List.map e_Part a2.Parts)), .c (.sl 3 (List.map e_Net a2.Nets))]), (2, .cells 48 [.rt 4]), (3, .row 53 3 (List.map e_ListChange [])), (4, .row 53 3 (List.map e_ListChange s))]
noncomputable def nl_Changes_b0 (a0 : List PartType) (a1 : Netlist) (a2 : Netlist) (r4 : (List (Pin × Int))) (r6 : (List (Pin × Int))) (i8 : Nat) (y9 : List ListChange) : Option (Stp (List ListChange) (List ListChange × Int)) :=
 bnd (atI a2.Parts (i8 : Int)) fun x10 =>
 bnd (nl_partAt a1.Parts x10.Name) fun r12 =>
 bnd1 (cnd (decide (r12 < 0)) (bnd (nl_Changes_1 1 x10.Name y9) fun r18 =>
 some r18) (some y9)) fun v14 =>
 some (.go v14)
theorem nl_Changes_b0_r (a0 : List PartType) (a1 : Netlist) (a2 : Netlist) (r4 : (List (Pin × Int))) (r6 : (List (Pin × Int))) (i8 : Nat) (y9 : List ListChange) (o : Stp (List ListChange) (List ListChange × Int)) (hi : i8 < a2.Parts.length) (h : nl_Changes_b0 a0 a1 a2 r4 r6 i8 y9 = some o) :
    Runs PG 156 0 nl_Changes_c0 (nl_Changes_F0 a0 a1 a2 r4 r6 i8 y9) (nl_Changes_H0 a0 a1 a2 r4 r6 i8 y9) (stpOc (fun s' => .nor (nl_Changes_F0 a0 a1 a2 r4 r6 (i8 + 1) s') (nl_Changes_H0 a0 a1 a2 r4 r6 (i8 + 1) s')) (nl_Changes_B0 a0 a1 a2 r4 r6) nl_Changes_R o) := by
  unfold nl_Changes_b0 at h
  refine Runs.len (s := 40) (sz := 2) (xs := List.map e_Part a2.Parts) (by kernel_rfl) fun hl => ?_
  have hM : a2.Parts.length ≤ lim := len_of hl
  obtain ⟨x10, h11, h⟩ := bnd_e h
  obtain ⟨r12, h13, h⟩ := bnd_e h
  obtain ⟨v14, h15, h⟩ := bnd1_e h
  let q20_f : Fr := [(0, lA 2 (List.map e_PartType a0)), (4, .t (.v (.ptr 0 0))), (5, .t (.v (.ptr 1 0))), (9, .t (.v (.ptr 2 0))), (10, .t (.v (.rt 3))), (11, .t (.v (.fn 73 [.own 2]))), (12, .t (.v (.rt 5))), (13, .t (.v (.rt 6))), (15, .t (.v (.ptr 7 0))), (40, lA 2 (List.map e_Part a2.Parts)), (41, iA (a2.Parts.length : Int)), (42, iA (i8 : Int)), (51, bA (decide (r12 < 0)))]
  let q20_g : Hp := [(6, .map (keys PG 28) (encM kv_Pin dv_i64 r6)), (5, .map (keys PG 28) (encM kv_Pin dv_i64 r4)), (0, .cells 26 [.c (.sl 2 (List.map e_Part a1.Parts)), .c (.sl 3 (List.map e_Net a1.Nets))]), (1, .cells 26 [.c (.sl 2 (List.map e_Part a2.Parts)), .c (.sl 3 (List.map e_Net a2.Nets))]), (2, .cells 48 [.rt 4]), (3, .row 53 3 (List.map e_ListChange [])), (4, .row 53 3 (List.map e_ListChange y9)), (7, .cells 73 [.c (sC x10.Name), .c (sC x10.Type_)])]
  let q20_f' : Fr := [(0, lA 2 (List.map e_PartType a0)), (4, .t (.v (.ptr 0 0))), (5, .t (.v (.ptr 1 0))), (9, .t (.v (.ptr 2 0))), (10, .t (.v (.rt 3))), (11, .t (.v (.fn 73 [.own 2]))), (12, .t (.v (.rt 5))), (13, .t (.v (.rt 6))), (40, lA 2 (List.map e_Part a2.Parts)), (41, iA (a2.Parts.length : Int)), (42, iA (i8 : Int))]
  let q20_g' : Hp := [(2, .cells 48 [.rt 8]), (8, .row 53 3 (List.map e_ListChange v14)), (6, .map (keys PG 28) (encM kv_Pin dv_i64 r6)), (5, .map (keys PG 28) (encM kv_Pin dv_i64 r4)), (0, .cells 26 [.c (.sl 2 (List.map e_Part a1.Parts)), .c (.sl 3 (List.map e_Net a1.Nets))]), (1, .cells 26 [.c (.sl 2 (List.map e_Part a2.Parts)), .c (.sl 3 (List.map e_Net a2.Nets))]), (3, .row 53 3 (List.map e_ListChange []))]
  have R16 : Runs PG 156 0 (cR (cR (cL (cL (cR (cR nl_Changes_c0)))))) q20_f q20_g (.nor q20_f' q20_g') := by
    rcases cnd_e h15 with ⟨h17, h15⟩ | ⟨h17, h15⟩
    · obtain ⟨r18, h19, h15⟩ := bnd_e h15
      have h15 := Option.some.inj h15
      subst h15
      exact Runs.path XTok PGmix [.b true, .r [.call [(0, 2), (1, 4), (2, 8)] [iT 1, sT x10.Name, .v (.ptr 0 0)] [(0, .cells 48 [.rt 1]), (1, .row 53 3 (List.map e_ListChange y9))] (.tup []) [(0, .cells 48 [.rt 2]), (2, .row 53 3 (List.map e_ListChange r18))]]] [] (an h17 (an (nl_Changes_1_ok 1 x10.Name y9 r18 h19) (an (Eq.refl ([iT 1, sT x10.Name, .v (.ptr 2 0)] : List TV)) (Eq.refl (renH (asg [(0, 2), (1, 4), (2, 8)]) [(0, .cells 48 [.rt 1]), (1, .row 53 3 (List.map e_ListChange y9))]))))) (by kernel_rfl)
    · have h15 := Option.some.inj h15
      subst h15
      exact Runs.path XTok PGmix [.b false] [(8, 4)] h17 (by kernel_rfl)
  have h := Option.some.inj h
  subst h
  exact Runs.path XTok PGmix [.r [], .b true, .r [.el (e_Part x10), .id 7], .r [.val (iA r12)], .s q20_f q20_g [] (.nor q20_f' q20_g'), .r [.eq 56 (iA ((i8 + 1 : Nat) : Int))]] [(4, 8)] (an (lt_true hi) (an (idx_ok e_Part h11) (an (nl_partAt_ok a1.Parts x10.Name r12 h13) (an R16 (wrap_eq hi hM))))) (by kernel_rfl)
theorem nl_Changes_b0_e (a0 : List PartType) (a1 : Netlist) (a2 : Netlist) (r4 : (List (Pin × Int))) (r6 : (List (Pin × Int))) (y9 : List ListChange) : Runs PG 156 0 nl_Changes_c0 (nl_Changes_F0 a0 a1 a2 r4 r6 (a2.Parts.length) y9) (nl_Changes_H0 a0 a1 a2 r4 r6 (a2.Parts.length) y9) (nl_Changes_B0 a0 a1 a2 r4 r6 y9) := by
  exact Runs.path XTok PGmix [.r [], .b false] [] (lt_false (a2.Parts.length)) (by kernel_rfl)
theorem nl_Changes_l0 (a0 : List PartType) (a1 : Netlist) (a2 : Netlist) (r4 : (List (Pin × Int))) (r6 : (List (Pin × Int))) (y9 : List ListChange) (r : Fin' (List ListChange) (List ListChange × Int)) (h : forN (fun i8 s => nl_Changes_b0 a0 a1 a2 r4 r6 i8 s) (a2.Parts.length) 0 y9 = some r) : Runs PG 156 0 (cL (cR (cL (cR (cR (cR (cR (cR nl_Changes_c)))))))) (nl_Changes_F0 a0 a1 a2 r4 r6 0 y9) (nl_Changes_H0 a0 a1 a2 r4 r6 0 y9) (finOc (nl_Changes_B0 a0 a1 a2 r4 r6) nl_Changes_R r) :=
  Runs.loop' (by kernel_rfl) (forN_rounds (σ := (List ListChange)) (ρ := (List ListChange × Int)) (body := fun i8 s => nl_Changes_b0 a0 a1 a2 r4 r6 i8 s) (F := fun i8 s => nl_Changes_F0 a0 a1 a2 r4 r6 i8 s) (H := fun i8 s => nl_Changes_H0 a0 a1 a2 r4 r6 i8 s) (B := nl_Changes_B0 a0 a1 a2 r4 r6) (R := nl_Changes_R) (M := a2.Parts.length) (fun _ => rfl) (fun _ => rfl) (fun s => nl_Changes_b0_e a0 a1 a2 r4 r6 s) (fun i s o hi h => nl_Changes_b0_r a0 a1 a2 r4 r6 i s o hi h) _ 0 _ r (Nat.zero_add _) h)
noncomputable def nl_Changes_c1 : Code := cL (cL (cR (cL (cR (cR (cR (cR (cR (cR nl_Changes_c)))))))))
noncomputable def nl_Changes_F1 (a0 : List PartType) (a1 : Netlist) (a2 : Netlist) (r4 : (List (Pin × Int))) (r6 : (List (Pin × Int))) (i24 : Nat) (y25 : List ListChange) : Fr := [(0, lA 2 (List.map e_PartType a0)), (4, .t (.v (.ptr 0 0))), (5, .t (.v (.ptr 1 0))), (9, .t (.v (.ptr 2 0))), (10, .t (.v (.rt 3))), (11, .t (.v (.fn 73 [.own 2]))), (12, .t (.v (.rt 5))), (13, .t (.v (.rt 6))), (58, lA 2 (List.map e_Part a1.Parts)), (59, iA (a1.Parts.length : Int)), (60, iA (i24 : Int))]
noncomputable def nl_Changes_H1 (a0 : List PartType) (a1 : Netlist) (a2 : Netlist) (r4 : (List (Pin × Int))) (r6 : (List (Pin × Int))) (i24 : Nat) (y25 : List ListChange) : Hp := [(6, .map (keys PG 28) (encM kv_Pin dv_i64 r6)), (5, .map (keys PG 28) (encM kv_Pin dv_i64 r4)), (0, .cells 26 [.c (.sl 2 (List.map e_Part a1.Parts)), .c (.sl 3 (List.map e_Net a1.Nets))]), (1, .cells 26 [.c (.sl 2 (List.map e_Part a2.Parts)), .c (.sl 3 (List.map e_Net a2.Nets))]), (2, .cells 48 [.rt 4]), (3, .row 53 3 (List.map e_ListChange [])), (4, .row 53 3 (List.map e_ListChange y25))]
noncomputable def nl_Changes_B1 (a0 : List PartType) (a1 : Netlist) (a2 : Netlist) (r4 : (List (Pin × Int))) (r6 : (List (Pin × Int))) (s : List ListChange) : Oc := .ex 2 [(0, lA 2 (List.map e_PartType a0)), (4, .t (.v (.ptr 0 0))), (5, .t (.v (.ptr 1 0))), (9, .t (.v (.ptr 2 0))), (10, .t (.v (.rt 3))), (11, .t (.v (.fn 73 [.own 2]))), (12, .t (.v (.rt 5))), (13, .t (.v (.rt 6)))] [(6, .map (keys PG 28) (encM kv_Pin dv_i64 r6)), (5, .map (keys PG 28) (encM kv_Pin dv_i64 r4)), (0, .cells 26 [.c (.sl 2 (List.map e_Part a1.Parts)), .c (.sl 3 (List.map e_Net a1.Nets))]), (1, .cells 26 [.c (.sl 2 (List.map e_Part a2.Parts)), .c (.sl 3 (List.map e_Net a2.Nets))]), (2, .cells 48 [.rt 4]), (3, .row 53 3 (List.map e_ListChange [])), (4, .row 53 3 (List.map e_ListChange s))]
noncomputable def nl_Changes_b1 (a0 : List PartType) (a1 : Netlist) (a2 : Netlist) (r4 : (List (Pin × Int))) (r6 : (List (Pin × Int))) (i24 : Nat) (y25 : List ListChange) : Option (Stp (List ListChange) (List ListChange × Int)) :=
 bnd (atI a1.Parts (i24 : Int)) fun x26 =>
 bnd (nl_partAt a2.Parts x26.Name) fun r28 =>
 bnd1 (cnd (decide (r28 < 0)) (bnd (nl_Changes_1 2 x26.Name y25) fun r34 =>
 some r34) (some y25)) fun v30 =>
 some (.go v30)
theorem nl_Changes_b1_r (a0 : List PartType) (a1 : Netlist) (a2 : Netlist) (r4 : (List (Pin × Int))) (r6 : (List (Pin × Int))) (i24 : Nat) (y25 : List ListChange) (o : Stp (List ListChange) (List ListChange × Int)) (hi : i24 < a1.Parts.length) (h : nl_Changes_b1 a0 a1 a2 r4 r6 i24 y25 = some o) :
    Runs PG 156 0 nl_Changes_c1 (nl_Changes_F1 a0 a1 a2 r4 r6 i24 y25) (nl_Changes_H1 a0 a1 a2 r4 r6 i24 y25) (stpOc (fun s' => .nor (nl_Changes_F1 a0 a1 a2 r4 r6 (i24 + 1) s') (nl_Changes_H1 a0 a1 a2 r4 r6 (i24 + 1) s')) (nl_Changes_B1 a0 a1 a2 r4 r6) nl_Changes_R o) := by
  unfold nl_Changes_b1 at h
  refine Runs.len (s := 58) (sz := 2) (xs := List.map e_Part a1.Parts) (by kernel_rfl) fun hl => ?_
  have hM : a1.Parts.length ≤ lim := len_of hl
  obtain ⟨x26, h27, h⟩ := bnd_e h
  obtain ⟨r28, h29, h⟩ := bnd_e h
  obtain ⟨v30, h31, h⟩ := bnd1_e h
  let q36_f : Fr := [(0, lA 2 (List.map e_PartType a0)), (4, .t (.v (.ptr 0 0))), (5, .t (.v (.ptr 1 0))), (9, .t (.v (.ptr 2 0))), (10, .t (.v (.rt 3))), (11, .t (.v (.fn 73 [.own 2]))), (12, .t (.v (.rt 5))), (13, .t (.v (.rt 6))), (17, .t (.v (.ptr 7 0))), (58, lA 2 (List.map e_Part a1.Parts)), (59, iA (a1.Parts.length : Int)), (60, iA (i24 : Int)), (69, bA (decide (r28 < 0)))]
  let q36_g : Hp := [(6, .map (keys PG 28) (encM kv_Pin dv_i64 r6)), (5, .map (keys PG 28) (encM kv_Pin dv_i64 r4)), (0, .cells 26 [.c (.sl 2 (List.map e_Part a1.Parts)), .c (.sl 3 (List.map e_Net a1.Nets))]), (1, .cells 26 [.c (.sl 2 (List.map e_Part a2.Parts)), .c (.sl 3 (List.map e_Net a2.Nets))]), (2, .cells 48 [.rt 4]), (3, .row 53 3 (List.map e_ListChange [])), (4, .row 53 3 (List.map e_ListChange y25)), (7, .cells 73 [.c (sC x26.Name), .c (sC x26.Type_)])]
  let q36_f' : Fr := [(0, lA 2 (List.map e_PartType a0)), (4, .t (.v (.ptr 0 0))), (5, .t (.v (.ptr 1 0))), (9, .t (.v (.ptr 2 0))), (10, .t (.v (.rt 3))), (11, .t (.v (.fn 73 [.own 2]))), (12, .t (.v (.rt 5))), (13, .t (.v (.rt 6))), (58, lA 2 (List.map e_Part a1.Parts)), (59, iA (a1.Parts.length : Int)), (60, iA (i24 : Int))]
  let q36_g' : Hp := [(2, .cells 48 [.rt 8]), (8, .row 53 3 (List.map e_ListChange v30)), (6, .map (keys PG 28) (encM kv_Pin dv_i64 r6)), (5, .map (keys PG 28) (encM kv_Pin dv_i64 r4)), (0, .cells 26 [.c (.sl 2 (List.map e_Part a1.Parts)), .c (.sl 3 (List.map e_Net a1.Nets))]), (1, .cells 26 [.c (.sl 2 (List.map e_Part a2.Parts)), .c (.sl 3 (List.map e_Net a2.Nets))]), (3, .row 53 3 (List.map e_ListChange []))]
  have R32 : Runs PG 156 0 (cR (cR (cL (cL (cR (cR nl_Changes_c1)))))) q36_f q36_g (.nor q36_f' q36_g') := by
    rcases cnd_e h31 with ⟨h33, h31⟩ | ⟨h33, h31⟩
    · obtain ⟨r34, h35, h31⟩ := bnd_e h31
      have h31 := Option.some.inj h31
      subst h31
      exact Runs.path XTok PGmix [.b true, .r [.call [(0, 2), (1, 4), (2, 8)] [iT 2, sT x26.Name, .v (.ptr 0 0)] [(0, .cells 48 [.rt 1]), (1, .row 53 3 (List.map e_ListChange y25))] (.tup []) [(0, .cells 48 [.rt 2]), (2, .row 53 3 (List.map e_ListChange r34))]]] [] (an h33 (an (nl_Changes_1_ok 2 x26.Name y25 r34 h35) (an (Eq.refl ([iT 2, sT x26.Name, .v (.ptr 2 0)] : List TV)) (Eq.refl (renH (asg [(0, 2), (1, 4), (2, 8)]) [(0, .cells 48 [.rt 1]), (1, .row 53 3 (List.map e_ListChange y25))]))))) (by kernel_rfl)
    · have h31 := Option.some.inj h31
      subst h31
      exact Runs.path XTok PGmix [.b false] [(8, 4)] h33 (by kernel_rfl)
  have h := Option.some.inj h
  subst h
  exact Runs.path XTok PGmix [.r [], .b true, .r [.el (e_Part x26), .id 7], .r [.val (iA r28)], .s q36_f q36_g [] (.nor q36_f' q36_g'), .r [.eq 74 (iA ((i24 + 1 : Nat) : Int))]] [(4, 8)] (an (lt_true hi) (an (idx_ok e_Part h27) (an (nl_partAt_ok a2.Parts x26.Name r28 h29) (an R32 (wrap_eq hi hM))))) (by kernel_rfl)
theorem nl_Changes_b1_e (a0 : List PartType) (a1 : Netlist) (a2 : Netlist) (r4 : (List (Pin × Int))) (r6 : (List (Pin × Int))) (y25 : List ListChange) : Runs PG 156 0 nl_Changes_c1 (nl_Changes_F1 a0 a1 a2 r4 r6 (a1.Parts.length) y25) (nl_Changes_H1 a0 a1 a2 r4 r6 (a1.Parts.length) y25) (nl_Changes_B1 a0 a1 a2 r4 r6 y25) := by
  exact Runs.path XTok PGmix [.r [], .b false] [] (lt_false (a1.Parts.length)) (by kernel_rfl)
theorem nl_Changes_l1 (a0 : List PartType) (a1 : Netlist) (a2 : Netlist) (r4 : (List (Pin × Int))) (r6 : (List (Pin × Int))) (y25 : List ListChange) (r : Fin' (List ListChange) (List ListChange × Int)) (h : forN (fun i24 s => nl_Changes_b1 a0 a1 a2 r4 r6 i24 s) (a1.Parts.length) 0 y25 = some r) : Runs PG 156 0 (cL (cR (cL (cR (cR (cR (cR (cR (cR nl_Changes_c))))))))) (nl_Changes_F1 a0 a1 a2 r4 r6 0 y25) (nl_Changes_H1 a0 a1 a2 r4 r6 0 y25) (finOc (nl_Changes_B1 a0 a1 a2 r4 r6) nl_Changes_R r) :=
  Runs.loop' (by kernel_rfl) (forN_rounds (σ := (List ListChange)) (ρ := (List ListChange × Int)) (body := fun i24 s => nl_Changes_b1 a0 a1 a2 r4 r6 i24 s) (F := fun i24 s => nl_Changes_F1 a0 a1 a2 r4 r6 i24 s) (H := fun i24 s => nl_Changes_H1 a0 a1 a2 r4 r6 i24 s) (B := nl_Changes_B1 a0 a1 a2 r4 r6) (R := nl_Changes_R) (M := a1.Parts.length) (fun _ => rfl) (fun _ => rfl) (fun s => nl_Changes_b1_e a0 a1 a2 r4 r6 s) (fun i s o hi h => nl_Changes_b1_r a0 a1 a2 r4 r6 i s o hi h) _ 0 _ r (Nat.zero_add _) h)
noncomputable def nl_Changes_c2 : Code := cL (cL (cR (cL (cR (cR (cR (cR (cR (cR (cR nl_Changes_c))))))))))
noncomputable def nl_Changes_c3 : Code := cL (cL (cR (cR (cR (cR (cR (cL (cL (cR (cR nl_Changes_c2))))))))))
noncomputable def nl_Changes_F3 (a0 : List PartType) (a1 : Netlist) (a2 : Netlist) (r4 : (List (Pin × Int))) (r6 : (List (Pin × Int))) (i40 : Nat) (y42 : List ListChange) (r53 : List Pin) (i55 : Nat) (y56 : List ListChange) : Fr := [(0, lA 2 (List.map e_PartType a0)), (4, .t (.v (.ptr 0 0))), (5, .t (.v (.ptr 1 0))), (9, .t (.v (.ptr 2 0))), (10, .t (.v (.rt 3))), (11, .t (.v (.fn 73 [.own 2]))), (12, .t (.v (.rt 5))), (13, .t (.v (.rt 6))), (76, lA 2 (List.map e_Part a1.Parts)), (77, iA (a1.Parts.length : Int)), (78, iA (i40 : Int)), (104, lA 2 (List.map e_Pin r53)), (105, iA (r53.length : Int)), (106, iA (i55 : Int))]
noncomputable def nl_Changes_H3 (a0 : List PartType) (a1 : Netlist) (a2 : Netlist) (r4 : (List (Pin × Int))) (r6 : (List (Pin × Int))) (i40 : Nat) (y42 : List ListChange) (r53 : List Pin) (i55 : Nat) (y56 : List ListChange) : Hp := [(6, .map (keys PG 28) (encM kv_Pin dv_i64 r6)), (5, .map (keys PG 28) (encM kv_Pin dv_i64 r4)), (0, .cells 26 [.c (.sl 2 (List.map e_Part a1.Parts)), .c (.sl 3 (List.map e_Net a1.Nets))]), (1, .cells 26 [.c (.sl 2 (List.map e_Part a2.Parts)), .c (.sl 3 (List.map e_Net a2.Nets))]), (2, .cells 48 [.rt 4]), (3, .row 53 3 (List.map e_ListChange y56)), (4, .row 53 3 (List.map e_ListChange y42))]
noncomputable def nl_Changes_B3 (a0 : List PartType) (a1 : Netlist) (a2 : Netlist) (r4 : (List (Pin × Int))) (r6 : (List (Pin × Int))) (i40 : Nat) (y42 : List ListChange) (r53 : List Pin) (s : List ListChange) : Oc := .ex 6 [(0, lA 2 (List.map e_PartType a0)), (4, .t (.v (.ptr 0 0))), (5, .t (.v (.ptr 1 0))), (9, .t (.v (.ptr 2 0))), (10, .t (.v (.rt 3))), (11, .t (.v (.fn 73 [.own 2]))), (12, .t (.v (.rt 5))), (13, .t (.v (.rt 6))), (76, lA 2 (List.map e_Part a1.Parts)), (77, iA (a1.Parts.length : Int)), (78, iA (i40 : Int))] [(6, .map (keys PG 28) (encM kv_Pin dv_i64 r6)), (5, .map (keys PG 28) (encM kv_Pin dv_i64 r4)), (0, .cells 26 [.c (.sl 2 (List.map e_Part a1.Parts)), .c (.sl 3 (List.map e_Net a1.Nets))]), (1, .cells 26 [.c (.sl 2 (List.map e_Part a2.Parts)), .c (.sl 3 (List.map e_Net a2.Nets))]), (2, .cells 48 [.rt 4]), (3, .row 53 3 (List.map e_ListChange s)), (4, .row 53 3 (List.map e_ListChange y42))]
noncomputable def nl_Changes_b3 (a0 : List PartType) (a1 : Netlist) (a2 : Netlist) (r4 : (List (Pin × Int))) (r6 : (List (Pin × Int))) (i40 : Nat) (y42 : List ListChange) (r53 : List Pin) (i55 : Nat) (y56 : List ListChange) : Option (Stp (List ListChange) (List ListChange × Int)) :=
 bnd (atI r53 (i55 : Int)) fun x57 =>
 bnd2 (opt (tlook r4 x57) (fun v63 =>
 some (v63, true)) (some (0, false))) fun v59 v60 =>
 bnd2 (opt (tlook r6 x57) (fun v74 =>
 some (v74, true)) (some (0, false))) fun v70 v71 =>
 bnd1 (cnd (!(v60 == v71)) (some true) (cnd v60 (bnd (atI a1.Nets v59) fun x86 =>
 bnd (atI a2.Nets v70) fun x88 =>
 some (sNe x86.Name x88.Name)) (some false))) fun v81 =>
 bnd1 (cnd v81 (grd (y56.length + [(⟨4, x57.Part, x57.Pin⟩ : ListChange)].length ≤ lim) <|
 some (y56 ++ [(⟨4, x57.Part, x57.Pin⟩ : ListChange)])) (some y56)) fun v91 =>
 some (.go v91)
theorem nl_Changes_b3_r (a0 : List PartType) (a1 : Netlist) (a2 : Netlist) (r4 : (List (Pin × Int))) (r6 : (List (Pin × Int))) (i40 : Nat) (y42 : List ListChange) (r53 : List Pin) (i55 : Nat) (y56 : List ListChange) (o : Stp (List ListChange) (List ListChange × Int)) (hi : i55 < r53.length) (h : nl_Changes_b3 a0 a1 a2 r4 r6 i40 y42 r53 i55 y56 = some o) :
    Runs PG 156 0 nl_Changes_c3 (nl_Changes_F3 a0 a1 a2 r4 r6 i40 y42 r53 i55 y56) (nl_Changes_H3 a0 a1 a2 r4 r6 i40 y42 r53 i55 y56) (stpOc (fun s' => .nor (nl_Changes_F3 a0 a1 a2 r4 r6 i40 y42 r53 (i55 + 1) s') (nl_Changes_H3 a0 a1 a2 r4 r6 i40 y42 r53 (i55 + 1) s')) (nl_Changes_B3 a0 a1 a2 r4 r6 i40 y42 r53) nl_Changes_R o) := by
  unfold nl_Changes_b3 at h
  refine Runs.len (s := 104) (sz := 2) (xs := List.map e_Pin r53) (by kernel_rfl) fun hl => ?_
  have hM : r53.length ≤ lim := len_of hl
  obtain ⟨x57, h58, h⟩ := bnd_e h
  obtain ⟨v59, v60, h61, h⟩ := bnd2_e h
  let q69_f : Fr := [(0, lA 2 (List.map e_PartType a0)), (4, .t (.v (.ptr 0 0))), (5, .t (.v (.ptr 1 0))), (9, .t (.v (.ptr 2 0))), (10, .t (.v (.rt 3))), (11, .t (.v (.fn 73 [.own 2]))), (12, .t (.v (.rt 5))), (13, .t (.v (.rt 6))), (22, .t (.v (.ptr 7 0))), (76, lA 2 (List.map e_Part a1.Parts)), (77, iA (a1.Parts.length : Int)), (78, iA (i40 : Int)), (104, lA 2 (List.map e_Pin r53)), (105, iA (r53.length : Int)), (106, iA (i55 : Int))]
  let q69_g : Hp := [(6, .map (keys PG 28) (encM kv_Pin dv_i64 r6)), (5, .map (keys PG 28) (encM kv_Pin dv_i64 r4)), (0, .cells 26 [.c (.sl 2 (List.map e_Part a1.Parts)), .c (.sl 3 (List.map e_Net a1.Nets))]), (1, .cells 26 [.c (.sl 2 (List.map e_Part a2.Parts)), .c (.sl 3 (List.map e_Net a2.Nets))]), (2, .cells 48 [.rt 4]), (3, .row 53 3 (List.map e_ListChange y56)), (4, .row 53 3 (List.map e_ListChange y42)), (7, .cells 28 [.c (sC x57.Part), .c (sC x57.Pin)])]
  let q69_f' : Fr := [(0, lA 2 (List.map e_PartType a0)), (4, .t (.v (.ptr 0 0))), (5, .t (.v (.ptr 1 0))), (9, .t (.v (.ptr 2 0))), (10, .t (.v (.rt 3))), (11, .t (.v (.fn 73 [.own 2]))), (12, .t (.v (.rt 5))), (13, .t (.v (.rt 6))), (22, .t (.v (.ptr 7 0))), (76, lA 2 (List.map e_Part a1.Parts)), (77, iA (a1.Parts.length : Int)), (78, iA (i40 : Int)), (104, lA 2 (List.map e_Pin r53)), (105, iA (r53.length : Int)), (106, iA (i55 : Int)), (23, iA v59), (24, bA v60)]
  let q69_g' : Hp := [(6, .map (keys PG 28) (encM kv_Pin dv_i64 r6)), (5, .map (keys PG 28) (encM kv_Pin dv_i64 r4)), (0, .cells 26 [.c (.sl 2 (List.map e_Part a1.Parts)), .c (.sl 3 (List.map e_Net a1.Nets))]), (1, .cells 26 [.c (.sl 2 (List.map e_Part a2.Parts)), .c (.sl 3 (List.map e_Net a2.Nets))]), (2, .cells 48 [.rt 4]), (3, .row 53 3 (List.map e_ListChange y56)), (4, .row 53 3 (List.map e_ListChange y42)), (7, .cells 28 [.c (sC x57.Part), .c (sC x57.Pin)])]
  have R62 : Runs PG 156 0 (cL (cR (cL (cL (cR (cR nl_Changes_c3)))))) q69_f q69_g (.nor q69_f' q69_g') := by
    rcases opt_e h61 with ⟨v63, h64, h61⟩ | ⟨h64, h61⟩
    · have h61 := Option.some.inj h61
      have q65 := (Prod.mk.inj h61).1
      have q66 := (Prod.mk.inj h61).2
      subst q65
      subst q66
      exact Runs.path XTok PGmix [.r [.look (some (dv_i64 v63))]] [] (an kd_Pin (an (Eq.refl (keys PG 28)) (an (kf_Pin x57) (tl_some dv_i64 ki_Pin h64)))) (by kernel_rfl)
    · have h61 := Option.some.inj h61
      have q67 := (Prod.mk.inj h61).1
      have q68 := (Prod.mk.inj h61).2
      subst q67
      subst q68
      exact Runs.path XTok PGmix [.r [.look (none)]] [] (an kd_Pin (an (Eq.refl (keys PG 28)) (an (kf_Pin x57) (tl_none dv_i64 ki_Pin h64)))) (by kernel_rfl)
  obtain ⟨v70, v71, h72, h⟩ := bnd2_e h
  let q80_f : Fr := [(0, lA 2 (List.map e_PartType a0)), (4, .t (.v (.ptr 0 0))), (5, .t (.v (.ptr 1 0))), (9, .t (.v (.ptr 2 0))), (10, .t (.v (.rt 3))), (11, .t (.v (.fn 73 [.own 2]))), (12, .t (.v (.rt 5))), (13, .t (.v (.rt 6))), (22, .t (.v (.ptr 7 0))), (23, iA v59), (24, bA v60), (76, lA 2 (List.map e_Part a1.Parts)), (77, iA (a1.Parts.length : Int)), (78, iA (i40 : Int)), (104, lA 2 (List.map e_Pin r53)), (105, iA (r53.length : Int)), (106, iA (i55 : Int))]
  let q80_g : Hp := [(6, .map (keys PG 28) (encM kv_Pin dv_i64 r6)), (5, .map (keys PG 28) (encM kv_Pin dv_i64 r4)), (0, .cells 26 [.c (.sl 2 (List.map e_Part a1.Parts)), .c (.sl 3 (List.map e_Net a1.Nets))]), (1, .cells 26 [.c (.sl 2 (List.map e_Part a2.Parts)), .c (.sl 3 (List.map e_Net a2.Nets))]), (2, .cells 48 [.rt 4]), (3, .row 53 3 (List.map e_ListChange y56)), (4, .row 53 3 (List.map e_ListChange y42)), (7, .cells 28 [.c (sC x57.Part), .c (sC x57.Pin)])]
  let q80_f' : Fr := [(0, lA 2 (List.map e_PartType a0)), (4, .t (.v (.ptr 0 0))), (5, .t (.v (.ptr 1 0))), (9, .t (.v (.ptr 2 0))), (10, .t (.v (.rt 3))), (11, .t (.v (.fn 73 [.own 2]))), (12, .t (.v (.rt 5))), (13, .t (.v (.rt 6))), (22, .t (.v (.ptr 7 0))), (23, iA v59), (24, bA v60), (76, lA 2 (List.map e_Part a1.Parts)), (77, iA (a1.Parts.length : Int)), (78, iA (i40 : Int)), (104, lA 2 (List.map e_Pin r53)), (105, iA (r53.length : Int)), (106, iA (i55 : Int)), (25, iA v70), (26, bA v71)]
  let q80_g' : Hp := [(6, .map (keys PG 28) (encM kv_Pin dv_i64 r6)), (5, .map (keys PG 28) (encM kv_Pin dv_i64 r4)), (0, .cells 26 [.c (.sl 2 (List.map e_Part a1.Parts)), .c (.sl 3 (List.map e_Net a1.Nets))]), (1, .cells 26 [.c (.sl 2 (List.map e_Part a2.Parts)), .c (.sl 3 (List.map e_Net a2.Nets))]), (2, .cells 48 [.rt 4]), (3, .row 53 3 (List.map e_ListChange y56)), (4, .row 53 3 (List.map e_ListChange y42)), (7, .cells 28 [.c (sC x57.Part), .c (sC x57.Pin)])]
  have R73 : Runs PG 156 0 (cL (cR (cR (cL (cL (cR (cR nl_Changes_c3))))))) q80_f q80_g (.nor q80_f' q80_g') := by
    rcases opt_e h72 with ⟨v74, h75, h72⟩ | ⟨h75, h72⟩
    · have h72 := Option.some.inj h72
      have q76 := (Prod.mk.inj h72).1
      have q77 := (Prod.mk.inj h72).2
      subst q76
      subst q77
      exact Runs.path XTok PGmix [.r [.look (some (dv_i64 v74))]] [] (an kd_Pin (an (Eq.refl (keys PG 28)) (an (kf_Pin x57) (tl_some dv_i64 ki_Pin h75)))) (by kernel_rfl)
    · have h72 := Option.some.inj h72
      have q78 := (Prod.mk.inj h72).1
      have q79 := (Prod.mk.inj h72).2
      subst q78
      subst q79
      exact Runs.path XTok PGmix [.r [.look (none)]] [] (an kd_Pin (an (Eq.refl (keys PG 28)) (an (kf_Pin x57) (tl_none dv_i64 ki_Pin h75)))) (by kernel_rfl)
  obtain ⟨v81, h82, h⟩ := bnd1_e h
  let q90_f : Fr := [(0, lA 2 (List.map e_PartType a0)), (4, .t (.v (.ptr 0 0))), (5, .t (.v (.ptr 1 0))), (9, .t (.v (.ptr 2 0))), (10, .t (.v (.rt 3))), (11, .t (.v (.fn 73 [.own 2]))), (12, .t (.v (.rt 5))), (13, .t (.v (.rt 6))), (22, .t (.v (.ptr 7 0))), (23, iA v59), (24, bA v60), (25, iA v70), (26, bA v71), (76, lA 2 (List.map e_Part a1.Parts)), (77, iA (a1.Parts.length : Int)), (78, iA (i40 : Int)), (104, lA 2 (List.map e_Pin r53)), (105, iA (r53.length : Int)), (106, iA (i55 : Int))]
  let q90_g : Hp := [(6, .map (keys PG 28) (encM kv_Pin dv_i64 r6)), (5, .map (keys PG 28) (encM kv_Pin dv_i64 r4)), (0, .cells 26 [.c (.sl 2 (List.map e_Part a1.Parts)), .c (.sl 3 (List.map e_Net a1.Nets))]), (1, .cells 26 [.c (.sl 2 (List.map e_Part a2.Parts)), .c (.sl 3 (List.map e_Net a2.Nets))]), (2, .cells 48 [.rt 4]), (3, .row 53 3 (List.map e_ListChange y56)), (4, .row 53 3 (List.map e_ListChange y42)), (7, .cells 28 [.c (sC x57.Part), .c (sC x57.Pin)])]
  let q90_f' : Fr := [(0, lA 2 (List.map e_PartType a0)), (4, .t (.v (.ptr 0 0))), (5, .t (.v (.ptr 1 0))), (9, .t (.v (.ptr 2 0))), (10, .t (.v (.rt 3))), (11, .t (.v (.fn 73 [.own 2]))), (12, .t (.v (.rt 5))), (13, .t (.v (.rt 6))), (22, .t (.v (.ptr 7 0))), (76, lA 2 (List.map e_Part a1.Parts)), (77, iA (a1.Parts.length : Int)), (78, iA (i40 : Int)), (104, lA 2 (List.map e_Pin r53)), (105, iA (r53.length : Int)), (106, iA (i55 : Int)), (142, bA v81)]
  let q90_g' : Hp := [(6, .map (keys PG 28) (encM kv_Pin dv_i64 r6)), (5, .map (keys PG 28) (encM kv_Pin dv_i64 r4)), (0, .cells 26 [.c (.sl 2 (List.map e_Part a1.Parts)), .c (.sl 3 (List.map e_Net a1.Nets))]), (1, .cells 26 [.c (.sl 2 (List.map e_Part a2.Parts)), .c (.sl 3 (List.map e_Net a2.Nets))]), (2, .cells 48 [.rt 4]), (3, .row 53 3 (List.map e_ListChange y56)), (4, .row 53 3 (List.map e_ListChange y42)), (7, .cells 28 [.c (sC x57.Part), .c (sC x57.Pin)])]
  have R83 : Runs PG 156 0 (cL (cR (cR (cR (cL (cL (cR (cR nl_Changes_c3)))))))) q90_f q90_g (.nor q90_f' q90_g') := by
    rcases cnd_e h82 with ⟨h84, h82⟩ | ⟨h84, h82⟩
    · have h82 := Option.some.inj h82
      subst h82
      exact Runs.path XTok PGmix [.d [([], []), ([], []), ([], []), ([], []), ([], [.b true]), ([], [.b true]), ([], []), ([], []), ([], []), ([], []), ([], []), ([], []), ([], []), ([], []), ([], []), ([], []), ([], []), ([], []), ([], []), ([], [.b true]), ([], [.b true])]] [] (an h84 (an h84 (an h84 h84))) (by kernel_rfl)
    · rcases cnd_e h82 with ⟨h85, h82⟩ | ⟨h85, h82⟩
      · obtain ⟨x86, h87, h82⟩ := bnd_e h82
        obtain ⟨x88, h89, h82⟩ := bnd_e h82
        have h82 := Option.some.inj h82
        subst h82
        exact Runs.path XTok PGmix [.d [([], []), ([], []), ([], []), ([], []), ([], [.b false]), ([], [.b false]), ([], [.b true]), ([0], [.b true]), ([], [.b true]), ([], [.b true, .el (e_Net x86)]), ([], [.b true]), ([], [.b true]), ([], [.b true]), ([1], [.b true]), ([], [.b true]), ([], [.b true, .el (e_Net x88)]), ([], [.b true]), ([], [.b true]), ([], [.b true]), ([], [.b false, .b true]), ([], [.b false])]] [] (an h84 (an h84 (an h85 (an h85 (an h85 (an h85 (an (idx_ok e_Net h87) (an h85 (an h85 (an h85 (an h85 (an h85 (an h85 (an (idx_ok e_Net h89) (an h85 (an h85 (an h85 (an h84 (an h85 h84))))))))))))))))))) (by kernel_rfl)
      · have h82 := Option.some.inj h82
        subst h82
        exact Runs.path XTok PGmix [.d [([], []), ([], []), ([], []), ([], []), ([], [.b false]), ([], [.b false]), ([], [.b false]), ([], [.b false]), ([], [.b false]), ([], [.b false]), ([], [.b false]), ([], [.b false]), ([], [.b false]), ([], [.b false]), ([], [.b false]), ([], [.b false]), ([], [.b false]), ([], [.b false]), ([], [.b false]), ([], [.b false, .b false]), ([], [.b false])]] [] (an h84 (an h84 (an h85 (an h85 (an h85 (an h85 (an h85 (an h85 (an h85 (an h85 (an h85 (an h85 (an h85 (an h85 (an h85 (an h84 (an h85 h84))))))))))))))))) (by kernel_rfl)
  obtain ⟨v91, h92, h⟩ := bnd1_e h
  let q96_f : Fr := [(0, lA 2 (List.map e_PartType a0)), (4, .t (.v (.ptr 0 0))), (5, .t (.v (.ptr 1 0))), (9, .t (.v (.ptr 2 0))), (10, .t (.v (.rt 3))), (11, .t (.v (.fn 73 [.own 2]))), (12, .t (.v (.rt 5))), (13, .t (.v (.rt 6))), (22, .t (.v (.ptr 7 0))), (76, lA 2 (List.map e_Part a1.Parts)), (77, iA (a1.Parts.length : Int)), (78, iA (i40 : Int)), (104, lA 2 (List.map e_Pin r53)), (105, iA (r53.length : Int)), (106, iA (i55 : Int)), (142, bA v81)]
  let q96_g : Hp := [(6, .map (keys PG 28) (encM kv_Pin dv_i64 r6)), (5, .map (keys PG 28) (encM kv_Pin dv_i64 r4)), (0, .cells 26 [.c (.sl 2 (List.map e_Part a1.Parts)), .c (.sl 3 (List.map e_Net a1.Nets))]), (1, .cells 26 [.c (.sl 2 (List.map e_Part a2.Parts)), .c (.sl 3 (List.map e_Net a2.Nets))]), (2, .cells 48 [.rt 4]), (3, .row 53 3 (List.map e_ListChange y56)), (4, .row 53 3 (List.map e_ListChange y42)), (7, .cells 28 [.c (sC x57.Part), .c (sC x57.Pin)])]
  let q96_f' : Fr := [(0, lA 2 (List.map e_PartType a0)), (4, .t (.v (.ptr 0 0))), (5, .t (.v (.ptr 1 0))), (9, .t (.v (.ptr 2 0))), (10, .t (.v (.rt 9))), (11, .t (.v (.fn 73 [.own 2]))), (12, .t (.v (.rt 5))), (13, .t (.v (.rt 6))), (76, lA 2 (List.map e_Part a1.Parts)), (77, iA (a1.Parts.length : Int)), (78, iA (i40 : Int)), (104, lA 2 (List.map e_Pin r53)), (105, iA (r53.length : Int)), (106, iA (i55 : Int))]
  let q96_g' : Hp := [(6, .map (keys PG 28) (encM kv_Pin dv_i64 r6)), (5, .map (keys PG 28) (encM kv_Pin dv_i64 r4)), (0, .cells 26 [.c (.sl 2 (List.map e_Part a1.Parts)), .c (.sl 3 (List.map e_Net a1.Nets))]), (1, .cells 26 [.c (.sl 2 (List.map e_Part a2.Parts)), .c (.sl 3 (List.map e_Net a2.Nets))]), (2, .cells 48 [.rt 4]), (4, .row 53 3 (List.map e_ListChange y42)), (9, .row 53 3 (List.map e_ListChange v91))]
  have R93 : Runs PG 156 0 (cR (cR (cR (cR (cL (cL (cR (cR nl_Changes_c3)))))))) q96_f q96_g (.nor q96_f' q96_g') := by
    rcases cnd_e h92 with ⟨h94, h92⟩ | ⟨h94, h92⟩
    · obtain ⟨h95, h92⟩ := grd_e h92
      have h92 := Option.some.inj h92
      subst h92
      exact Runs.path XTok PGmix [.b true, .r [.id 8, .row (List.map e_ListChange [(⟨4, x57.Part, x57.Pin⟩ : ListChange)]), .id 9, .row (List.map e_ListChange (y56 ++ [(⟨4, x57.Part, x57.Pin⟩ : ListChange)]))]] [] (an h94 (an (Eq.refl (List.flatten (List.map e_ListChange [(⟨4, x57.Part, x57.Pin⟩ : ListChange)]))) (app_ok e_ListChange h95))) (by kernel_rfl)
    · have h92 := Option.some.inj h92
      subst h92
      exact Runs.path XTok PGmix [.b false] [(9, 3)] h94 (by kernel_rfl)
  have h := Option.some.inj h
  subst h
  exact Runs.path XTok PGmix [.r [], .b true, .r [.el (e_Pin x57), .id 7], .s q69_f q69_g [] (.nor q69_f' q69_g'), .s q80_f q80_g [] (.nor q80_f' q80_g'), .s q90_f q90_g [] (.nor q90_f' q90_g'), .s q96_f q96_g [] (.nor q96_f' q96_g'), .r [.eq 151 (iA ((i55 + 1 : Nat) : Int))]] [(3, 9)] (an (lt_true hi) (an (idx_ok e_Pin h58) (an R62 (an R73 (an R83 (an R93 (wrap_eq hi hM))))))) (by kernel_rfl)
theorem nl_Changes_b3_e (a0 : List PartType) (a1 : Netlist) (a2 : Netlist) (r4 : (List (Pin × Int))) (r6 : (List (Pin × Int))) (i40 : Nat) (y42 : List ListChange) (r53 : List Pin) (y56 : List ListChange) : Runs PG 156 0 nl_Changes_c3 (nl_Changes_F3 a0 a1 a2 r4 r6 i40 y42 r53 (r53.length) y56) (nl_Changes_H3 a0 a1 a2 r4 r6 i40 y42 r53 (r53.length) y56) (nl_Changes_B3 a0 a1 a2 r4 r6 i40 y42 r53 y56) := by
  exact Runs.path XTok PGmix [.r [], .b false] [] (lt_false (r53.length)) (by kernel_rfl)
theorem nl_Changes_l3 (a0 : List PartType) (a1 : Netlist) (a2 : Netlist) (r4 : (List (Pin × Int))) (r6 : (List (Pin × Int))) (i40 : Nat) (y42 : List ListChange) (r53 : List Pin) (y56 : List ListChange) (r : Fin' (List ListChange) (List ListChange × Int)) (h : forN (fun i55 s => nl_Changes_b3 a0 a1 a2 r4 r6 i40 y42 r53 i55 s) (r53.length) 0 y56 = some r) : Runs PG 156 0 (cL (cR (cR (cR (cR (cR (cL (cL (cR (cR nl_Changes_c2)))))))))) (nl_Changes_F3 a0 a1 a2 r4 r6 i40 y42 r53 0 y56) (nl_Changes_H3 a0 a1 a2 r4 r6 i40 y42 r53 0 y56) (finOc (nl_Changes_B3 a0 a1 a2 r4 r6 i40 y42 r53) nl_Changes_R r) :=
  Runs.loop' (by kernel_rfl) (forN_rounds (σ := (List ListChange)) (ρ := (List ListChange × Int)) (body := fun i55 s => nl_Changes_b3 a0 a1 a2 r4 r6 i40 y42 r53 i55 s) (F := fun i55 s => nl_Changes_F3 a0 a1 a2 r4 r6 i40 y42 r53 i55 s) (H := fun i55 s => nl_Changes_H3 a0 a1 a2 r4 r6 i40 y42 r53 i55 s) (B := nl_Changes_B3 a0 a1 a2 r4 r6 i40 y42 r53) (R := nl_Changes_R) (M := r53.length) (fun _ => rfl) (fun _ => rfl) (fun s => nl_Changes_b3_e a0 a1 a2 r4 r6 i40 y42 r53 s) (fun i s o hi h => nl_Changes_b3_r a0 a1 a2 r4 r6 i40 y42 r53 i s o hi h) _ 0 _ r (Nat.zero_add _) h)
noncomputable def nl_Changes_F2 (a0 : List PartType) (a1 : Netlist) (a2 : Netlist) (r4 : (List (Pin × Int))) (r6 : (List (Pin × Int))) (i40 : Nat) (y41 : List ListChange) (y42 : List ListChange) : Fr := [(0, lA 2 (List.map e_PartType a0)), (4, .t (.v (.ptr 0 0))), (5, .t (.v (.ptr 1 0))), (9, .t (.v (.ptr 2 0))), (10, .t (.v (.rt 3))), (11, .t (.v (.fn 73 [.own 2]))), (12, .t (.v (.rt 5))), (13, .t (.v (.rt 6))), (76, lA 2 (List.map e_Part a1.Parts)), (77, iA (a1.Parts.length : Int)), (78, iA (i40 : Int))]
noncomputable def nl_Changes_H2 (a0 : List PartType) (a1 : Netlist) (a2 : Netlist) (r4 : (List (Pin × Int))) (r6 : (List (Pin × Int))) (i40 : Nat) (y41 : List ListChange) (y42 : List ListChange) : Hp := [(6, .map (keys PG 28) (encM kv_Pin dv_i64 r6)), (5, .map (keys PG 28) (encM kv_Pin dv_i64 r4)), (0, .cells 26 [.c (.sl 2 (List.map e_Part a1.Parts)), .c (.sl 3 (List.map e_Net a1.Nets))]), (1, .cells 26 [.c (.sl 2 (List.map e_Part a2.Parts)), .c (.sl 3 (List.map e_Net a2.Nets))]), (2, .cells 48 [.rt 4]), (3, .row 53 3 (List.map e_ListChange y41)), (4, .row 53 3 (List.map e_ListChange y42))]
noncomputable def nl_Changes_B2 (a0 : List PartType) (a1 : Netlist) (a2 : Netlist) (r4 : (List (Pin × Int))) (r6 : (List (Pin × Int))) (s : List ListChange × List ListChange) : Oc := .ex 4 [(9, .t (.v (.ptr 2 0))), (10, .t (.v (.rt 3)))] [(2, .cells 48 [.rt 4]), (3, .row 53 3 (List.map e_ListChange s.1)), (4, .row 53 3 (List.map e_ListChange s.2))]
noncomputable def nl_Changes_b2 (a0 : List PartType) (a1 : Netlist) (a2 : Netlist) (r4 : (List (Pin × Int))) (r6 : (List (Pin × Int))) (i40 : Nat) (y41 : List ListChange) (y42 : List ListChange) : Option (Stp (List ListChange × List ListChange) (List ListChange × Int)) :=
 bnd (atI a1.Parts (i40 : Int)) fun x43 =>
 bnd (nl_partAt a2.Parts x43.Name) fun r45 =>
 cnd (decide (r45 < 0)) (some (.go (y41, y42))) (bnd (atI a2.Parts r45) fun x48 =>
 cnd (sNe x48.Type_ x43.Type_) (bnd (nl_Changes_1 3 x43.Name y42) fun r51 =>
 some (.go (y41, r51))) (bnd (nl_pinsOf a0 x43) fun r53 =>
 aft1 (forN (fun i55 s => nl_Changes_b3 a0 a1 a2 r4 r6 i40 y42 r53 i55 s) (r53.length) 0 y41) (fun u97 =>
 some (.go (u97, y42)))
 (fun r99 =>
 some (.ret r99))))
theorem nl_Changes_b2_r (a0 : List PartType) (a1 : Netlist) (a2 : Netlist) (r4 : (List (Pin × Int))) (r6 : (List (Pin × Int))) (i40 : Nat) (y41 : List ListChange) (y42 : List ListChange) (o : Stp (List ListChange × List ListChange) (List ListChange × Int)) (hi : i40 < a1.Parts.length) (h : nl_Changes_b2 a0 a1 a2 r4 r6 i40 y41 y42 = some o) :
    Runs PG 156 0 nl_Changes_c2 (nl_Changes_F2 a0 a1 a2 r4 r6 i40 y41 y42) (nl_Changes_H2 a0 a1 a2 r4 r6 i40 y41 y42) (stpOc (fun s' => .nor (nl_Changes_F2 a0 a1 a2 r4 r6 (i40 + 1) s'.1 s'.2) (nl_Changes_H2 a0 a1 a2 r4 r6 (i40 + 1) s'.1 s'.2)) (nl_Changes_B2 a0 a1 a2 r4 r6) nl_Changes_R o) := by
  unfold nl_Changes_b2 at h
  refine Runs.len (s := 76) (sz := 2) (xs := List.map e_Part a1.Parts) (by kernel_rfl) fun hl => ?_
  have hM : a1.Parts.length ≤ lim := len_of hl
  obtain ⟨x43, h44, h⟩ := bnd_e h
  obtain ⟨r45, h46, h⟩ := bnd_e h
  rcases cnd_e h with ⟨h47, h⟩ | ⟨h47, h⟩
  · have h := Option.some.inj h
    subst h
    exact Runs.path XTok PGmix [.r [], .b true, .r [.el (e_Part x43), .id 7], .r [.val (iA r45)], .r [], .b true, .r [.eq 152 (iA ((i40 + 1 : Nat) : Int))]] [] (an (lt_true hi) (an (idx_ok e_Part h44) (an (nl_partAt_ok a2.Parts x43.Name r45 h46) (an h47 (wrap_eq hi hM))))) (by kernel_rfl)
  · obtain ⟨x48, h49, h⟩ := bnd_e h
    rcases cnd_e h with ⟨h50, h⟩ | ⟨h50, h⟩
    · obtain ⟨r51, h52, h⟩ := bnd_e h
      have h := Option.some.inj h
      subst h
      exact Runs.path XTok PGmix [.r [], .b true, .r [.el (e_Part x43), .id 7], .r [.val (iA r45)], .r [], .b false, .d [([], []), ([1], []), ([], []), ([], [.el (e_Part x48)]), ([], []), ([], []), ([], []), ([7], []), ([], [])], .b true, .r [.call [(0, 2), (1, 4), (2, 8)] [iT 3, sT x43.Name, .v (.ptr 0 0)] [(0, .cells 48 [.rt 1]), (1, .row 53 3 (List.map e_ListChange y42))] (.tup []) [(0, .cells 48 [.rt 2]), (2, .row 53 3 (List.map e_ListChange r51))]], .r [.eq 152 (iA ((i40 + 1 : Nat) : Int))]] [(4, 8)] (an (lt_true hi) (an (idx_ok e_Part h44) (an (nl_partAt_ok a2.Parts x43.Name r45 h46) (an h47 (an (idx_ok e_Part h49) (an h50 (an (an (nl_Changes_1_ok 3 x43.Name y42 r51 h52) (an (Eq.refl ([iT 3, sT x43.Name, .v (.ptr 2 0)] : List TV)) (Eq.refl (renH (asg [(0, 2), (1, 4), (2, 8)]) [(0, .cells 48 [.rt 1]), (1, .row 53 3 (List.map e_ListChange y42))])))) (wrap_eq hi hM)))))))) (by kernel_rfl)
    · obtain ⟨r53, h54, h⟩ := bnd_e h
      rcases aft1_e h with ⟨u97, h98, h⟩ | ⟨r99, h98, h⟩
      · have h := Option.some.inj h
        subst h
        exact Runs.path XTok PGmix [.r [], .b true, .r [.el (e_Part x43), .id 7], .r [.val (iA r45)], .r [], .b false, .d [([], []), ([1], []), ([], []), ([], [.el (e_Part x48)]), ([], []), ([], []), ([], []), ([7], []), ([], [])], .b false, .r [.val (lA 2 (List.map e_Pin r53)), .eq 105 (iA (r53.length : Int))], .s (nl_Changes_F3 a0 a1 a2 r4 r6 i40 y42 r53 0 y41) (nl_Changes_H3 a0 a1 a2 r4 r6 i40 y42 r53 0 y41) [] (nl_Changes_B3 a0 a1 a2 r4 r6 i40 y42 r53 u97), .r [.eq 152 (iA ((i40 + 1 : Nat) : Int))]] [] (an (lt_true hi) (an (idx_ok e_Part h44) (an (nl_partAt_ok a2.Parts x43.Name r45 h46) (an h47 (an (idx_ok e_Part h49) (an h50 (an (nl_pinsOf_ok a0 x43 r53 h54) (an (leni_eq e_Pin r53) (an (nl_Changes_l3 a0 a1 a2 r4 r6 i40 y42 r53 y41 (.fin u97) h98) (wrap_eq hi hM)))))))))) (by kernel_rfl)
      · have h := Option.some.inj h
        subst h
        exact Runs.path XTok PGmix [.r [], .b true, .r [.el (e_Part x43), .id 7], .r [.val (iA r45)], .r [], .b false, .d [([], []), ([1], []), ([], []), ([], [.el (e_Part x48)]), ([], []), ([], []), ([], []), ([7], []), ([], [])], .b false, .r [.val (lA 2 (List.map e_Pin r53)), .eq 105 (iA (r53.length : Int))], .s (nl_Changes_F3 a0 a1 a2 r4 r6 i40 y42 r53 0 y41) (nl_Changes_H3 a0 a1 a2 r4 r6 i40 y42 r53 0 y41) [] (nl_Changes_R r99)] [] (an (lt_true hi) (an (idx_ok e_Part h44) (an (nl_partAt_ok a2.Parts x43.Name r45 h46) (an h47 (an (idx_ok e_Part h49) (an h50 (an (nl_pinsOf_ok a0 x43 r53 h54) (an (leni_eq e_Pin r53) (nl_Changes_l3 a0 a1 a2 r4 r6 i40 y42 r53 y41 (.ret r99) h98))))))))) (by kernel_rfl)
theorem nl_Changes_b2_e (a0 : List PartType) (a1 : Netlist) (a2 : Netlist) (r4 : (List (Pin × Int))) (r6 : (List (Pin × Int))) (y41 : List ListChange) (y42 : List ListChange) : Runs PG 156 0 nl_Changes_c2 (nl_Changes_F2 a0 a1 a2 r4 r6 (a1.Parts.length) y41 y42) (nl_Changes_H2 a0 a1 a2 r4 r6 (a1.Parts.length) y41 y42) (nl_Changes_B2 a0 a1 a2 r4 r6 (y41, y42)) := by
  exact Runs.path XTok PGmix [.r [], .b false] [] (lt_false (a1.Parts.length)) (by kernel_rfl)
theorem nl_Changes_l2 (a0 : List PartType) (a1 : Netlist) (a2 : Netlist) (r4 : (List (Pin × Int))) (r6 : (List (Pin × Int))) (y41 : List ListChange) (y42 : List ListChange) (r : Fin' (List ListChange × List ListChange) (List ListChange × Int)) (h : forN (fun i40 s => nl_Changes_b2 a0 a1 a2 r4 r6 i40 s.1 s.2) (a1.Parts.length) 0 (y41, y42) = some r) : Runs PG 156 0 (cL (cR (cL (cR (cR (cR (cR (cR (cR (cR nl_Changes_c)))))))))) (nl_Changes_F2 a0 a1 a2 r4 r6 0 y41 y42) (nl_Changes_H2 a0 a1 a2 r4 r6 0 y41 y42) (finOc (nl_Changes_B2 a0 a1 a2 r4 r6) nl_Changes_R r) :=
  Runs.loop' (by kernel_rfl) (forN_rounds (σ := (List ListChange × List ListChange)) (ρ := (List ListChange × Int)) (body := fun i40 s => nl_Changes_b2 a0 a1 a2 r4 r6 i40 s.1 s.2) (F := fun i40 s => nl_Changes_F2 a0 a1 a2 r4 r6 i40 s.1 s.2) (H := fun i40 s => nl_Changes_H2 a0 a1 a2 r4 r6 i40 s.1 s.2) (B := nl_Changes_B2 a0 a1 a2 r4 r6) (R := nl_Changes_R) (M := a1.Parts.length) (fun _ => rfl) (fun _ => rfl) (fun s => nl_Changes_b2_e a0 a1 a2 r4 r6 s.1 s.2) (fun i s o hi h => nl_Changes_b2_r a0 a1 a2 r4 r6 i s.1 s.2 o hi h) _ 0 _ r (Nat.zero_add _) h)
noncomputable def nl_Changes (a0 : List PartType) (a1 : Netlist) (a2 : Netlist) : Option (List ListChange × Int) :=
 bnd (nl_checkTwo a0 a1 a2) fun r1 =>
 cnd (r1 != 0) (some ([], r1)) (bnd (nl_Nets a1) fun r4 =>
 bnd (nl_Nets a2) fun r6 =>
 aft1 (forN (fun i8 s => nl_Changes_b0 a0 a1 a2 r4 r6 i8 s) (a2.Parts.length) 0 []) (fun u21 =>
 aft1 (forN (fun i24 s => nl_Changes_b1 a0 a1 a2 r4 r6 i24 s) (a1.Parts.length) 0 u21) (fun u37 =>
 aft2 (forN (fun i40 s => nl_Changes_b2 a0 a1 a2 r4 r6 i40 s.1 s.2) (a1.Parts.length) 0 ([], u37)) (fun u100 u101 =>
 grd (u101.length + u100.length ≤ lim) <|
 some (u101 ++ u100, 0))
 (fun r103 =>
 some r103))
 (fun r39 =>
 some r39))
 (fun r23 =>
 some r23))
theorem nl_Changes_ok (a0 : List PartType) (a1 : Netlist) (a2 : Netlist) (r : List ListChange × Int) (h : nl_Changes a0 a1 a2 = some r) : Spec PG 27 [lT 2 (List.map e_PartType a0), gT (e_Netlist a1), gT (e_Netlist a2)] [] (.tup [lT 3 (List.map e_ListChange r.1), iT r.2]) [] := by
  unfold nl_Changes at h
  obtain ⟨r1, h2, h⟩ := bnd_e h
  rcases cnd_e h with ⟨h3, h⟩ | ⟨h3, h⟩
  · have h := Option.some.inj h
    subst h
    exact Spec.path XTok PGmix nl_Changes_fn 0 [.r [.id 0, .id 1, .nl 3], .r [.val (iA r1)], .r [], .b true, .r [.nl 3]] (an (nl_checkTwo_ok a0 a1 a2 r1 h2) h3) (by kernel_rfl)
  · obtain ⟨r4, h5, h⟩ := bnd_e h
    obtain ⟨r6, h7, h⟩ := bnd_e h
    rcases aft1_e h with ⟨u21, h22, h⟩ | ⟨r23, h22, h⟩
    · rcases aft1_e h with ⟨u37, h38, h⟩ | ⟨r39, h38, h⟩
      · rcases aft2_e h with ⟨u100, u101, h102, h⟩ | ⟨r103, h102, h⟩
        · obtain ⟨h104, h⟩ := grd_e h
          have h := Option.some.inj h
          subst h
          exact Spec.path XTok PGmix nl_Changes_fn 0 [.r [.id 0, .id 1, .nl 3], .r [.val (iA r1)], .r [], .b false, .r [.id 2, .mk 3 53 3], .o 2 0 4 53 3, .r [], .d [([0], []), ([], [.call [(0, 5)] [gT (e_Netlist a1)] [] (.t (.v (.rt 0))) [(0, .map (keys PG 28) (encM kv_Pin dv_i64 r4))]]), ([1], []), ([], [.call [(0, 6)] [gT (e_Netlist a2)] [] (.t (.v (.rt 0))) [(0, .map (keys PG 28) (encM kv_Pin dv_i64 r6))]]), ([], []), ([], [])], .r [.eq 41 (iA (a2.Parts.length : Int))], .s (nl_Changes_F0 a0 a1 a2 r4 r6 0 []) (nl_Changes_H0 a0 a1 a2 r4 r6 0 []) [] (nl_Changes_B0 a0 a1 a2 r4 r6 u21), .r [.eq 59 (iA (a1.Parts.length : Int))], .s (nl_Changes_F1 a0 a1 a2 r4 r6 0 u21) (nl_Changes_H1 a0 a1 a2 r4 r6 0 u21) [] (nl_Changes_B1 a0 a1 a2 r4 r6 u37), .r [.eq 77 (iA (a1.Parts.length : Int))], .s (nl_Changes_F2 a0 a1 a2 r4 r6 0 [] u37) (nl_Changes_H2 a0 a1 a2 r4 r6 0 [] u37) [] (nl_Changes_B2 a0 a1 a2 r4 r6 (u100, u101)), .r [.id 5, .row (List.map e_ListChange (u101 ++ u100))], .f 5] (an (nl_checkTwo_ok a0 a1 a2 r1 h2) (an h3 (an (an (nl_Nets_ok a1 r4 h5) (an (Eq.refl ([gT (e_Netlist a1)] : List TV)) (Eq.refl (renH (asg [(0, 5)]) [])))) (an (an (nl_Nets_ok a2 r6 h7) (an (Eq.refl ([gT (e_Netlist a2)] : List TV)) (Eq.refl (renH (asg [(0, 6)]) [])))) (an (leni_eq e_Part a2.Parts) (an (nl_Changes_l0 a0 a1 a2 r4 r6 [] (.fin u21) h22) (an (leni_eq e_Part a1.Parts) (an (nl_Changes_l1 a0 a1 a2 r4 r6 u21 (.fin u37) h38) (an (leni_eq e_Part a1.Parts) (an (nl_Changes_l2 a0 a1 a2 r4 r6 [] u37 (.fin (u100, u101)) h102) (app_ok e_ListChange h104))))))))))) (by kernel_rfl)
        · have h := Option.some.inj h
          subst h
          exact Spec.path XTok PGmix nl_Changes_fn 0 [.r [.id 0, .id 1, .nl 3], .r [.val (iA r1)], .r [], .b false, .r [.id 2, .mk 3 53 3], .o 2 0 4 53 3, .r [], .d [([0], []), ([], [.call [(0, 5)] [gT (e_Netlist a1)] [] (.t (.v (.rt 0))) [(0, .map (keys PG 28) (encM kv_Pin dv_i64 r4))]]), ([1], []), ([], [.call [(0, 6)] [gT (e_Netlist a2)] [] (.t (.v (.rt 0))) [(0, .map (keys PG 28) (encM kv_Pin dv_i64 r6))]]), ([], []), ([], [])], .r [.eq 41 (iA (a2.Parts.length : Int))], .s (nl_Changes_F0 a0 a1 a2 r4 r6 0 []) (nl_Changes_H0 a0 a1 a2 r4 r6 0 []) [] (nl_Changes_B0 a0 a1 a2 r4 r6 u21), .r [.eq 59 (iA (a1.Parts.length : Int))], .s (nl_Changes_F1 a0 a1 a2 r4 r6 0 u21) (nl_Changes_H1 a0 a1 a2 r4 r6 0 u21) [] (nl_Changes_B1 a0 a1 a2 r4 r6 u37), .r [.eq 77 (iA (a1.Parts.length : Int))], .s (nl_Changes_F2 a0 a1 a2 r4 r6 0 [] u37) (nl_Changes_H2 a0 a1 a2 r4 r6 0 [] u37) [] (nl_Changes_R r103)] (an (nl_checkTwo_ok a0 a1 a2 r1 h2) (an h3 (an (an (nl_Nets_ok a1 r4 h5) (an (Eq.refl ([gT (e_Netlist a1)] : List TV)) (Eq.refl (renH (asg [(0, 5)]) [])))) (an (an (nl_Nets_ok a2 r6 h7) (an (Eq.refl ([gT (e_Netlist a2)] : List TV)) (Eq.refl (renH (asg [(0, 6)]) [])))) (an (leni_eq e_Part a2.Parts) (an (nl_Changes_l0 a0 a1 a2 r4 r6 [] (.fin u21) h22) (an (leni_eq e_Part a1.Parts) (an (nl_Changes_l1 a0 a1 a2 r4 r6 u21 (.fin u37) h38) (an (leni_eq e_Part a1.Parts) (nl_Changes_l2 a0 a1 a2 r4 r6 [] u37 (.ret r103) h102)))))))))) (by kernel_rfl)
      · have h := Option.some.inj h
        subst h
        exact Spec.path XTok PGmix nl_Changes_fn 0 [.r [.id 0, .id 1, .nl 3], .r [.val (iA r1)], .r [], .b false, .r [.id 2, .mk 3 53 3], .o 2 0 4 53 3, .r [], .d [([0], []), ([], [.call [(0, 5)] [gT (e_Netlist a1)] [] (.t (.v (.rt 0))) [(0, .map (keys PG 28) (encM kv_Pin dv_i64 r4))]]), ([1], []), ([], [.call [(0, 6)] [gT (e_Netlist a2)] [] (.t (.v (.rt 0))) [(0, .map (keys PG 28) (encM kv_Pin dv_i64 r6))]]), ([], []), ([], [])], .r [.eq 41 (iA (a2.Parts.length : Int))], .s (nl_Changes_F0 a0 a1 a2 r4 r6 0 []) (nl_Changes_H0 a0 a1 a2 r4 r6 0 []) [] (nl_Changes_B0 a0 a1 a2 r4 r6 u21), .r [.eq 59 (iA (a1.Parts.length : Int))], .s (nl_Changes_F1 a0 a1 a2 r4 r6 0 u21) (nl_Changes_H1 a0 a1 a2 r4 r6 0 u21) [] (nl_Changes_R r39)] (an (nl_checkTwo_ok a0 a1 a2 r1 h2) (an h3 (an (an (nl_Nets_ok a1 r4 h5) (an (Eq.refl ([gT (e_Netlist a1)] : List TV)) (Eq.refl (renH (asg [(0, 5)]) [])))) (an (an (nl_Nets_ok a2 r6 h7) (an (Eq.refl ([gT (e_Netlist a2)] : List TV)) (Eq.refl (renH (asg [(0, 6)]) [])))) (an (leni_eq e_Part a2.Parts) (an (nl_Changes_l0 a0 a1 a2 r4 r6 [] (.fin u21) h22) (an (leni_eq e_Part a1.Parts) (nl_Changes_l1 a0 a1 a2 r4 r6 u21 (.ret r39) h38)))))))) (by kernel_rfl)
    · have h := Option.some.inj h
      subst h
      exact Spec.path XTok PGmix nl_Changes_fn 0 [.r [.id 0, .id 1, .nl 3], .r [.val (iA r1)], .r [], .b false, .r [.id 2, .mk 3 53 3], .o 2 0 4 53 3, .r [], .d [([0], []), ([], [.call [(0, 5)] [gT (e_Netlist a1)] [] (.t (.v (.rt 0))) [(0, .map (keys PG 28) (encM kv_Pin dv_i64 r4))]]), ([1], []), ([], [.call [(0, 6)] [gT (e_Netlist a2)] [] (.t (.v (.rt 0))) [(0, .map (keys PG 28) (encM kv_Pin dv_i64 r6))]]), ([], []), ([], [])], .r [.eq 41 (iA (a2.Parts.length : Int))], .s (nl_Changes_F0 a0 a1 a2 r4 r6 0 []) (nl_Changes_H0 a0 a1 a2 r4 r6 0 []) [] (nl_Changes_R r23)] (an (nl_checkTwo_ok a0 a1 a2 r1 h2) (an h3 (an (an (nl_Nets_ok a1 r4 h5) (an (Eq.refl ([gT (e_Netlist a1)] : List TV)) (Eq.refl (renH (asg [(0, 5)]) [])))) (an (an (nl_Nets_ok a2 r6 h7) (an (Eq.refl ([gT (e_Netlist a2)] : List TV)) (Eq.refl (renH (asg [(0, 6)]) [])))) (an (leni_eq e_Part a2.Parts) (nl_Changes_l0 a0 a1 a2 r4 r6 [] (.ret r23) h22)))))) (by kernel_rfl)

noncomputable def ref_within_c : Code := (Go.Proofs.Tryd.f162.body).getD .skip
theorem ref_within_fn : FnOk PG 162 ref_within_c 15 [.tmp 6] := ⟨⟨Go.Proofs.Tryd.f162, by kernel_rfl, by kernel_rfl, by kernel_rfl, by kernel_rfl, by kernel_rfl⟩⟩
noncomputable def ref_within (a0 : Int) (a1 : Int) (a2 : Int) : Option Bool :=
 bnd1 (cnd (decide (a1 ≤ a0)) (some (decide (a0 ≤ a2))) (some false)) fun v1 =>
 some v1
theorem ref_within_ok (a0 : Int) (a1 : Int) (a2 : Int) (r : Bool) (h : ref_within a0 a1 a2 = some r) : Spec PG 162 [iT a0, iT a1, iT a2] [] (bA r) [] := by
  unfold ref_within at h
  obtain ⟨v1, h2, h⟩ := bnd1_e h
  let q5_f : Fr := [(0, iA a0), (1, iA a1), (2, iA a2)]
  let q5_g : Hp := []
  let q5_f' : Fr := [(6, bA v1)]
  let q5_g' : Hp := []
  have R3 : Runs PG 15 0 (cL (cR ref_within_c)) q5_f q5_g (.nor q5_f' q5_g') := by
    rcases cnd_e h2 with ⟨h4, h2⟩ | ⟨h4, h2⟩
    · have h2 := Option.some.inj h2
      subst h2
      exact Runs.path XTok PGmix [.r [.b true, .b true, .b true, .b true]] [] (an h4 (an h4 (an h4 h4))) (by kernel_rfl)
    · have h2 := Option.some.inj h2
      subst h2
      exact Runs.path XTok PGmix [.r [.b false, .b false, .b false, .b false]] [] (an h4 (an h4 (an h4 h4))) (by kernel_rfl)
  have h := Option.some.inj h
  subst h
  exact Spec.path XTok PGmix ref_within_fn 0 [.r [], .s q5_f q5_g [] (.nor q5_f' q5_g')] R3 (by kernel_rfl)
end Go.Proofs.YtlbndchfmdogeaaDoor.Sym
