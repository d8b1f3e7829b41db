/- Printed by gen2.py: the plain forms of functions, and that calling them gives what these give. Conditions: none. -/
import Derived.Test.YtlbndchfmdogeaaDoorVf2
set_option linter.unusedVariables false
set_option maxHeartbeats 4000000
namespace Go.Proofs.YtlbndchfmdogeaaDoor.Sym
open Go Go.RowKit
noncomputable def cmp_Less_string_c : Code := (Go.Proofs.Tryd.f149.body).getD .skip
theorem cmp_Less_string_fn : FnOk PG 149 cmp_Less_string_c 17 [.tmp 4] := ⟨⟨Go.Proofs.Tryd.f149, by kernel_rfl, by kernel_rfl, by kernel_rfl, by kernel_rfl, by kernel_rfl⟩⟩
noncomputable def cmp_Less_string (a0 : ByteArray) (a1 : ByteArray) : Option Bool :=
 bnd1 (bnd (cmp_isNaN_string a0) fun r4 =>
 cnd r4 (bnd (cmp_isNaN_string a1) fun r7 =>
 cnd (!r7) (some true) (some (sLt a0 a1))) (some (sLt a0 a1))) fun v1 =>
 some v1
theorem cmp_Less_string_ok (a0 : ByteArray) (a1 : ByteArray) (r : Bool) (h : cmp_Less_string a0 a1 = some r) : Spec PG 149 [sT a0, sT a1] [] (bA r) [] := by
  unfold cmp_Less_string at h
  obtain ⟨v1, h2, h⟩ := bnd1_e h
  let q10_f : Fr := [(0, sA a0), (1, sA a1)]
  let q10_g : Hp := []
  let q10_f' : Fr := [(4, bA v1)]
  let q10_g' : Hp := []
  have R3 : Runs PG 17 0 (cL (cR cmp_Less_string_c)) q10_f q10_g (.nor q10_f' q10_g') := by
    obtain ⟨r4, h5, h2⟩ := bnd_e h2
    rcases cnd_e h2 with ⟨h6, h2⟩ | ⟨h6, h2⟩
    · obtain ⟨r7, h8, h2⟩ := bnd_e h2
      rcases cnd_e h2 with ⟨h9, h2⟩ | ⟨h9, h2⟩
      · have h2 := Option.some.inj h2
        subst h2
        exact Runs.path XTok PGmix [.r [.val (bA r4), .b true, .b true, .val (bA r7), .b true, .b true, .b true, .b true, .b true, .b true]] [] (an (cmp_isNaN_string_ok a0 r4 h5) (an h6 (an h6 (an (cmp_isNaN_string_ok a1 r7 h8) (an h6 (an h6 (an h9 (an h9 (an h9 h9))))))))) (by kernel_rfl)
      · have h2 := Option.some.inj h2
        subst h2
        exact Runs.path XTok PGmix [.r [.val (bA r4), .b true, .b true, .val (bA r7), .b true, .b true, .b false, .b false, .b false, .b false]] [] (an (cmp_isNaN_string_ok a0 r4 h5) (an h6 (an h6 (an (cmp_isNaN_string_ok a1 r7 h8) (an h6 (an h6 (an h9 (an h9 (an h9 h9))))))))) (by kernel_rfl)
    · have h2 := Option.some.inj h2
      subst h2
      exact Runs.path XTok PGmix [.r [.val (bA r4), .b false, .b false, .b false, .b false, .b false, .b false, .b false, .b false]] [] (an (cmp_isNaN_string_ok a0 r4 h5) (an h6 (an h6 (an h6 (an h6 (an (Eq.refl false) (an (Eq.refl false) (an (Eq.refl false) (Eq.refl false))))))))) (by kernel_rfl)
  have h := Option.some.inj h
  subst h
  exact Spec.path XTok PGmix cmp_Less_string_fn 0 [.r [], .s q10_f q10_g [] (.nor q10_f' q10_g')] R3 (by kernel_rfl)

noncomputable def slices_isNaN_string_c : Code := (Go.Proofs.Tryd.f169.body).getD .skip
theorem slices_isNaN_string_fn : FnOk PG 169 slices_isNaN_string_c 6 [.tmp 2] := ⟨⟨Go.Proofs.Tryd.f169, by kernel_rfl, by kernel_rfl, by kernel_rfl, by kernel_rfl, by kernel_rfl⟩⟩
noncomputable def slices_isNaN_string (a0 : ByteArray) : Option Bool :=
 some (sNe a0 a0)
theorem slices_isNaN_string_ok (a0 : ByteArray) (r : Bool) (h : slices_isNaN_string a0 = some r) : Spec PG 169 [sT a0] [] (bA r) [] := by
  unfold slices_isNaN_string at h
  have h := Option.some.inj h
  subst h
  exact Spec.path XTok PGmix slices_isNaN_string_fn 0 [.r [], .r []] trivial (by kernel_rfl)

noncomputable def slices_BinarySearch_string_string_c : Code := (Go.Proofs.Tryd.f132.body).getD .skip
theorem slices_BinarySearch_string_string_fn : FnOk PG 132 slices_BinarySearch_string_string_c 54 [.tmp 4, .tmp 5] := ⟨⟨Go.Proofs.Tryd.f132, by kernel_rfl, by kernel_rfl, by kernel_rfl, by kernel_rfl, by kernel_rfl⟩⟩
noncomputable def slices_BinarySearch_string_string_c0 : Code := cL (cL (cL (cR (cR (cR slices_BinarySearch_string_string_c)))))
noncomputable def slices_BinarySearch_string_string_R (r : Int × Bool) : Oc := .ret [(4, iA r.1), (5, bA r.2)] []
noncomputable def slices_BinarySearch_string_string_F0 (a0 : List ByteArray) (a1 : ByteArray) (y1 : Int) (y2 : Int) : Fr := [(0, lA 1 (List.map e_str a0)), (1, sA a1), (6, iA (a0.length : Int)), (7, iA y1), (8, iA y2)]
noncomputable def slices_BinarySearch_string_string_H0 (a0 : List ByteArray) (a1 : ByteArray) (y1 : Int) (y2 : Int) : Hp := []
noncomputable def slices_BinarySearch_string_string_B0 (a0 : List ByteArray) (a1 : ByteArray) (s : Int × Int) : Oc := .ex 0 [(0, lA 1 (List.map e_str a0)), (1, sA a1), (6, iA (a0.length : Int)), (7, iA s.1)] []
noncomputable def slices_BinarySearch_string_string_b0 (a0 : List ByteArray) (a1 : ByteArray) (y1 : Int) (y2 : Int) : Option (Stp (Int × Int) (Int × Bool)) :=
 cnd (decide (y1 < y2)) (grd ((0 : Int) ≤ 1) <|
 bnd (atI a0 (IntKind.i64.wrap ((IntKind.u64.wrap (w64 (y1 + y2))) / 2 ^ min (Int.toNat 1) 64))) fun x5 =>
 bnd (cmp_Less_string x5 a1) fun r7 =>
 bnd2 (cnd r7 (some (w64 ((IntKind.i64.wrap ((IntKind.u64.wrap (w64 (y1 + y2))) / 2 ^ min (Int.toNat 1) 64)) + 1), y2)) (some (y1, IntKind.i64.wrap ((IntKind.u64.wrap (w64 (y1 + y2))) / 2 ^ min (Int.toNat 1) 64)))) fun v9 v10 =>
 some (.go (v9, v10))) (some (.brk (y1, y2)))
theorem slices_BinarySearch_string_string_b0_r (a0 : List ByteArray) (a1 : ByteArray) (y1 : Int) (y2 : Int) (o : Stp (Int × Int) (Int × Bool)) (h : slices_BinarySearch_string_string_b0 a0 a1 y1 y2 = some o) :
    Runs PG 54 0 slices_BinarySearch_string_string_c0 (slices_BinarySearch_string_string_F0 a0 a1 y1 y2) (slices_BinarySearch_string_string_H0 a0 a1 y1 y2) (stpOc (fun s' => .nor (slices_BinarySearch_string_string_F0 a0 a1 s'.1 s'.2) (slices_BinarySearch_string_string_H0 a0 a1 s'.1 s'.2)) (slices_BinarySearch_string_string_B0 a0 a1) slices_BinarySearch_string_string_R o) := by
  unfold slices_BinarySearch_string_string_b0 at h
  rcases cnd_e h with ⟨h3, h⟩ | ⟨h3, h⟩
  · obtain ⟨h4, h⟩ := grd_e h
    obtain ⟨x5, h6, h⟩ := bnd_e h
    obtain ⟨r7, h8, h⟩ := bnd_e h
    obtain ⟨v9, v10, h11, h⟩ := bnd2_e h
    let q18_f : Fr := [(0, lA 1 (List.map e_str a0)), (1, sA a1), (6, iA (a0.length : Int)), (7, iA y1), (8, iA y2), (9, iA (IntKind.i64.wrap ((IntKind.u64.wrap (w64 (y1 + y2))) / 2 ^ min (Int.toNat 1) 64))), (27, bA r7)]
    let q18_g : Hp := []
    let q18_f' : Fr := [(0, lA 1 (List.map e_str a0)), (1, sA a1), (6, iA (a0.length : Int)), (7, iA v9), (8, iA v10)]
    let q18_g' : Hp := []
    have R12 : Runs PG 54 0 (cR (cR (cL (cR slices_BinarySearch_string_string_c0)))) q18_f q18_g (.nor q18_f' q18_g') := by
      rcases cnd_e h11 with ⟨h13, h11⟩ | ⟨h13, h11⟩
      · have h11 := Option.some.inj h11
        have q14 := (Prod.mk.inj h11).1
        have q15 := (Prod.mk.inj h11).2
        subst q14
        subst q15
        exact Runs.path XTok PGmix [.b true, .r []] [] h13 (by kernel_rfl)
      · have h11 := Option.some.inj h11
        have q16 := (Prod.mk.inj h11).1
        have q17 := (Prod.mk.inj h11).2
        subst q16
        subst q17
        exact Runs.path XTok PGmix [.b false, .r []] [] h13 (by kernel_rfl)
    have h := Option.some.inj h
    subst h
    exact Runs.path XTok PGmix [.r [], .b true, .r [], .r [.el [sC x5], .val (bA r7)], .s q18_f q18_g [] (.nor q18_f' q18_g')] [] (an h3 (an h4 (an (idx_ok e_str h6) (an (cmp_Less_string_ok x5 a1 r7 h8) R12)))) (by kernel_rfl)
  · have h := Option.some.inj h
    subst h
    exact Runs.path XTok PGmix [.r [], .b false] [] h3 (by kernel_rfl)
theorem slices_BinarySearch_string_string_l0 (a0 : List ByteArray) (a1 : ByteArray) (y1 : Int) (y2 : Int) (r : Fin' (Int × Int) (Int × Bool)) (h : loop (fun s => slices_BinarySearch_string_string_b0 a0 a1 s.1 s.2) (y1, y2) = some r) : Runs PG 54 0 (cL (cL (cR (cR (cR slices_BinarySearch_string_string_c))))) (slices_BinarySearch_string_string_F0 a0 a1 y1 y2) (slices_BinarySearch_string_string_H0 a0 a1 y1 y2) (finOc (slices_BinarySearch_string_string_B0 a0 a1) slices_BinarySearch_string_string_R r) :=
  Runs.loop' (by kernel_rfl) (loop_rounds (σ := (Int × Int)) (ρ := (Int × Bool)) (body := fun s => slices_BinarySearch_string_string_b0 a0 a1 s.1 s.2) (F := fun s => slices_BinarySearch_string_string_F0 a0 a1 s.1 s.2) (H := fun s => slices_BinarySearch_string_string_H0 a0 a1 s.1 s.2) (B := slices_BinarySearch_string_string_B0 a0 a1) (R := slices_BinarySearch_string_string_R) (fun _ => rfl) (fun _ => rfl) (fun s o h => slices_BinarySearch_string_string_b0_r a0 a1 s.1 s.2 o h) h)
noncomputable def slices_BinarySearch_string_string (a0 : List ByteArray) (a1 : ByteArray) : Option (Int × Bool) :=
 aft2 (loop (fun s => slices_BinarySearch_string_string_b0 a0 a1 s.1 s.2) (0, (a0.length : Int))) (fun u19 u20 =>
 bnd1 (cnd (decide (u19 < (a0.length : Int))) (bnd (atI a0 u19) fun x27 =>
 cnd (sEq x27 a1) (some true) (bnd (atI a0 u19) fun x30 =>
 bnd (slices_isNaN_string x30) fun r32 =>
 cnd r32 (bnd (slices_isNaN_string a1) fun r35 =>
 some r35) (some false))) (some false)) fun v23 =>
 some (u19, v23))
 (fun r22 =>
 some r22)
theorem slices_BinarySearch_string_string_ok (a0 : List ByteArray) (a1 : ByteArray) (r : Int × Bool) (h : slices_BinarySearch_string_string a0 a1 = some r) : Spec PG 132 [lT 1 (List.map e_str a0), sT a1] [] (.tup [iT r.1, bT r.2]) [] := by
  unfold slices_BinarySearch_string_string at h
  rcases aft2_e h with ⟨u19, u20, h21, h⟩ | ⟨r22, h21, h⟩
  · obtain ⟨v23, h24, h⟩ := bnd1_e h
    let q37_f : Fr := [(0, lA 1 (List.map e_str a0)), (1, sA a1), (6, iA (a0.length : Int)), (7, iA u19)]
    let q37_g : Hp := []
    let q37_f' : Fr := [(4, iA u19), (5, bA v23)]
    let q37_g' : Hp := []
    have R25 : Runs PG 54 0 (cL (cR (cR (cR (cR slices_BinarySearch_string_string_c))))) q37_f q37_g (.nor q37_f' q37_g') := by
      rcases cnd_e h24 with ⟨h26, h24⟩ | ⟨h26, h24⟩
      · obtain ⟨x27, h28, h24⟩ := bnd_e h24
        rcases cnd_e h24 with ⟨h29, h24⟩ | ⟨h29, h24⟩
        · have h24 := Option.some.inj h24
          subst h24
          exact Runs.path XTok PGmix [.r [.b true, .b true, .b true, .el [sC x27], .b true, .b true, .b true, .b true, .b true, .b true, .b true, .b true, .b true, .b true, .b true, .b true, .b true, .b true]] [] (an h26 (an h26 (an h26 (an (idx_ok e_str h28) (an h26 (an h26 (an h26 (an h26 (an h29 (an h29 (an h29 (an h29 (an h29 (an h29 (an h29 (an h26 (an h29 h26))))))))))))))))) (by kernel_rfl)
        · obtain ⟨x30, h31, h24⟩ := bnd_e h24
          obtain ⟨r32, h33, h24⟩ := bnd_e h24
          rcases cnd_e h24 with ⟨h34, h24⟩ | ⟨h34, h24⟩
          · obtain ⟨r35, h36, h24⟩ := bnd_e h24
            have h24 := Option.some.inj h24
            subst h24
            exact Runs.path XTok PGmix [.r [.b true, .b true, .b true, .el [sC x27], .b true, .b true, .b true, .b true, .b false, .b false, .b false, .el [sC x30], .b false, .b false, .val (bA r32), .b false, .b true, .b true, .val (bA r35), .b false, .b true, .b true, .b false, .b true]] [] (an h26 (an h26 (an h26 (an (idx_ok e_str h28) (an h26 (an h26 (an h26 (an h26 (an h29 (an h29 (an h29 (an (idx_ok e_str h31) (an h29 (an h29 (an (slices_isNaN_string_ok x30 r32 h33) (an h29 (an h34 (an h34 (an (slices_isNaN_string_ok a1 r35 h36) (an h29 (an h34 (an h26 (an h29 h26))))))))))))))))))))))) (by kernel_rfl)
          · have h24 := Option.some.inj h24
            subst h24
            exact Runs.path XTok PGmix [.r [.b true, .b true, .b true, .el [sC x27], .b true, .b true, .b true, .b true, .b false, .b false, .b false, .el [sC x30], .b false, .b false, .val (bA r32), .b false, .b false, .b false, .b false, .b false, .b true, .b false, .b true]] [] (an h26 (an h26 (an h26 (an (idx_ok e_str h28) (an h26 (an h26 (an h26 (an h26 (an h29 (an h29 (an h29 (an (idx_ok e_str h31) (an h29 (an h29 (an (slices_isNaN_string_ok x30 r32 h33) (an h29 (an h34 (an h34 (an h29 (an h34 (an h26 (an h29 h26)))))))))))))))))))))) (by kernel_rfl)
      · have h24 := Option.some.inj h24
        subst h24
        exact Runs.path XTok PGmix [.r [.b false, .b false, .b false, .b false, .b false, .b false, .b false, .b false, .b false]] [] (an h26 (an h26 (an h26 (an h26 (an h26 (an h26 (an h26 (an h26 h26)))))))) (by kernel_rfl)
    have h := Option.some.inj h
    subst h
    exact Spec.path XTok PGmix slices_BinarySearch_string_string_fn 0 [.r [], .r [.eq 11 (iA (a0.length : Int))], .r [], .s (slices_BinarySearch_string_string_F0 a0 a1 0 (a0.length : Int)) (slices_BinarySearch_string_string_H0 a0 a1 0 (a0.length : Int)) [] (slices_BinarySearch_string_string_B0 a0 a1 (u19, u20)), .s q37_f q37_g [] (.nor q37_f' q37_g')] (an (leni_eq e_str a0) (an (slices_BinarySearch_string_string_l0 a0 a1 0 (a0.length : Int) (.fin (u19, u20)) h21) R25)) (by kernel_rfl)
  · have h := Option.some.inj h
    subst h
    exact Spec.path XTok PGmix slices_BinarySearch_string_string_fn 0 [.r [], .r [.eq 11 (iA (a0.length : Int))], .r [], .s (slices_BinarySearch_string_string_F0 a0 a1 0 (a0.length : Int)) (slices_BinarySearch_string_string_H0 a0 a1 0 (a0.length : Int)) [] (slices_BinarySearch_string_string_R r22)] (an (leni_eq e_str a0) (slices_BinarySearch_string_string_l0 a0 a1 0 (a0.length : Int) (.ret r22) h21)) (by kernel_rfl)

noncomputable def nl_has_c : Code := (Go.Proofs.Tryd.f84.body).getD .skip
theorem nl_has_fn : FnOk PG 84 nl_has_c 14 [.tmp 4] := ⟨⟨Go.Proofs.Tryd.f84, by kernel_rfl, by kernel_rfl, by kernel_rfl, by kernel_rfl, by kernel_rfl⟩⟩
noncomputable def nl_has (a0 : List ByteArray) (a1 : ByteArray) : Option Bool :=
 bnd (slices_BinarySearch_string_string a0 a1) fun r1 =>
 some r1.2
theorem nl_has_ok (a0 : List ByteArray) (a1 : ByteArray) (r : Bool) (h : nl_has a0 a1 = some r) : Spec PG 84 [lT 1 (List.map e_str a0), sT a1] [] (bA r) [] := by
  unfold nl_has at h
  obtain ⟨r1, h2, h⟩ := bnd_e h
  have h := Option.some.inj h
  subst h
  exact Spec.path XTok PGmix nl_has_fn 0 [.r [], .r [.val (.tup [iT r1.1, bT r1.2])], .r []] (slices_BinarySearch_string_string_ok a0 a1 r1 h2) (by kernel_rfl)

noncomputable def nl_Without_2_c : Code := (Go.Proofs.Tryd.f83.body).getD .skip
theorem nl_Without_2_fn : FnOk PG 83 nl_Without_2_c 8 [.tmp 3] := ⟨⟨Go.Proofs.Tryd.f83, by kernel_rfl, by kernel_rfl, by kernel_rfl, by kernel_rfl, by kernel_rfl⟩⟩
noncomputable def nl_Without_2 (a0 : Part) (a1 : List ByteArray) : Option Bool :=
 bnd (nl_has a1 a0.Name) fun r1 =>
 some r1
theorem nl_Without_2_ok (a0 : Part) (a1 : List ByteArray) (r : Bool) (h : nl_Without_2 a0 a1 = some r) : Spec PG 83 [gT (e_Part a0), .v (.c (.ptr [.sl 1 (List.map e_str a1)]))] [] (bA r) [] := by
  unfold nl_Without_2 at h
  obtain ⟨r1, h2, h⟩ := bnd_e h
  have h := Option.some.inj h
  subst h
  exact Spec.path XTok PGmix nl_Without_2_fn 0 [.r [.id 0], .r [.val (bA r1)]] (nl_has_ok a1 a0.Name r1 h2) (by kernel_rfl)

noncomputable def slices_IndexFunc_api_Pin_api_Pin_c : Code := (Go.Proofs.Tryd.f133.body).getD .skip
theorem slices_IndexFunc_api_Pin_api_Pin_fn : FnOk PG 133 slices_IndexFunc_api_Pin_api_Pin_c 19 [.tmp 4] := ⟨⟨Go.Proofs.Tryd.f133, by kernel_rfl, by kernel_rfl, by kernel_rfl, by kernel_rfl, by kernel_rfl⟩⟩
noncomputable def slices_IndexFunc_api_Pin_api_Pin_c0 : Code := cL (cL (cR (cL (cR slices_IndexFunc_api_Pin_api_Pin_c))))
noncomputable def slices_IndexFunc_api_Pin_api_Pin_R (r : Int) : Oc := .ret [(4, iA r)] []
noncomputable def slices_IndexFunc_api_Pin_api_Pin_F0 (a1_k : FuncId) (a1_c : List C) (a0 : List Pin) (i1 : Nat) : Fr := [(0, lA 2 (List.map e_Pin a0)), (1, .t (.v (.c (.fn a1_k a1_c)))), (6, lA 2 (List.map e_Pin a0)), (7, iA (a0.length : Int)), (8, iA (i1 : Int))]
noncomputable def slices_IndexFunc_api_Pin_api_Pin_H0 (a1_k : FuncId) (a1_c : List C) (a0 : List Pin) (i1 : Nat) : Hp := []
noncomputable def slices_IndexFunc_api_Pin_api_Pin_B0 (a1_k : FuncId) (a1_c : List C) (a0 : List Pin) (s : Unit) : Oc := .ex 0 [] []
noncomputable def slices_IndexFunc_api_Pin_api_Pin_b0 (a1 : Pin → Option Bool) (a0 : List Pin) (i1 : Nat) : Option (Stp Unit Int) :=
 bnd (atI a0 (i1 : Int)) fun x2 =>
 bnd (a1 x2) fun r4 =>
 cnd r4 (some (.ret (i1 : Int))) (some (.go ()))
theorem slices_IndexFunc_api_Pin_api_Pin_b0_r (a1_k : FuncId) (a1_c : List C) (a1 : Pin → Option Bool) (a1_ok : ∀ (z0 : Pin) (r : Bool), a1 z0 = some r → Spec PG a1_k ([gT (e_Pin z0)] ++ List.map (fun x => TV.v (CV.c x)) a1_c) [] (bA r) []) (a0 : List Pin) (i1 : Nat) (o : Stp Unit Int) (hi : i1 < a0.length) (h : slices_IndexFunc_api_Pin_api_Pin_b0 a1 a0 i1 = some o) :
    Runs PG 19 0 slices_IndexFunc_api_Pin_api_Pin_c0 (slices_IndexFunc_api_Pin_api_Pin_F0 a1_k a1_c a0 i1 ) (slices_IndexFunc_api_Pin_api_Pin_H0 a1_k a1_c a0 i1 ) (stpOc (fun s' => .nor (slices_IndexFunc_api_Pin_api_Pin_F0 a1_k a1_c a0 (i1 + 1) ) (slices_IndexFunc_api_Pin_api_Pin_H0 a1_k a1_c a0 (i1 + 1) )) (slices_IndexFunc_api_Pin_api_Pin_B0 a1_k a1_c a0) slices_IndexFunc_api_Pin_api_Pin_R o) := by
  unfold slices_IndexFunc_api_Pin_api_Pin_b0 at h
  refine Runs.len (s := 6) (sz := 2) (xs := List.map e_Pin a0) (by kernel_rfl) fun hl => ?_
  have hM : a0.length ≤ lim := len_of hl
  obtain ⟨x2, h3, h⟩ := bnd_e h
  obtain ⟨r4, h5, h⟩ := bnd_e h
  rcases cnd_e h with ⟨h6, h⟩ | ⟨h6, h⟩
  · have h := Option.some.inj h
    subst h
    exact Runs.path XTok PGmix [.r [], .b true, .r [], .r [.el (e_Pin x2), .val (bA r4)], .b true, .r []] [] (an (lt_true hi) (an (idx_ok e_Pin h3) (an (a1_ok x2 r4 h5) h6))) (by kernel_rfl)
  · have h := Option.some.inj h
    subst h
    exact Runs.path XTok PGmix [.r [], .b true, .r [], .r [.el (e_Pin x2), .val (bA r4)], .b false, .r [.eq 18 (iA ((i1 + 1 : Nat) : Int))]] [] (an (lt_true hi) (an (idx_ok e_Pin h3) (an (a1_ok x2 r4 h5) (an h6 (wrap_eq hi hM))))) (by kernel_rfl)
theorem slices_IndexFunc_api_Pin_api_Pin_b0_e (a1_k : FuncId) (a1_c : List C) (a1 : Pin → Option Bool) (a1_ok : ∀ (z0 : Pin) (r : Bool), a1 z0 = some r → Spec PG a1_k ([gT (e_Pin z0)] ++ List.map (fun x => TV.v (CV.c x)) a1_c) [] (bA r) []) (a0 : List Pin) : Runs PG 19 0 slices_IndexFunc_api_Pin_api_Pin_c0 (slices_IndexFunc_api_Pin_api_Pin_F0 a1_k a1_c a0 (a0.length) ) (slices_IndexFunc_api_Pin_api_Pin_H0 a1_k a1_c a0 (a0.length) ) (slices_IndexFunc_api_Pin_api_Pin_B0 a1_k a1_c a0 ()) := by
  exact Runs.path XTok PGmix [.r [], .b false] [] (lt_false (a0.length)) (by kernel_rfl)
theorem slices_IndexFunc_api_Pin_api_Pin_l0 (a1_k : FuncId) (a1_c : List C) (a1 : Pin → Option Bool) (a1_ok : ∀ (z0 : Pin) (r : Bool), a1 z0 = some r → Spec PG a1_k ([gT (e_Pin z0)] ++ List.map (fun x => TV.v (CV.c x)) a1_c) [] (bA r) []) (a0 : List Pin) (r : Fin' Unit Int) (h : forN (fun i1 s => slices_IndexFunc_api_Pin_api_Pin_b0 a1 a0 i1 ) (a0.length) 0 () = some r) : Runs PG 19 0 (cL (cR (cL (cR slices_IndexFunc_api_Pin_api_Pin_c)))) (slices_IndexFunc_api_Pin_api_Pin_F0 a1_k a1_c a0 0 ) (slices_IndexFunc_api_Pin_api_Pin_H0 a1_k a1_c a0 0 ) (finOc (slices_IndexFunc_api_Pin_api_Pin_B0 a1_k a1_c a0) slices_IndexFunc_api_Pin_api_Pin_R r) :=
  Runs.loop' (by kernel_rfl) (forN_rounds (σ := Unit) (ρ := Int) (body := fun i1 s => slices_IndexFunc_api_Pin_api_Pin_b0 a1 a0 i1 ) (F := fun i1 s => slices_IndexFunc_api_Pin_api_Pin_F0 a1_k a1_c a0 i1 ) (H := fun i1 s => slices_IndexFunc_api_Pin_api_Pin_H0 a1_k a1_c a0 i1 ) (B := slices_IndexFunc_api_Pin_api_Pin_B0 a1_k a1_c a0) (R := slices_IndexFunc_api_Pin_api_Pin_R) (M := a0.length) (fun _ => rfl) (fun _ => rfl) (fun s => slices_IndexFunc_api_Pin_api_Pin_b0_e a1_k a1_c a1 a1_ok a0 ) (fun i s o hi h => slices_IndexFunc_api_Pin_api_Pin_b0_r a1_k a1_c a1 a1_ok a0 i o hi h) _ 0 _ r (Nat.zero_add _) h)
noncomputable def slices_IndexFunc_api_Pin_api_Pin (a0 : List Pin) (a1 : Pin → Option Bool) : Option Int :=
 aft0 (forN (fun i1 s => slices_IndexFunc_api_Pin_api_Pin_b0 a1 a0 i1 ) (a0.length) 0 ()) (
 some (-1))
 (fun r8 =>
 some r8)
theorem slices_IndexFunc_api_Pin_api_Pin_ok (a0 : List Pin) (a1_k : FuncId) (a1_c : List C) (a1 : Pin → Option Bool) (a1_ok : ∀ (z0 : Pin) (r : Bool), a1 z0 = some r → Spec PG a1_k ([gT (e_Pin z0)] ++ List.map (fun x => TV.v (CV.c x)) a1_c) [] (bA r) []) (r : Int) (h : slices_IndexFunc_api_Pin_api_Pin a0 a1 = some r) : Spec PG 133 [lT 2 (List.map e_Pin a0), .v (.c (.fn a1_k a1_c))] [] (iA r) [] := by
  unfold slices_IndexFunc_api_Pin_api_Pin at h
  rcases aft0_e h with ⟨h7, h⟩ | ⟨r8, h7, h⟩
  · have h := Option.some.inj h
    subst h
    exact Spec.path XTok PGmix slices_IndexFunc_api_Pin_api_Pin_fn 0 [.r [], .r [.eq 7 (iA (a0.length : Int))], .s (slices_IndexFunc_api_Pin_api_Pin_F0 a1_k a1_c a0 0 ) (slices_IndexFunc_api_Pin_api_Pin_H0 a1_k a1_c a0 0 ) [] (slices_IndexFunc_api_Pin_api_Pin_B0 a1_k a1_c a0 ()), .r []] (an (leni_eq e_Pin a0) (slices_IndexFunc_api_Pin_api_Pin_l0 a1_k a1_c a1 a1_ok a0 (.fin ()) h7)) (by kernel_rfl)
  · have h := Option.some.inj h
    subst h
    exact Spec.path XTok PGmix slices_IndexFunc_api_Pin_api_Pin_fn 0 [.r [], .r [.eq 7 (iA (a0.length : Int))], .s (slices_IndexFunc_api_Pin_api_Pin_F0 a1_k a1_c a0 0 ) (slices_IndexFunc_api_Pin_api_Pin_H0 a1_k a1_c a0 0 ) [] (slices_IndexFunc_api_Pin_api_Pin_R r8)] (an (leni_eq e_Pin a0) (slices_IndexFunc_api_Pin_api_Pin_l0 a1_k a1_c a1 a1_ok a0 (.ret r8) h7)) (by kernel_rfl)

noncomputable def slices_IndexFunc_api_Pin_api_Pin_own_c : Code := (Go.Proofs.Tryd.f133.body).getD .skip
theorem slices_IndexFunc_api_Pin_api_Pin_own_fn : FnOk PG 133 slices_IndexFunc_api_Pin_api_Pin_own_c 19 [.tmp 4] := ⟨⟨Go.Proofs.Tryd.f133, by kernel_rfl, by kernel_rfl, by kernel_rfl, by kernel_rfl, by kernel_rfl⟩⟩
noncomputable def slices_IndexFunc_api_Pin_api_Pin_own_c0 : Code := cL (cL (cR (cL (cR slices_IndexFunc_api_Pin_api_Pin_own_c))))
noncomputable def slices_IndexFunc_api_Pin_api_Pin_own_R (r : Int × List Pin) : Oc := .ret [(4, iA r.1)] [(0, .row 28 2 (List.map e_Pin r.2))]
noncomputable def slices_IndexFunc_api_Pin_api_Pin_own_F0 (a1_k : FuncId) (a1_c : List C) (a0 : List Pin) (i1 : Nat) : Fr := [(0, .t (.v (.rt 0))), (1, .t (.v (.c (.fn a1_k a1_c)))), (6, .t (.v (.rt 0))), (7, iA (a0.length : Int)), (8, iA (i1 : Int))]
noncomputable def slices_IndexFunc_api_Pin_api_Pin_own_H0 (a1_k : FuncId) (a1_c : List C) (a0 : List Pin) (i1 : Nat) : Hp := [(0, .row 28 2 (List.map e_Pin a0))]
noncomputable def slices_IndexFunc_api_Pin_api_Pin_own_B0 (a1_k : FuncId) (a1_c : List C) (a0 : List Pin) (s : Unit) : Oc := .ex 0 [] [(0, .row 28 2 (List.map e_Pin a0))]
noncomputable def slices_IndexFunc_api_Pin_api_Pin_own_b0 (a1 : Pin → Option Bool) (a0 : List Pin) (i1 : Nat) : Option (Stp Unit (Int × List Pin)) :=
 bnd (atI a0 (i1 : Int)) fun x2 =>
 bnd (a1 x2) fun r4 =>
 cnd r4 (some (.ret ((i1 : Int), a0))) (some (.go ()))
theorem slices_IndexFunc_api_Pin_api_Pin_own_b0_r (a1_k : FuncId) (a1_c : List C) (a1 : Pin → Option Bool) (a1_ok : ∀ (z0 : Pin) (r : Bool), a1 z0 = some r → Spec PG a1_k ([gT (e_Pin z0)] ++ List.map (fun x => TV.v (CV.c x)) a1_c) [] (bA r) []) (a0 : List Pin) (i1 : Nat) (o : Stp Unit (Int × List Pin)) (hi : i1 < a0.length) (h : slices_IndexFunc_api_Pin_api_Pin_own_b0 a1 a0 i1 = some o) :
    Runs PG 19 1 slices_IndexFunc_api_Pin_api_Pin_own_c0 (slices_IndexFunc_api_Pin_api_Pin_own_F0 a1_k a1_c a0 i1 ) (slices_IndexFunc_api_Pin_api_Pin_own_H0 a1_k a1_c a0 i1 ) (stpOc (fun s' => .nor (slices_IndexFunc_api_Pin_api_Pin_own_F0 a1_k a1_c a0 (i1 + 1) ) (slices_IndexFunc_api_Pin_api_Pin_own_H0 a1_k a1_c a0 (i1 + 1) )) (slices_IndexFunc_api_Pin_api_Pin_own_B0 a1_k a1_c a0) slices_IndexFunc_api_Pin_api_Pin_own_R o) := by
  unfold slices_IndexFunc_api_Pin_api_Pin_own_b0 at h
  refine Runs.rlen (id := 0) (e := 28) (sz := 2) (xs := List.map e_Pin a0) (by kernel_rfl) fun hl => ?_
  have hM : a0.length ≤ lim := len_of hl
  obtain ⟨x2, h3, h⟩ := bnd_e h
  obtain ⟨r4, h5, h⟩ := bnd_e h
  rcases cnd_e h with ⟨h6, h⟩ | ⟨h6, h⟩
  · have h := Option.some.inj h
    subst h
    exact Runs.path XTok PGmix [.r [], .b true, .r [], .r [.el (e_Pin x2), .val (bA r4)], .b true, .r []] [] (an (lt_true hi) (an (idx_lt e_Pin h3) (an (idx_el e_Pin h3) (an (a1_ok x2 r4 h5) h6)))) (by kernel_rfl)
  · have h := Option.some.inj h
    subst h
    exact Runs.path XTok PGmix [.r [], .b true, .r [], .r [.el (e_Pin x2), .val (bA r4)], .b false, .r [.eq 18 (iA ((i1 + 1 : Nat) : Int))]] [] (an (lt_true hi) (an (idx_lt e_Pin h3) (an (idx_el e_Pin h3) (an (a1_ok x2 r4 h5) (an h6 (wrap_eq hi hM)))))) (by kernel_rfl)
theorem slices_IndexFunc_api_Pin_api_Pin_own_b0_e (a1_k : FuncId) (a1_c : List C) (a1 : Pin → Option Bool) (a1_ok : ∀ (z0 : Pin) (r : Bool), a1 z0 = some r → Spec PG a1_k ([gT (e_Pin z0)] ++ List.map (fun x => TV.v (CV.c x)) a1_c) [] (bA r) []) (a0 : List Pin) : Runs PG 19 1 slices_IndexFunc_api_Pin_api_Pin_own_c0 (slices_IndexFunc_api_Pin_api_Pin_own_F0 a1_k a1_c a0 (a0.length) ) (slices_IndexFunc_api_Pin_api_Pin_own_H0 a1_k a1_c a0 (a0.length) ) (slices_IndexFunc_api_Pin_api_Pin_own_B0 a1_k a1_c a0 ()) := by
  exact Runs.path XTok PGmix [.r [], .b false] [] (lt_false (a0.length)) (by kernel_rfl)
theorem slices_IndexFunc_api_Pin_api_Pin_own_l0 (a1_k : FuncId) (a1_c : List C) (a1 : Pin → Option Bool) (a1_ok : ∀ (z0 : Pin) (r : Bool), a1 z0 = some r → Spec PG a1_k ([gT (e_Pin z0)] ++ List.map (fun x => TV.v (CV.c x)) a1_c) [] (bA r) []) (a0 : List Pin) (r : Fin' Unit (Int × List Pin)) (h : forN (fun i1 s => slices_IndexFunc_api_Pin_api_Pin_own_b0 a1 a0 i1 ) (a0.length) 0 () = some r) : Runs PG 19 1 (cL (cR (cL (cR slices_IndexFunc_api_Pin_api_Pin_own_c)))) (slices_IndexFunc_api_Pin_api_Pin_own_F0 a1_k a1_c a0 0 ) (slices_IndexFunc_api_Pin_api_Pin_own_H0 a1_k a1_c a0 0 ) (finOc (slices_IndexFunc_api_Pin_api_Pin_own_B0 a1_k a1_c a0) slices_IndexFunc_api_Pin_api_Pin_own_R r) :=
  Runs.loop' (by kernel_rfl) (forN_rounds (σ := Unit) (ρ := (Int × List Pin)) (body := fun i1 s => slices_IndexFunc_api_Pin_api_Pin_own_b0 a1 a0 i1 ) (F := fun i1 s => slices_IndexFunc_api_Pin_api_Pin_own_F0 a1_k a1_c a0 i1 ) (H := fun i1 s => slices_IndexFunc_api_Pin_api_Pin_own_H0 a1_k a1_c a0 i1 ) (B := slices_IndexFunc_api_Pin_api_Pin_own_B0 a1_k a1_c a0) (R := slices_IndexFunc_api_Pin_api_Pin_own_R) (M := a0.length) (fun _ => rfl) (fun _ => rfl) (fun s => slices_IndexFunc_api_Pin_api_Pin_own_b0_e a1_k a1_c a1 a1_ok a0 ) (fun i s o hi h => slices_IndexFunc_api_Pin_api_Pin_own_b0_r a1_k a1_c a1 a1_ok a0 i o hi h) _ 0 _ r (Nat.zero_add _) h)
noncomputable def slices_IndexFunc_api_Pin_api_Pin_own (a0 : List Pin) (a1 : Pin → Option Bool) : Option (Int × List Pin) :=
 aft0 (forN (fun i1 s => slices_IndexFunc_api_Pin_api_Pin_own_b0 a1 a0 i1 ) (a0.length) 0 ()) (
 some ((-1), a0))
 (fun r8 =>
 some r8)
theorem slices_IndexFunc_api_Pin_api_Pin_own_ok (a0 : List Pin) (a1_k : FuncId) (a1_c : List C) (a1 : Pin → Option Bool) (a1_ok : ∀ (z0 : Pin) (r : Bool), a1 z0 = some r → Spec PG a1_k ([gT (e_Pin z0)] ++ List.map (fun x => TV.v (CV.c x)) a1_c) [] (bA r) []) (r : Int × List Pin) (h : slices_IndexFunc_api_Pin_api_Pin_own a0 a1 = some r) : Spec PG 133 [.v (.rt 0), .v (.c (.fn a1_k a1_c))] [(0, .row 28 2 (List.map e_Pin a0))] (iA r.1) [(0, .row 28 2 (List.map e_Pin r.2))] := by
  unfold slices_IndexFunc_api_Pin_api_Pin_own at h
  rcases aft0_e h with ⟨h7, h⟩ | ⟨r8, h7, h⟩
  · have h := Option.some.inj h
    subst h
    exact Spec.path XTok PGmix slices_IndexFunc_api_Pin_api_Pin_own_fn 1 [.r [], .r [.eq 7 (iA (a0.length : Int))], .s (slices_IndexFunc_api_Pin_api_Pin_own_F0 a1_k a1_c a0 0 ) (slices_IndexFunc_api_Pin_api_Pin_own_H0 a1_k a1_c a0 0 ) [] (slices_IndexFunc_api_Pin_api_Pin_own_B0 a1_k a1_c a0 ()), .r []] (an (leni_eq e_Pin a0) (slices_IndexFunc_api_Pin_api_Pin_own_l0 a1_k a1_c a1 a1_ok a0 (.fin ()) h7)) (by kernel_rfl)
  · have h := Option.some.inj h
    subst h
    exact Spec.path XTok PGmix slices_IndexFunc_api_Pin_api_Pin_own_fn 1 [.r [], .r [.eq 7 (iA (a0.length : Int))], .s (slices_IndexFunc_api_Pin_api_Pin_own_F0 a1_k a1_c a0 0 ) (slices_IndexFunc_api_Pin_api_Pin_own_H0 a1_k a1_c a0 0 ) [] (slices_IndexFunc_api_Pin_api_Pin_own_R r8)] (an (leni_eq e_Pin a0) (slices_IndexFunc_api_Pin_api_Pin_own_l0 a1_k a1_c a1 a1_ok a0 (.ret r8) h7)) (by kernel_rfl)

noncomputable def slices_DeleteFunc_api_Pin_api_Pin_c : Code := (Go.Proofs.Tryd.f85.body).getD .skip
theorem slices_DeleteFunc_api_Pin_api_Pin_fn : FnOk PG 85 slices_DeleteFunc_api_Pin_api_Pin_c 42 [.tmp 4] := ⟨⟨Go.Proofs.Tryd.f85, by kernel_rfl, by kernel_rfl, by kernel_rfl, by kernel_rfl, by kernel_rfl⟩⟩
noncomputable def slices_DeleteFunc_api_Pin_api_Pin_c0 : Code := cL (cL (cR (cL (cR (cR (cR slices_DeleteFunc_api_Pin_api_Pin_c))))))
noncomputable def slices_DeleteFunc_api_Pin_api_Pin_R (r : List Pin) : Oc := .ret [(4, .t (.v (.rt 1)))] [(1, .row 28 2 (List.map e_Pin r))]
noncomputable def slices_DeleteFunc_api_Pin_api_Pin_F0 (a1_k : FuncId) (a1_c : List C) (y4 : Int) (y5 : Int) (y6 : List Pin) : Fr := [(0, .t (.v (.rt 1))), (1, .t (.v (.c (.fn a1_k a1_c)))), (5, iA y4), (6, iA y5)]
noncomputable def slices_DeleteFunc_api_Pin_api_Pin_H0 (a1_k : FuncId) (a1_c : List C) (y4 : Int) (y5 : Int) (y6 : List Pin) : Hp := [(1, .row 28 2 (List.map e_Pin y6))]
noncomputable def slices_DeleteFunc_api_Pin_api_Pin_B0 (a1_k : FuncId) (a1_c : List C) (s : Int × Int × List Pin) : Oc := .ex 0 [(0, .t (.v (.rt 1))), (5, iA s.1)] [(1, .row 28 2 (List.map e_Pin s.2.2))]
noncomputable def slices_DeleteFunc_api_Pin_api_Pin_b0 (a1 : Pin → Option Bool) (y4 : Int) (y5 : Int) (y6 : List Pin) : Option (Stp (Int × Int × List Pin) (List Pin)) :=
 cnd (decide (y5 < (y6.length : Int))) (bnd (atI y6 y5) fun x8 =>
 bnd (a1 x8) fun r10 =>
 bnd2 (cnd (!r10) (bnd (atI y6 y4) fun x17 =>
 some (w64 (y4 + 1), y6.set (Int.toNat y4) x8)) (some (y4, y6))) fun v12 v13 =>
 some (.go (v12, w64 (y5 + 1), v13))) (some (.brk (y4, y5, y6)))
theorem slices_DeleteFunc_api_Pin_api_Pin_b0_r (a1_k : FuncId) (a1_c : List C) (a1 : Pin → Option Bool) (a1_ok : ∀ (z0 : Pin) (r : Bool), a1 z0 = some r → Spec PG a1_k ([gT (e_Pin z0)] ++ List.map (fun x => TV.v (CV.c x)) a1_c) [] (bA r) []) (y4 : Int) (y5 : Int) (y6 : List Pin) (o : Stp (Int × Int × List Pin) (List Pin)) (h : slices_DeleteFunc_api_Pin_api_Pin_b0 a1 y4 y5 y6 = some o) :
    Runs PG 42 1 slices_DeleteFunc_api_Pin_api_Pin_c0 (slices_DeleteFunc_api_Pin_api_Pin_F0 a1_k a1_c y4 y5 y6) (slices_DeleteFunc_api_Pin_api_Pin_H0 a1_k a1_c y4 y5 y6) (stpOc (fun s' => .nor (slices_DeleteFunc_api_Pin_api_Pin_F0 a1_k a1_c s'.1 s'.2.1 s'.2.2) (slices_DeleteFunc_api_Pin_api_Pin_H0 a1_k a1_c s'.1 s'.2.1 s'.2.2)) (slices_DeleteFunc_api_Pin_api_Pin_B0 a1_k a1_c ) slices_DeleteFunc_api_Pin_api_Pin_R o) := by
  unfold slices_DeleteFunc_api_Pin_api_Pin_b0 at h
  rcases cnd_e h with ⟨h7, h⟩ | ⟨h7, h⟩
  · obtain ⟨x8, h9, h⟩ := bnd_e h
    obtain ⟨r10, h11, h⟩ := bnd_e h
    obtain ⟨v12, v13, h14, h⟩ := bnd2_e h
    let q23_f : Fr := [(0, .t (.v (.rt 1))), (1, .t (.v (.c (.fn a1_k a1_c)))), (5, iA y4), (6, iA y5), (7, .t (.v (.ptr 2 0))), (29, bA (!r10))]
    let q23_g : Hp := [(1, .row 28 2 (List.map e_Pin y6)), (2, .cells 28 [.c (sC x8.Part), .c (sC x8.Pin)])]
    let q23_f' : Fr := [(0, .t (.v (.rt 1))), (1, .t (.v (.c (.fn a1_k a1_c)))), (5, iA v12), (6, iA y5)]
    let q23_g' : Hp := [(1, .row 28 2 (List.map e_Pin v13))]
    have R15 : Runs PG 42 1 (cR (cR (cL (cL (cR slices_DeleteFunc_api_Pin_api_Pin_c0))))) q23_f q23_g (.nor q23_f' q23_g') := by
      rcases cnd_e h14 with ⟨h16, h14⟩ | ⟨h16, h14⟩
      · obtain ⟨x17, h18, h14⟩ := bnd_e h14
        have h14 := Option.some.inj h14
        have q19 := (Prod.mk.inj h14).1
        have q20 := (Prod.mk.inj h14).2
        subst q19
        subst q20
        exact Runs.path XTok PGmix [.b true, .r [.el (e_Pin x17), .row (List.map e_Pin (y6.set (Int.toNat y4) x8))], .r []] [] (an h16 (an (idx_lt e_Pin h18) (set_ok e_Pin h18 x8 0 [sC x8.Part, sC x8.Pin] (by kernel_rfl)))) (by kernel_rfl)
      · have h14 := Option.some.inj h14
        have q21 := (Prod.mk.inj h14).1
        have q22 := (Prod.mk.inj h14).2
        subst q21
        subst q22
        exact Runs.path XTok PGmix [.b false] [] h16 (by kernel_rfl)
    have h := Option.some.inj h
    subst h
    exact Runs.path XTok PGmix [.r [.eq 18 (iA (y6.length : Int))], .b true, .r [.el (e_Pin x8), .id 2], .r [.val (bA r10)], .s q23_f q23_g [] (.nor q23_f' q23_g'), .r []] [] (an (leni_eq e_Pin y6) (an h7 (an (idx_lt e_Pin h9) (an (idx_el e_Pin h9) (an (a1_ok x8 r10 h11) R15))))) (by kernel_rfl)
  · have h := Option.some.inj h
    subst h
    exact Runs.path XTok PGmix [.r [.eq 18 (iA (y6.length : Int))], .b false] [] (an (leni_eq e_Pin y6) h7) (by kernel_rfl)
theorem slices_DeleteFunc_api_Pin_api_Pin_l0 (a1_k : FuncId) (a1_c : List C) (a1 : Pin → Option Bool) (a1_ok : ∀ (z0 : Pin) (r : Bool), a1 z0 = some r → Spec PG a1_k ([gT (e_Pin z0)] ++ List.map (fun x => TV.v (CV.c x)) a1_c) [] (bA r) []) (y4 : Int) (y5 : Int) (y6 : List Pin) (r : Fin' (Int × Int × List Pin) (List Pin)) (h : loop (fun s => slices_DeleteFunc_api_Pin_api_Pin_b0 a1 s.1 s.2.1 s.2.2) (y4, y5, y6) = some r) : Runs PG 42 1 (cL (cR (cL (cR (cR (cR slices_DeleteFunc_api_Pin_api_Pin_c)))))) (slices_DeleteFunc_api_Pin_api_Pin_F0 a1_k a1_c y4 y5 y6) (slices_DeleteFunc_api_Pin_api_Pin_H0 a1_k a1_c y4 y5 y6) (finOc (slices_DeleteFunc_api_Pin_api_Pin_B0 a1_k a1_c ) slices_DeleteFunc_api_Pin_api_Pin_R r) :=
  Runs.loop' (by kernel_rfl) (loop_rounds (σ := (Int × Int × List Pin)) (ρ := (List Pin)) (body := fun s => slices_DeleteFunc_api_Pin_api_Pin_b0 a1 s.1 s.2.1 s.2.2) (F := fun s => slices_DeleteFunc_api_Pin_api_Pin_F0 a1_k a1_c s.1 s.2.1 s.2.2) (H := fun s => slices_DeleteFunc_api_Pin_api_Pin_H0 a1_k a1_c s.1 s.2.1 s.2.2) (B := slices_DeleteFunc_api_Pin_api_Pin_B0 a1_k a1_c ) (R := slices_DeleteFunc_api_Pin_api_Pin_R) (fun _ => rfl) (fun _ => rfl) (fun s o h => slices_DeleteFunc_api_Pin_api_Pin_b0_r a1_k a1_c a1 a1_ok s.1 s.2.1 s.2.2 o h) h)
noncomputable def slices_DeleteFunc_api_Pin_api_Pin (a0 : List Pin) (a1 : Pin → Option Bool) : Option (List Pin) :=
 bnd (slices_IndexFunc_api_Pin_api_Pin_own a0 a1) fun r1 =>
 cnd (r1.1 == (-1)) (some r1.2) (aft3 (loop (fun s => slices_DeleteFunc_api_Pin_api_Pin_b0 a1 s.1 s.2.1 s.2.2) (r1.1, w64 (r1.1 + 1), r1.2)) (fun u24 u25 u26 =>
 grd ((0 : Int) ≤ u24 ∧ u24 ≤ (u26.length : Int)) <|
 grd ((0 : Int) ≤ (0 : Int) ∧ (0 : Int) ≤ u24 ∧ u24 ≤ ((u26.take (Int.toNat u24) ++ (List.replicate (((u26.length : Int) - u24).toNat) (⟨(⟨#[]⟩ : ByteArray), (⟨#[]⟩ : ByteArray)⟩ : Pin) ++ u26.drop (Int.toNat u24 + ((u26.length : Int) - u24).toNat))).length : Int)) <|
 some ((u26.take (Int.toNat u24) ++ (List.replicate (((u26.length : Int) - u24).toNat) (⟨(⟨#[]⟩ : ByteArray), (⟨#[]⟩ : ByteArray)⟩ : Pin) ++ u26.drop (Int.toNat u24 + ((u26.length : Int) - u24).toNat))).take ((u24 - (0 : Int)).toNat)))
 (fun r28 =>
 some r28))
theorem slices_DeleteFunc_api_Pin_api_Pin_ok (a0 : List Pin) (a1_k : FuncId) (a1_c : List C) (a1 : Pin → Option Bool) (a1_ok : ∀ (z0 : Pin) (r : Bool), a1 z0 = some r → Spec PG a1_k ([gT (e_Pin z0)] ++ List.map (fun x => TV.v (CV.c x)) a1_c) [] (bA r) []) (r : List Pin) (h : slices_DeleteFunc_api_Pin_api_Pin a0 a1 = some r) : Spec PG 85 [.v (.rt 0), .v (.c (.fn a1_k a1_c))] [(0, .row 28 2 (List.map e_Pin a0))] (.t (.v (.rt 1))) [(1, .row 28 2 (List.map e_Pin r))] := by
  unfold slices_DeleteFunc_api_Pin_api_Pin at h
  obtain ⟨r1, h2, h⟩ := bnd_e h
  rcases cnd_e h with ⟨h3, h⟩ | ⟨h3, h⟩
  · have h := Option.some.inj h
    subst h
    exact Spec.path XTok PGmix slices_DeleteFunc_api_Pin_api_Pin_fn 1 [.w [(0, .t (.v (.rt 1))), (1, .t (.v (.c (.fn a1_k a1_c))))] [(1, .row 28 2 (List.map e_Pin a0))] [(1, 0)], .r [.nl 2], .r [.call [(0, 1)] [.v (.rt 0), .v (.c (.fn a1_k a1_c))] [(0, .row 28 2 (List.map e_Pin a0))] (iA r1.1) [(0, .row 28 2 (List.map e_Pin r1.2))]], .r [], .b true, .r []] (an (an (slices_IndexFunc_api_Pin_api_Pin_own_ok a0 a1_k a1_c a1 a1_ok r1 h2) (an (Eq.refl ([.v (.rt 1), .v (.c (.fn a1_k a1_c))] : List TV)) (Eq.refl (renH (asg [(0, 1)]) [(0, .row 28 2 (List.map e_Pin a0))])))) h3) (by kernel_rfl)
  · rcases aft3_e h with ⟨u24, u25, u26, h27, h⟩ | ⟨r28, h27, h⟩
    · obtain ⟨h29, h⟩ := grd_e h
      obtain ⟨h30, h⟩ := grd_e h
      have h := Option.some.inj h
      subst h
      exact Spec.path XTok PGmix slices_DeleteFunc_api_Pin_api_Pin_fn 1 [.w [(0, .t (.v (.rt 1))), (1, .t (.v (.c (.fn a1_k a1_c))))] [(1, .row 28 2 (List.map e_Pin a0))] [(1, 0)], .r [.nl 2], .r [.call [(0, 1)] [.v (.rt 0), .v (.c (.fn a1_k a1_c))] [(0, .row 28 2 (List.map e_Pin a0))] (iA r1.1) [(0, .row 28 2 (List.map e_Pin r1.2))]], .r [], .b false, .r [], .s (slices_DeleteFunc_api_Pin_api_Pin_F0 a1_k a1_c r1.1 (w64 (r1.1 + 1)) r1.2) (slices_DeleteFunc_api_Pin_api_Pin_H0 a1_k a1_c r1.1 (w64 (r1.1 + 1)) r1.2) [] (slices_DeleteFunc_api_Pin_api_Pin_B0 a1_k a1_c (u24, u25, u26)), .r [.eq 38 (.t (.v (.sub 2 1 (Int.toNat u24) (((u26.length : Int) - u24).toNat)))), .el (e_Pin (⟨(⟨#[]⟩ : ByteArray), (⟨#[]⟩ : ByteArray)⟩ : Pin)), .row (List.map e_Pin (u26.take (Int.toNat u24) ++ (List.replicate (((u26.length : Int) - u24).toNat) (⟨(⟨#[]⟩ : ByteArray), (⟨#[]⟩ : ByteArray)⟩ : Pin) ++ u26.drop (Int.toNat u24 + ((u26.length : Int) - u24).toNat))))], .r [], .h 4 21 (List.map e_Pin ((u26.take (Int.toNat u24) ++ (List.replicate (((u26.length : Int) - u24).toNat) (⟨(⟨#[]⟩ : ByteArray), (⟨#[]⟩ : ByteArray)⟩ : Pin) ++ u26.drop (Int.toNat u24 + ((u26.length : Int) - u24).toNat))).take ((u24 - (0 : Int)).toNat))), .w [(4, .t (.v (.rt 1)))] [(1, .row 28 2 (List.map e_Pin ((u26.take (Int.toNat u24) ++ (List.replicate (((u26.length : Int) - u24).toNat) (⟨(⟨#[]⟩ : ByteArray), (⟨#[]⟩ : ByteArray)⟩ : Pin) ++ u26.drop (Int.toNat u24 + ((u26.length : Int) - u24).toNat))).take ((u24 - (0 : Int)).toNat))))] [(1, 21)]] (an (an (slices_IndexFunc_api_Pin_api_Pin_own_ok a0 a1_k a1_c a1 a1_ok r1 h2) (an (Eq.refl ([.v (.rt 1), .v (.c (.fn a1_k a1_c))] : List TV)) (Eq.refl (renH (asg [(0, 1)]) [(0, .row 28 2 (List.map e_Pin a0))])))) (an h3 (an (slices_DeleteFunc_api_Pin_api_Pin_l0 a1_k a1_c a1 a1_ok r1.1 (w64 (r1.1 + 1)) r1.2 (.fin (u24, u25, u26)) h27) (an (cut_n e_Pin h29) (an (sub_eq 2 1 (Int.toNat u24) u24 e_Pin u26) (an (clear_ok e_Pin (⟨(⟨#[]⟩ : ByteArray), (⟨#[]⟩ : ByteArray)⟩ : Pin) u26 (Int.toNat u24) (((u26.length : Int) - u24).toNat)) (an (cut_lh e_Pin h30) (take_ok e_Pin (u26.take (Int.toNat u24) ++ (List.replicate (((u26.length : Int) - u24).toNat) (⟨(⟨#[]⟩ : ByteArray), (⟨#[]⟩ : ByteArray)⟩ : Pin) ++ u26.drop (Int.toNat u24 + ((u26.length : Int) - u24).toNat))) ((u24 - (0 : Int)).toNat))))))))) (by kernel_rfl)
    · have h := Option.some.inj h
      subst h
      exact Spec.path XTok PGmix slices_DeleteFunc_api_Pin_api_Pin_fn 1 [.w [(0, .t (.v (.rt 1))), (1, .t (.v (.c (.fn a1_k a1_c))))] [(1, .row 28 2 (List.map e_Pin a0))] [(1, 0)], .r [.nl 2], .r [.call [(0, 1)] [.v (.rt 0), .v (.c (.fn a1_k a1_c))] [(0, .row 28 2 (List.map e_Pin a0))] (iA r1.1) [(0, .row 28 2 (List.map e_Pin r1.2))]], .r [], .b false, .r [], .s (slices_DeleteFunc_api_Pin_api_Pin_F0 a1_k a1_c r1.1 (w64 (r1.1 + 1)) r1.2) (slices_DeleteFunc_api_Pin_api_Pin_H0 a1_k a1_c r1.1 (w64 (r1.1 + 1)) r1.2) [] (slices_DeleteFunc_api_Pin_api_Pin_R r28)] (an (an (slices_IndexFunc_api_Pin_api_Pin_own_ok a0 a1_k a1_c a1 a1_ok r1 h2) (an (Eq.refl ([.v (.rt 1), .v (.c (.fn a1_k a1_c))] : List TV)) (Eq.refl (renH (asg [(0, 1)]) [(0, .row 28 2 (List.map e_Pin a0))])))) (an h3 (slices_DeleteFunc_api_Pin_api_Pin_l0 a1_k a1_c a1 a1_ok r1.1 (w64 (r1.1 + 1)) r1.2 (.ret r28) h27))) (by kernel_rfl)

noncomputable def nl_Without_3_c : Code := (Go.Proofs.Tryd.f86.body).getD .skip
theorem nl_Without_3_fn : FnOk PG 86 nl_Without_3_c 8 [.tmp 3] := ⟨⟨Go.Proofs.Tryd.f86, by kernel_rfl, by kernel_rfl, by kernel_rfl, by kernel_rfl, by kernel_rfl⟩⟩
noncomputable def nl_Without_3 (a0 : Pin) (a1 : List ByteArray) : Option Bool :=
 bnd (nl_has a1 a0.Part) fun r1 =>
 some r1
theorem nl_Without_3_ok (a0 : Pin) (a1 : List ByteArray) (r : Bool) (h : nl_Without_3 a0 a1 = some r) : Spec PG 86 [gT (e_Pin a0), .v (.c (.ptr [.sl 1 (List.map e_str a1)]))] [] (bA r) [] := by
  unfold nl_Without_3 at h
  obtain ⟨r1, h2, h⟩ := bnd_e h
  have h := Option.some.inj h
  subst h
  exact Spec.path XTok PGmix nl_Without_3_fn 0 [.r [.id 0], .r [.val (bA r1)]] (nl_has_ok a1 a0.Part r1 h2) (by kernel_rfl)

noncomputable def slices_IndexFunc_api_Net_api_Net_c : Code := (Go.Proofs.Tryd.f134.body).getD .skip
theorem slices_IndexFunc_api_Net_api_Net_fn : FnOk PG 134 slices_IndexFunc_api_Net_api_Net_c 19 [.tmp 4] := ⟨⟨Go.Proofs.Tryd.f134, by kernel_rfl, by kernel_rfl, by kernel_rfl, by kernel_rfl, by kernel_rfl⟩⟩
noncomputable def slices_IndexFunc_api_Net_api_Net_c0 : Code := cL (cL (cR (cL (cR slices_IndexFunc_api_Net_api_Net_c))))
noncomputable def slices_IndexFunc_api_Net_api_Net_R (r : Int) : Oc := .ret [(4, iA r)] []
noncomputable def slices_IndexFunc_api_Net_api_Net_F0 (a1_k : FuncId) (a1_c : List C) (a0 : List Net) (i1 : Nat) : Fr := [(0, lA 3 (List.map e_Net a0)), (1, .t (.v (.c (.fn a1_k a1_c)))), (6, lA 3 (List.map e_Net a0)), (7, iA (a0.length : Int)), (8, iA (i1 : Int))]
noncomputable def slices_IndexFunc_api_Net_api_Net_H0 (a1_k : FuncId) (a1_c : List C) (a0 : List Net) (i1 : Nat) : Hp := []
noncomputable def slices_IndexFunc_api_Net_api_Net_B0 (a1_k : FuncId) (a1_c : List C) (a0 : List Net) (s : Unit) : Oc := .ex 0 [] []
noncomputable def slices_IndexFunc_api_Net_api_Net_b0 (a1 : Net → Option Bool) (a0 : List Net) (i1 : Nat) : Option (Stp Unit Int) :=
 bnd (atI a0 (i1 : Int)) fun x2 =>
 bnd (a1 x2) fun r4 =>
 cnd r4 (some (.ret (i1 : Int))) (some (.go ()))
theorem slices_IndexFunc_api_Net_api_Net_b0_r (a1_k : FuncId) (a1_c : List C) (a1 : Net → Option Bool) (a1_ok : ∀ (z0 : Net) (r : Bool), a1 z0 = some r → Spec PG a1_k ([gT (e_Net z0)] ++ List.map (fun x => TV.v (CV.c x)) a1_c) [] (bA r) []) (a0 : List Net) (i1 : Nat) (o : Stp Unit Int) (hi : i1 < a0.length) (h : slices_IndexFunc_api_Net_api_Net_b0 a1 a0 i1 = some o) :
    Runs PG 19 0 slices_IndexFunc_api_Net_api_Net_c0 (slices_IndexFunc_api_Net_api_Net_F0 a1_k a1_c a0 i1 ) (slices_IndexFunc_api_Net_api_Net_H0 a1_k a1_c a0 i1 ) (stpOc (fun s' => .nor (slices_IndexFunc_api_Net_api_Net_F0 a1_k a1_c a0 (i1 + 1) ) (slices_IndexFunc_api_Net_api_Net_H0 a1_k a1_c a0 (i1 + 1) )) (slices_IndexFunc_api_Net_api_Net_B0 a1_k a1_c a0) slices_IndexFunc_api_Net_api_Net_R o) := by
  unfold slices_IndexFunc_api_Net_api_Net_b0 at h
  refine Runs.len (s := 6) (sz := 3) (xs := List.map e_Net a0) (by kernel_rfl) fun hl => ?_
  have hM : a0.length ≤ lim := len_of hl
  obtain ⟨x2, h3, h⟩ := bnd_e h
  obtain ⟨r4, h5, h⟩ := bnd_e h
  rcases cnd_e h with ⟨h6, h⟩ | ⟨h6, h⟩
  · have h := Option.some.inj h
    subst h
    exact Runs.path XTok PGmix [.r [], .b true, .r [], .r [.el (e_Net x2), .val (bA r4)], .b true, .r []] [] (an (lt_true hi) (an (idx_ok e_Net h3) (an (a1_ok x2 r4 h5) h6))) (by kernel_rfl)
  · have h := Option.some.inj h
    subst h
    exact Runs.path XTok PGmix [.r [], .b true, .r [], .r [.el (e_Net x2), .val (bA r4)], .b false, .r [.eq 18 (iA ((i1 + 1 : Nat) : Int))]] [] (an (lt_true hi) (an (idx_ok e_Net h3) (an (a1_ok x2 r4 h5) (an h6 (wrap_eq hi hM))))) (by kernel_rfl)
theorem slices_IndexFunc_api_Net_api_Net_b0_e (a1_k : FuncId) (a1_c : List C) (a1 : Net → Option Bool) (a1_ok : ∀ (z0 : Net) (r : Bool), a1 z0 = some r → Spec PG a1_k ([gT (e_Net z0)] ++ List.map (fun x => TV.v (CV.c x)) a1_c) [] (bA r) []) (a0 : List Net) : Runs PG 19 0 slices_IndexFunc_api_Net_api_Net_c0 (slices_IndexFunc_api_Net_api_Net_F0 a1_k a1_c a0 (a0.length) ) (slices_IndexFunc_api_Net_api_Net_H0 a1_k a1_c a0 (a0.length) ) (slices_IndexFunc_api_Net_api_Net_B0 a1_k a1_c a0 ()) := by
  exact Runs.path XTok PGmix [.r [], .b false] [] (lt_false (a0.length)) (by kernel_rfl)
theorem slices_IndexFunc_api_Net_api_Net_l0 (a1_k : FuncId) (a1_c : List C) (a1 : Net → Option Bool) (a1_ok : ∀ (z0 : Net) (r : Bool), a1 z0 = some r → Spec PG a1_k ([gT (e_Net z0)] ++ List.map (fun x => TV.v (CV.c x)) a1_c) [] (bA r) []) (a0 : List Net) (r : Fin' Unit Int) (h : forN (fun i1 s => slices_IndexFunc_api_Net_api_Net_b0 a1 a0 i1 ) (a0.length) 0 () = some r) : Runs PG 19 0 (cL (cR (cL (cR slices_IndexFunc_api_Net_api_Net_c)))) (slices_IndexFunc_api_Net_api_Net_F0 a1_k a1_c a0 0 ) (slices_IndexFunc_api_Net_api_Net_H0 a1_k a1_c a0 0 ) (finOc (slices_IndexFunc_api_Net_api_Net_B0 a1_k a1_c a0) slices_IndexFunc_api_Net_api_Net_R r) :=
  Runs.loop' (by kernel_rfl) (forN_rounds (σ := Unit) (ρ := Int) (body := fun i1 s => slices_IndexFunc_api_Net_api_Net_b0 a1 a0 i1 ) (F := fun i1 s => slices_IndexFunc_api_Net_api_Net_F0 a1_k a1_c a0 i1 ) (H := fun i1 s => slices_IndexFunc_api_Net_api_Net_H0 a1_k a1_c a0 i1 ) (B := slices_IndexFunc_api_Net_api_Net_B0 a1_k a1_c a0) (R := slices_IndexFunc_api_Net_api_Net_R) (M := a0.length) (fun _ => rfl) (fun _ => rfl) (fun s => slices_IndexFunc_api_Net_api_Net_b0_e a1_k a1_c a1 a1_ok a0 ) (fun i s o hi h => slices_IndexFunc_api_Net_api_Net_b0_r a1_k a1_c a1 a1_ok a0 i o hi h) _ 0 _ r (Nat.zero_add _) h)
noncomputable def slices_IndexFunc_api_Net_api_Net (a0 : List Net) (a1 : Net → Option Bool) : Option Int :=
 aft0 (forN (fun i1 s => slices_IndexFunc_api_Net_api_Net_b0 a1 a0 i1 ) (a0.length) 0 ()) (
 some (-1))
 (fun r8 =>
 some r8)
theorem slices_IndexFunc_api_Net_api_Net_ok (a0 : List Net) (a1_k : FuncId) (a1_c : List C) (a1 : Net → Option Bool) (a1_ok : ∀ (z0 : Net) (r : Bool), a1 z0 = some r → Spec PG a1_k ([gT (e_Net z0)] ++ List.map (fun x => TV.v (CV.c x)) a1_c) [] (bA r) []) (r : Int) (h : slices_IndexFunc_api_Net_api_Net a0 a1 = some r) : Spec PG 134 [lT 3 (List.map e_Net a0), .v (.c (.fn a1_k a1_c))] [] (iA r) [] := by
  unfold slices_IndexFunc_api_Net_api_Net at h
  rcases aft0_e h with ⟨h7, h⟩ | ⟨r8, h7, h⟩
  · have h := Option.some.inj h
    subst h
    exact Spec.path XTok PGmix slices_IndexFunc_api_Net_api_Net_fn 0 [.r [], .r [.eq 7 (iA (a0.length : Int))], .s (slices_IndexFunc_api_Net_api_Net_F0 a1_k a1_c a0 0 ) (slices_IndexFunc_api_Net_api_Net_H0 a1_k a1_c a0 0 ) [] (slices_IndexFunc_api_Net_api_Net_B0 a1_k a1_c a0 ()), .r []] (an (leni_eq e_Net a0) (slices_IndexFunc_api_Net_api_Net_l0 a1_k a1_c a1 a1_ok a0 (.fin ()) h7)) (by kernel_rfl)
  · have h := Option.some.inj h
    subst h
    exact Spec.path XTok PGmix slices_IndexFunc_api_Net_api_Net_fn 0 [.r [], .r [.eq 7 (iA (a0.length : Int))], .s (slices_IndexFunc_api_Net_api_Net_F0 a1_k a1_c a0 0 ) (slices_IndexFunc_api_Net_api_Net_H0 a1_k a1_c a0 0 ) [] (slices_IndexFunc_api_Net_api_Net_R r8)] (an (leni_eq e_Net a0) (slices_IndexFunc_api_Net_api_Net_l0 a1_k a1_c a1 a1_ok a0 (.ret r8) h7)) (by kernel_rfl)

noncomputable def slices_IndexFunc_api_Net_api_Net_own_c : Code := (Go.Proofs.Tryd.f134.body).getD .skip
theorem slices_IndexFunc_api_Net_api_Net_own_fn : FnOk PG 134 slices_IndexFunc_api_Net_api_Net_own_c 19 [.tmp 4] := ⟨⟨Go.Proofs.Tryd.f134, by kernel_rfl, by kernel_rfl, by kernel_rfl, by kernel_rfl, by kernel_rfl⟩⟩
noncomputable def slices_IndexFunc_api_Net_api_Net_own_c0 : Code := cL (cL (cR (cL (cR slices_IndexFunc_api_Net_api_Net_own_c))))
noncomputable def slices_IndexFunc_api_Net_api_Net_own_R (r : Int × List Net) : Oc := .ret [(4, iA r.1)] [(0, .row 64 3 (List.map e_Net r.2))]
noncomputable def slices_IndexFunc_api_Net_api_Net_own_F0 (a1_k : FuncId) (a1_c : List C) (a0 : List Net) (i1 : Nat) : Fr := [(0, .t (.v (.rt 0))), (1, .t (.v (.c (.fn a1_k a1_c)))), (6, .t (.v (.rt 0))), (7, iA (a0.length : Int)), (8, iA (i1 : Int))]
noncomputable def slices_IndexFunc_api_Net_api_Net_own_H0 (a1_k : FuncId) (a1_c : List C) (a0 : List Net) (i1 : Nat) : Hp := [(0, .row 64 3 (List.map e_Net a0))]
noncomputable def slices_IndexFunc_api_Net_api_Net_own_B0 (a1_k : FuncId) (a1_c : List C) (a0 : List Net) (s : Unit) : Oc := .ex 0 [] [(0, .row 64 3 (List.map e_Net a0))]
noncomputable def slices_IndexFunc_api_Net_api_Net_own_b0 (a1 : Net → Option Bool) (a0 : List Net) (i1 : Nat) : Option (Stp Unit (Int × List Net)) :=
 bnd (atI a0 (i1 : Int)) fun x2 =>
 bnd (a1 x2) fun r4 =>
 cnd r4 (some (.ret ((i1 : Int), a0))) (some (.go ()))
theorem slices_IndexFunc_api_Net_api_Net_own_b0_r (a1_k : FuncId) (a1_c : List C) (a1 : Net → Option Bool) (a1_ok : ∀ (z0 : Net) (r : Bool), a1 z0 = some r → Spec PG a1_k ([gT (e_Net z0)] ++ List.map (fun x => TV.v (CV.c x)) a1_c) [] (bA r) []) (a0 : List Net) (i1 : Nat) (o : Stp Unit (Int × List Net)) (hi : i1 < a0.length) (h : slices_IndexFunc_api_Net_api_Net_own_b0 a1 a0 i1 = some o) :
    Runs PG 19 1 slices_IndexFunc_api_Net_api_Net_own_c0 (slices_IndexFunc_api_Net_api_Net_own_F0 a1_k a1_c a0 i1 ) (slices_IndexFunc_api_Net_api_Net_own_H0 a1_k a1_c a0 i1 ) (stpOc (fun s' => .nor (slices_IndexFunc_api_Net_api_Net_own_F0 a1_k a1_c a0 (i1 + 1) ) (slices_IndexFunc_api_Net_api_Net_own_H0 a1_k a1_c a0 (i1 + 1) )) (slices_IndexFunc_api_Net_api_Net_own_B0 a1_k a1_c a0) slices_IndexFunc_api_Net_api_Net_own_R o) := by
  unfold slices_IndexFunc_api_Net_api_Net_own_b0 at h
  refine Runs.rlen (id := 0) (e := 64) (sz := 3) (xs := List.map e_Net a0) (by kernel_rfl) fun hl => ?_
  have hM : a0.length ≤ lim := len_of hl
  obtain ⟨x2, h3, h⟩ := bnd_e h
  obtain ⟨r4, h5, h⟩ := bnd_e h
  rcases cnd_e h with ⟨h6, h⟩ | ⟨h6, h⟩
  · have h := Option.some.inj h
    subst h
    exact Runs.path XTok PGmix [.r [], .b true, .r [], .r [.el (e_Net x2), .val (bA r4)], .b true, .r []] [] (an (lt_true hi) (an (idx_lt e_Net h3) (an (idx_el e_Net h3) (an (a1_ok x2 r4 h5) h6)))) (by kernel_rfl)
  · have h := Option.some.inj h
    subst h
    exact Runs.path XTok PGmix [.r [], .b true, .r [], .r [.el (e_Net x2), .val (bA r4)], .b false, .r [.eq 18 (iA ((i1 + 1 : Nat) : Int))]] [] (an (lt_true hi) (an (idx_lt e_Net h3) (an (idx_el e_Net h3) (an (a1_ok x2 r4 h5) (an h6 (wrap_eq hi hM)))))) (by kernel_rfl)
theorem slices_IndexFunc_api_Net_api_Net_own_b0_e (a1_k : FuncId) (a1_c : List C) (a1 : Net → Option Bool) (a1_ok : ∀ (z0 : Net) (r : Bool), a1 z0 = some r → Spec PG a1_k ([gT (e_Net z0)] ++ List.map (fun x => TV.v (CV.c x)) a1_c) [] (bA r) []) (a0 : List Net) : Runs PG 19 1 slices_IndexFunc_api_Net_api_Net_own_c0 (slices_IndexFunc_api_Net_api_Net_own_F0 a1_k a1_c a0 (a0.length) ) (slices_IndexFunc_api_Net_api_Net_own_H0 a1_k a1_c a0 (a0.length) ) (slices_IndexFunc_api_Net_api_Net_own_B0 a1_k a1_c a0 ()) := by
  exact Runs.path XTok PGmix [.r [], .b false] [] (lt_false (a0.length)) (by kernel_rfl)
theorem slices_IndexFunc_api_Net_api_Net_own_l0 (a1_k : FuncId) (a1_c : List C) (a1 : Net → Option Bool) (a1_ok : ∀ (z0 : Net) (r : Bool), a1 z0 = some r → Spec PG a1_k ([gT (e_Net z0)] ++ List.map (fun x => TV.v (CV.c x)) a1_c) [] (bA r) []) (a0 : List Net) (r : Fin' Unit (Int × List Net)) (h : forN (fun i1 s => slices_IndexFunc_api_Net_api_Net_own_b0 a1 a0 i1 ) (a0.length) 0 () = some r) : Runs PG 19 1 (cL (cR (cL (cR slices_IndexFunc_api_Net_api_Net_own_c)))) (slices_IndexFunc_api_Net_api_Net_own_F0 a1_k a1_c a0 0 ) (slices_IndexFunc_api_Net_api_Net_own_H0 a1_k a1_c a0 0 ) (finOc (slices_IndexFunc_api_Net_api_Net_own_B0 a1_k a1_c a0) slices_IndexFunc_api_Net_api_Net_own_R r) :=
  Runs.loop' (by kernel_rfl) (forN_rounds (σ := Unit) (ρ := (Int × List Net)) (body := fun i1 s => slices_IndexFunc_api_Net_api_Net_own_b0 a1 a0 i1 ) (F := fun i1 s => slices_IndexFunc_api_Net_api_Net_own_F0 a1_k a1_c a0 i1 ) (H := fun i1 s => slices_IndexFunc_api_Net_api_Net_own_H0 a1_k a1_c a0 i1 ) (B := slices_IndexFunc_api_Net_api_Net_own_B0 a1_k a1_c a0) (R := slices_IndexFunc_api_Net_api_Net_own_R) (M := a0.length) (fun _ => rfl) (fun _ => rfl) (fun s => slices_IndexFunc_api_Net_api_Net_own_b0_e a1_k a1_c a1 a1_ok a0 ) (fun i s o hi h => slices_IndexFunc_api_Net_api_Net_own_b0_r a1_k a1_c a1 a1_ok a0 i o hi h) _ 0 _ r (Nat.zero_add _) h)
noncomputable def slices_IndexFunc_api_Net_api_Net_own (a0 : List Net) (a1 : Net → Option Bool) : Option (Int × List Net) :=
 aft0 (forN (fun i1 s => slices_IndexFunc_api_Net_api_Net_own_b0 a1 a0 i1 ) (a0.length) 0 ()) (
 some ((-1), a0))
 (fun r8 =>
 some r8)
theorem slices_IndexFunc_api_Net_api_Net_own_ok (a0 : List Net) (a1_k : FuncId) (a1_c : List C) (a1 : Net → Option Bool) (a1_ok : ∀ (z0 : Net) (r : Bool), a1 z0 = some r → Spec PG a1_k ([gT (e_Net z0)] ++ List.map (fun x => TV.v (CV.c x)) a1_c) [] (bA r) []) (r : Int × List Net) (h : slices_IndexFunc_api_Net_api_Net_own a0 a1 = some r) : Spec PG 134 [.v (.rt 0), .v (.c (.fn a1_k a1_c))] [(0, .row 64 3 (List.map e_Net a0))] (iA r.1) [(0, .row 64 3 (List.map e_Net r.2))] := by
  unfold slices_IndexFunc_api_Net_api_Net_own at h
  rcases aft0_e h with ⟨h7, h⟩ | ⟨r8, h7, h⟩
  · have h := Option.some.inj h
    subst h
    exact Spec.path XTok PGmix slices_IndexFunc_api_Net_api_Net_own_fn 1 [.r [], .r [.eq 7 (iA (a0.length : Int))], .s (slices_IndexFunc_api_Net_api_Net_own_F0 a1_k a1_c a0 0 ) (slices_IndexFunc_api_Net_api_Net_own_H0 a1_k a1_c a0 0 ) [] (slices_IndexFunc_api_Net_api_Net_own_B0 a1_k a1_c a0 ()), .r []] (an (leni_eq e_Net a0) (slices_IndexFunc_api_Net_api_Net_own_l0 a1_k a1_c a1 a1_ok a0 (.fin ()) h7)) (by kernel_rfl)
  · have h := Option.some.inj h
    subst h
    exact Spec.path XTok PGmix slices_IndexFunc_api_Net_api_Net_own_fn 1 [.r [], .r [.eq 7 (iA (a0.length : Int))], .s (slices_IndexFunc_api_Net_api_Net_own_F0 a1_k a1_c a0 0 ) (slices_IndexFunc_api_Net_api_Net_own_H0 a1_k a1_c a0 0 ) [] (slices_IndexFunc_api_Net_api_Net_own_R r8)] (an (leni_eq e_Net a0) (slices_IndexFunc_api_Net_api_Net_own_l0 a1_k a1_c a1 a1_ok a0 (.ret r8) h7)) (by kernel_rfl)

noncomputable def slices_DeleteFunc_api_Net_api_Net_c : Code := (Go.Proofs.Tryd.f87.body).getD .skip
theorem slices_DeleteFunc_api_Net_api_Net_fn : FnOk PG 87 slices_DeleteFunc_api_Net_api_Net_c 42 [.tmp 4] := ⟨⟨Go.Proofs.Tryd.f87, by kernel_rfl, by kernel_rfl, by kernel_rfl, by kernel_rfl, by kernel_rfl⟩⟩
noncomputable def slices_DeleteFunc_api_Net_api_Net_c0 : Code := cL (cL (cR (cL (cR (cR (cR slices_DeleteFunc_api_Net_api_Net_c))))))
noncomputable def slices_DeleteFunc_api_Net_api_Net_R (r : List Net) : Oc := .ret [(4, .t (.v (.rt 1)))] [(1, .row 64 3 (List.map e_Net r))]
noncomputable def slices_DeleteFunc_api_Net_api_Net_F0 (a1_k : FuncId) (a1_c : List C) (y4 : Int) (y5 : Int) (y6 : List Net) : Fr := [(0, .t (.v (.rt 1))), (1, .t (.v (.c (.fn a1_k a1_c)))), (5, iA y4), (6, iA y5)]
noncomputable def slices_DeleteFunc_api_Net_api_Net_H0 (a1_k : FuncId) (a1_c : List C) (y4 : Int) (y5 : Int) (y6 : List Net) : Hp := [(1, .row 64 3 (List.map e_Net y6))]
noncomputable def slices_DeleteFunc_api_Net_api_Net_B0 (a1_k : FuncId) (a1_c : List C) (s : Int × Int × List Net) : Oc := .ex 0 [(0, .t (.v (.rt 1))), (5, iA s.1)] [(1, .row 64 3 (List.map e_Net s.2.2))]
noncomputable def slices_DeleteFunc_api_Net_api_Net_b0 (a1 : Net → Option Bool) (y4 : Int) (y5 : Int) (y6 : List Net) : Option (Stp (Int × Int × List Net) (List Net)) :=
 cnd (decide (y5 < (y6.length : Int))) (bnd (atI y6 y5) fun x8 =>
 bnd (a1 x8) fun r10 =>
 bnd2 (cnd (!r10) (bnd (atI y6 y4) fun x17 =>
 some (w64 (y4 + 1), y6.set (Int.toNat y4) x8)) (some (y4, y6))) fun v12 v13 =>
 some (.go (v12, w64 (y5 + 1), v13))) (some (.brk (y4, y5, y6)))
theorem slices_DeleteFunc_api_Net_api_Net_b0_r (a1_k : FuncId) (a1_c : List C) (a1 : Net → Option Bool) (a1_ok : ∀ (z0 : Net) (r : Bool), a1 z0 = some r → Spec PG a1_k ([gT (e_Net z0)] ++ List.map (fun x => TV.v (CV.c x)) a1_c) [] (bA r) []) (y4 : Int) (y5 : Int) (y6 : List Net) (o : Stp (Int × Int × List Net) (List Net)) (h : slices_DeleteFunc_api_Net_api_Net_b0 a1 y4 y5 y6 = some o) :
    Runs PG 42 1 slices_DeleteFunc_api_Net_api_Net_c0 (slices_DeleteFunc_api_Net_api_Net_F0 a1_k a1_c y4 y5 y6) (slices_DeleteFunc_api_Net_api_Net_H0 a1_k a1_c y4 y5 y6) (stpOc (fun s' => .nor (slices_DeleteFunc_api_Net_api_Net_F0 a1_k a1_c s'.1 s'.2.1 s'.2.2) (slices_DeleteFunc_api_Net_api_Net_H0 a1_k a1_c s'.1 s'.2.1 s'.2.2)) (slices_DeleteFunc_api_Net_api_Net_B0 a1_k a1_c ) slices_DeleteFunc_api_Net_api_Net_R o) := by
  unfold slices_DeleteFunc_api_Net_api_Net_b0 at h
  rcases cnd_e h with ⟨h7, h⟩ | ⟨h7, h⟩
  · obtain ⟨x8, h9, h⟩ := bnd_e h
    obtain ⟨r10, h11, h⟩ := bnd_e h
    obtain ⟨v12, v13, h14, h⟩ := bnd2_e h
    let q23_f : Fr := [(0, .t (.v (.rt 1))), (1, .t (.v (.c (.fn a1_k a1_c)))), (5, iA y4), (6, iA y5), (7, .t (.v (.ptr 2 0))), (29, bA (!r10))]
    let q23_g : Hp := [(1, .row 64 3 (List.map e_Net y6)), (2, .cells 64 [.c (sC x8.Name), .c (.sl 2 (List.map e_Pin x8.Pins)), .c (.sl 1 (List.map e_str x8.Ports))])]
    let q23_f' : Fr := [(0, .t (.v (.rt 1))), (1, .t (.v (.c (.fn a1_k a1_c)))), (5, iA v12), (6, iA y5)]
    let q23_g' : Hp := [(1, .row 64 3 (List.map e_Net v13))]
    have R15 : Runs PG 42 1 (cR (cR (cL (cL (cR slices_DeleteFunc_api_Net_api_Net_c0))))) q23_f q23_g (.nor q23_f' q23_g') := by
      rcases cnd_e h14 with ⟨h16, h14⟩ | ⟨h16, h14⟩
      · obtain ⟨x17, h18, h14⟩ := bnd_e h14
        have h14 := Option.some.inj h14
        have q19 := (Prod.mk.inj h14).1
        have q20 := (Prod.mk.inj h14).2
        subst q19
        subst q20
        exact Runs.path XTok PGmix [.b true, .r [.el (e_Net x17), .row (List.map e_Net (y6.set (Int.toNat y4) x8))], .r []] [] (an h16 (an (idx_lt e_Net h18) (set_ok e_Net h18 x8 0 [sC x8.Name, .sl 2 (List.map e_Pin x8.Pins), .sl 1 (List.map e_str x8.Ports)] (by kernel_rfl)))) (by kernel_rfl)
      · have h14 := Option.some.inj h14
        have q21 := (Prod.mk.inj h14).1
        have q22 := (Prod.mk.inj h14).2
        subst q21
        subst q22
        exact Runs.path XTok PGmix [.b false] [] h16 (by kernel_rfl)
    have h := Option.some.inj h
    subst h
    exact Runs.path XTok PGmix [.r [.eq 18 (iA (y6.length : Int))], .b true, .r [.el (e_Net x8), .id 2], .r [.val (bA r10)], .s q23_f q23_g [] (.nor q23_f' q23_g'), .r []] [] (an (leni_eq e_Net y6) (an h7 (an (idx_lt e_Net h9) (an (idx_el e_Net h9) (an (a1_ok x8 r10 h11) R15))))) (by kernel_rfl)
  · have h := Option.some.inj h
    subst h
    exact Runs.path XTok PGmix [.r [.eq 18 (iA (y6.length : Int))], .b false] [] (an (leni_eq e_Net y6) h7) (by kernel_rfl)
theorem slices_DeleteFunc_api_Net_api_Net_l0 (a1_k : FuncId) (a1_c : List C) (a1 : Net → Option Bool) (a1_ok : ∀ (z0 : Net) (r : Bool), a1 z0 = some r → Spec PG a1_k ([gT (e_Net z0)] ++ List.map (fun x => TV.v (CV.c x)) a1_c) [] (bA r) []) (y4 : Int) (y5 : Int) (y6 : List Net) (r : Fin' (Int × Int × List Net) (List Net)) (h : loop (fun s => slices_DeleteFunc_api_Net_api_Net_b0 a1 s.1 s.2.1 s.2.2) (y4, y5, y6) = some r) : Runs PG 42 1 (cL (cR (cL (cR (cR (cR slices_DeleteFunc_api_Net_api_Net_c)))))) (slices_DeleteFunc_api_Net_api_Net_F0 a1_k a1_c y4 y5 y6) (slices_DeleteFunc_api_Net_api_Net_H0 a1_k a1_c y4 y5 y6) (finOc (slices_DeleteFunc_api_Net_api_Net_B0 a1_k a1_c ) slices_DeleteFunc_api_Net_api_Net_R r) :=
  Runs.loop' (by kernel_rfl) (loop_rounds (σ := (Int × Int × List Net)) (ρ := (List Net)) (body := fun s => slices_DeleteFunc_api_Net_api_Net_b0 a1 s.1 s.2.1 s.2.2) (F := fun s => slices_DeleteFunc_api_Net_api_Net_F0 a1_k a1_c s.1 s.2.1 s.2.2) (H := fun s => slices_DeleteFunc_api_Net_api_Net_H0 a1_k a1_c s.1 s.2.1 s.2.2) (B := slices_DeleteFunc_api_Net_api_Net_B0 a1_k a1_c ) (R := slices_DeleteFunc_api_Net_api_Net_R) (fun _ => rfl) (fun _ => rfl) (fun s o h => slices_DeleteFunc_api_Net_api_Net_b0_r a1_k a1_c a1 a1_ok s.1 s.2.1 s.2.2 o h) h)
noncomputable def slices_DeleteFunc_api_Net_api_Net (a0 : List Net) (a1 : Net → Option Bool) : Option (List Net) :=
 bnd (slices_IndexFunc_api_Net_api_Net_own a0 a1) fun r1 =>
 cnd (r1.1 == (-1)) (some r1.2) (aft3 (loop (fun s => slices_DeleteFunc_api_Net_api_Net_b0 a1 s.1 s.2.1 s.2.2) (r1.1, w64 (r1.1 + 1), r1.2)) (fun u24 u25 u26 =>
 grd ((0 : Int) ≤ u24 ∧ u24 ≤ (u26.length : Int)) <|
 grd ((0 : Int) ≤ (0 : Int) ∧ (0 : Int) ≤ u24 ∧ u24 ≤ ((u26.take (Int.toNat u24) ++ (List.replicate (((u26.length : Int) - u24).toNat) (⟨(⟨#[]⟩ : ByteArray), [], []⟩ : Net) ++ u26.drop (Int.toNat u24 + ((u26.length : Int) - u24).toNat))).length : Int)) <|
 some ((u26.take (Int.toNat u24) ++ (List.replicate (((u26.length : Int) - u24).toNat) (⟨(⟨#[]⟩ : ByteArray), [], []⟩ : Net) ++ u26.drop (Int.toNat u24 + ((u26.length : Int) - u24).toNat))).take ((u24 - (0 : Int)).toNat)))
 (fun r28 =>
 some r28))
theorem slices_DeleteFunc_api_Net_api_Net_ok (a0 : List Net) (a1_k : FuncId) (a1_c : List C) (a1 : Net → Option Bool) (a1_ok : ∀ (z0 : Net) (r : Bool), a1 z0 = some r → Spec PG a1_k ([gT (e_Net z0)] ++ List.map (fun x => TV.v (CV.c x)) a1_c) [] (bA r) []) (r : List Net) (h : slices_DeleteFunc_api_Net_api_Net a0 a1 = some r) : Spec PG 87 [.v (.rt 0), .v (.c (.fn a1_k a1_c))] [(0, .row 64 3 (List.map e_Net a0))] (.t (.v (.rt 1))) [(1, .row 64 3 (List.map e_Net r))] := by
  unfold slices_DeleteFunc_api_Net_api_Net at h
  obtain ⟨r1, h2, h⟩ := bnd_e h
  rcases cnd_e h with ⟨h3, h⟩ | ⟨h3, h⟩
  · have h := Option.some.inj h
    subst h
    exact Spec.path XTok PGmix slices_DeleteFunc_api_Net_api_Net_fn 1 [.w [(0, .t (.v (.rt 1))), (1, .t (.v (.c (.fn a1_k a1_c))))] [(1, .row 64 3 (List.map e_Net a0))] [(1, 0)], .r [.nl 3], .r [.call [(0, 1)] [.v (.rt 0), .v (.c (.fn a1_k a1_c))] [(0, .row 64 3 (List.map e_Net a0))] (iA r1.1) [(0, .row 64 3 (List.map e_Net r1.2))]], .r [], .b true, .r []] (an (an (slices_IndexFunc_api_Net_api_Net_own_ok a0 a1_k a1_c a1 a1_ok r1 h2) (an (Eq.refl ([.v (.rt 1), .v (.c (.fn a1_k a1_c))] : List TV)) (Eq.refl (renH (asg [(0, 1)]) [(0, .row 64 3 (List.map e_Net a0))])))) h3) (by kernel_rfl)
  · rcases aft3_e h with ⟨u24, u25, u26, h27, h⟩ | ⟨r28, h27, h⟩
    · obtain ⟨h29, h⟩ := grd_e h
      obtain ⟨h30, h⟩ := grd_e h
      have h := Option.some.inj h
      subst h
      exact Spec.path XTok PGmix slices_DeleteFunc_api_Net_api_Net_fn 1 [.w [(0, .t (.v (.rt 1))), (1, .t (.v (.c (.fn a1_k a1_c))))] [(1, .row 64 3 (List.map e_Net a0))] [(1, 0)], .r [.nl 3], .r [.call [(0, 1)] [.v (.rt 0), .v (.c (.fn a1_k a1_c))] [(0, .row 64 3 (List.map e_Net a0))] (iA r1.1) [(0, .row 64 3 (List.map e_Net r1.2))]], .r [], .b false, .r [], .s (slices_DeleteFunc_api_Net_api_Net_F0 a1_k a1_c r1.1 (w64 (r1.1 + 1)) r1.2) (slices_DeleteFunc_api_Net_api_Net_H0 a1_k a1_c r1.1 (w64 (r1.1 + 1)) r1.2) [] (slices_DeleteFunc_api_Net_api_Net_B0 a1_k a1_c (u24, u25, u26)), .r [.eq 38 (.t (.v (.sub 3 1 (Int.toNat u24) (((u26.length : Int) - u24).toNat)))), .el (e_Net (⟨(⟨#[]⟩ : ByteArray), [], []⟩ : Net)), .row (List.map e_Net (u26.take (Int.toNat u24) ++ (List.replicate (((u26.length : Int) - u24).toNat) (⟨(⟨#[]⟩ : ByteArray), [], []⟩ : Net) ++ u26.drop (Int.toNat u24 + ((u26.length : Int) - u24).toNat))))], .r [], .h 4 21 (List.map e_Net ((u26.take (Int.toNat u24) ++ (List.replicate (((u26.length : Int) - u24).toNat) (⟨(⟨#[]⟩ : ByteArray), [], []⟩ : Net) ++ u26.drop (Int.toNat u24 + ((u26.length : Int) - u24).toNat))).take ((u24 - (0 : Int)).toNat))), .w [(4, .t (.v (.rt 1)))] [(1, .row 64 3 (List.map e_Net ((u26.take (Int.toNat u24) ++ (List.replicate (((u26.length : Int) - u24).toNat) (⟨(⟨#[]⟩ : ByteArray), [], []⟩ : Net) ++ u26.drop (Int.toNat u24 + ((u26.length : Int) - u24).toNat))).take ((u24 - (0 : Int)).toNat))))] [(1, 21)]] (an (an (slices_IndexFunc_api_Net_api_Net_own_ok a0 a1_k a1_c a1 a1_ok r1 h2) (an (Eq.refl ([.v (.rt 1), .v (.c (.fn a1_k a1_c))] : List TV)) (Eq.refl (renH (asg [(0, 1)]) [(0, .row 64 3 (List.map e_Net a0))])))) (an h3 (an (slices_DeleteFunc_api_Net_api_Net_l0 a1_k a1_c a1 a1_ok r1.1 (w64 (r1.1 + 1)) r1.2 (.fin (u24, u25, u26)) h27) (an (cut_n e_Net h29) (an (sub_eq 3 1 (Int.toNat u24) u24 e_Net u26) (an (clear_ok e_Net (⟨(⟨#[]⟩ : ByteArray), [], []⟩ : Net) u26 (Int.toNat u24) (((u26.length : Int) - u24).toNat)) (an (cut_lh e_Net h30) (take_ok e_Net (u26.take (Int.toNat u24) ++ (List.replicate (((u26.length : Int) - u24).toNat) (⟨(⟨#[]⟩ : ByteArray), [], []⟩ : Net) ++ u26.drop (Int.toNat u24 + ((u26.length : Int) - u24).toNat))) ((u24 - (0 : Int)).toNat))))))))) (by kernel_rfl)
    · have h := Option.some.inj h
      subst h
      exact Spec.path XTok PGmix slices_DeleteFunc_api_Net_api_Net_fn 1 [.w [(0, .t (.v (.rt 1))), (1, .t (.v (.c (.fn a1_k a1_c))))] [(1, .row 64 3 (List.map e_Net a0))] [(1, 0)], .r [.nl 3], .r [.call [(0, 1)] [.v (.rt 0), .v (.c (.fn a1_k a1_c))] [(0, .row 64 3 (List.map e_Net a0))] (iA r1.1) [(0, .row 64 3 (List.map e_Net r1.2))]], .r [], .b false, .r [], .s (slices_DeleteFunc_api_Net_api_Net_F0 a1_k a1_c r1.1 (w64 (r1.1 + 1)) r1.2) (slices_DeleteFunc_api_Net_api_Net_H0 a1_k a1_c r1.1 (w64 (r1.1 + 1)) r1.2) [] (slices_DeleteFunc_api_Net_api_Net_R r28)] (an (an (slices_IndexFunc_api_Net_api_Net_own_ok a0 a1_k a1_c a1 a1_ok r1 h2) (an (Eq.refl ([.v (.rt 1), .v (.c (.fn a1_k a1_c))] : List TV)) (Eq.refl (renH (asg [(0, 1)]) [(0, .row 64 3 (List.map e_Net a0))])))) (an h3 (slices_DeleteFunc_api_Net_api_Net_l0 a1_k a1_c a1 a1_ok r1.1 (w64 (r1.1 + 1)) r1.2 (.ret r28) h27))) (by kernel_rfl)

noncomputable def nl_Without_4_c : Code := (Go.Proofs.Tryd.f88.body).getD .skip
theorem nl_Without_4_fn : FnOk PG 88 nl_Without_4_c 7 [.tmp 2] := ⟨⟨Go.Proofs.Tryd.f88, by kernel_rfl, by kernel_rfl, by kernel_rfl, by kernel_rfl, by kernel_rfl⟩⟩
noncomputable def nl_Without_4 (a0 : Net) : Option Bool :=
 some ((a0.Pins.length : Int) == 0)
theorem nl_Without_4_ok (a0 : Net) (r : Bool) (h : nl_Without_4 a0 = some r) : Spec PG 88 [gT (e_Net a0)] [] (bA r) [] := by
  unfold nl_Without_4 at h
  have h := Option.some.inj h
  subst h
  exact Spec.path XTok PGmix nl_Without_4_fn 0 [.r [.id 0], .r [.eq 5 (iA (a0.Pins.length : Int))]] (leni_eq e_Pin a0.Pins) (by kernel_rfl)

noncomputable def nl_Without_c : Code := (Go.Proofs.Tryd.f30.body).getD .skip
theorem nl_Without_fn : FnOk PG 30 nl_Without_c 58 [.cell 6 26, .tmp 7] := ⟨⟨Go.Proofs.Tryd.f30, by kernel_rfl, by kernel_rfl, by kernel_rfl, by kernel_rfl, by kernel_rfl⟩⟩
noncomputable def nl_Without_c0 : Code := cL (cL (cR (cL (cR (cR (cR (cR (cR nl_Without_c))))))))
noncomputable def nl_Without_R (r : Netlist × Int) : Oc := .ret [(6, .t (.v (.ptr 0 0))), (7, iA r.2)] [(0, .cells 26 [.c (.sl 2 (List.map e_Part r.1.Parts)), .c (.sl 3 (List.map e_Net r.1.Nets))])]
noncomputable def nl_Without_F0 (a2 : List ByteArray) (r7 : Netlist) (r9 : List Part) (i11 : Nat) (y12 : List Net) : Fr := [(5, .t (.v (.c (.ptr [.sl 1 (List.map e_str a2)])))), (6, .t (.v (.ptr 2 0))), (10, .t (.v (.ptr 5 0))), (34, .t (.v (.rt 4))), (35, iA (r7.Nets.length : Int)), (36, iA (i11 : Int))]
noncomputable def nl_Without_H0 (a2 : List ByteArray) (r7 : Netlist) (r9 : List Part) (i11 : Nat) (y12 : List Net) : Hp := [(6, .row 73 2 (List.map e_Part r9)), (4, .nrow 64 3 1 28 2 (y12).length [] (List.map e_Net y12)), (2, .cells 26 [.c (.nil), .c (.nil)]), (5, .cells 26 [.rt 6, .rt 4])]
noncomputable def nl_Without_B0 (a2 : List ByteArray) (r7 : Netlist) (r9 : List Part) (s : List Net) : Oc := .ex 0 [(6, .t (.v (.ptr 2 0))), (10, .t (.v (.ptr 5 0)))] [(6, .row 73 2 (List.map e_Part r9)), (4, .nrow 64 3 1 28 2 (s).length [] (List.map e_Net s)), (2, .cells 26 [.c (.nil), .c (.nil)]), (5, .cells 26 [.rt 6, .rt 4])]
noncomputable def nl_Without_b0 (a2 : List ByteArray) (r7 : Netlist) (r9 : List Part) (i11 : Nat) (y12 : List Net) : Option (Stp (List Net) (Netlist × Int)) :=
 bnd (atI y12 (i11 : Int)) fun x13 =>
 bnd (slices_DeleteFunc_api_Pin_api_Pin x13.Pins (fun z0 => nl_Without_3 z0 a2)) fun r15 =>
 bnd (atI y12 (i11 : Int)) fun x17 =>
 some (.go (y12.set (Int.toNat (i11 : Int)) (⟨x17.Name, r15, x17.Ports⟩ : Net)))
theorem nl_Without_b0_r (a2 : List ByteArray) (r7 : Netlist) (r9 : List Part) (i11 : Nat) (y12 : List Net) (o : Stp (List Net) (Netlist × Int)) (hM : r7.Nets.length ≤ lim) (hi : i11 < r7.Nets.length) (h : nl_Without_b0 a2 r7 r9 i11 y12 = some o) :
    Runs PG 58 0 nl_Without_c0 (nl_Without_F0 a2 r7 r9 i11 y12) (nl_Without_H0 a2 r7 r9 i11 y12) (stpOc (fun s' => .nor (nl_Without_F0 a2 r7 r9 (i11 + 1) s') (nl_Without_H0 a2 r7 r9 (i11 + 1) s')) (nl_Without_B0 a2 r7 r9) nl_Without_R o) := by
  unfold nl_Without_b0 at h
  obtain ⟨x13, h14, h⟩ := bnd_e h
  obtain ⟨r15, h16, h⟩ := bnd_e h
  obtain ⟨x17, h18, h⟩ := bnd_e h
  have h := Option.some.inj h
  subst h
  exact Runs.path XTok PGmix [.r [], .b true, .r [], .g (.t 4 (Int.toNat (i11 : Int)) 7 (e_Net x13)), .d [([], []), ([5], []), ([], []), ([], []), ([5], []), ([], []), ([4], []), ([], []), ([4], [.hl 7]), ([], []), ([7], [.call [(0, 7), (1, 8)] [.v (.rt 0), .v (.c (.fn 86 [.ptr [.sl 1 (List.map e_str a2)]]))] [(0, .row 28 2 (List.map e_Pin x13.Pins))] (.t (.v (.rt 1))) [(1, .row 28 2 (List.map e_Pin r15))]]), ([4], []), ([], []), ([4], [.hl 7])], .g (.c 4 8 (y12.set (Int.toNat (i11 : Int)) (⟨x17.Name, r15, x17.Ports⟩ : Net)).length (e_Net x17) (List.map e_Net (y12.set (Int.toNat (i11 : Int)) (⟨x17.Name, r15, x17.Ports⟩ : Net)))), .r [.eq 52 (iA ((i11 + 1 : Nat) : Int))]] [] (an (lt_true hi) (an (nt_lt h14) (an (nt_el e_Net h14) (an trivial (an (idx_lt e_Net h14) (an (Eq.refl (Int.toNat (i11 : Int))) (an (an (slices_DeleteFunc_api_Pin_api_Pin_ok x13.Pins 86 [.ptr [.sl 1 (List.map e_str a2)]] (fun z0 => nl_Without_3 z0 a2) (fun z0 r h => nl_Without_3_ok z0 a2 r h) r15 h16) (an (Eq.refl ([.v (.rt 7), .v (.c (.fn 86 [.ptr [.sl 1 (List.map e_str a2)]]))] : List TV)) (Eq.refl (renH (asg [(0, 7), (1, 8)]) [(0, .row 28 2 (List.map e_Pin x13.Pins))])))) (an (idx_lt e_Net h18) (an (an (Eq.refl (Int.toNat (i11 : Int))) trivial) (an (nc_len y12 (Int.toNat (i11 : Int)) (⟨x17.Name, r15, x17.Ports⟩ : Net)) (an (nt_el e_Net h18) (an (nc_set e_Net y12 (Int.toNat (i11 : Int)) (⟨x17.Name, r15, x17.Ports⟩ : Net) x17 1 (.sl 2 (List.map e_Pin r15)) (by kernel_rfl)) (wrap_eq hi hM))))))))))))) (by kernel_rfl)
theorem nl_Without_b0_e (a2 : List ByteArray) (r7 : Netlist) (r9 : List Part) (y12 : List Net) : Runs PG 58 0 nl_Without_c0 (nl_Without_F0 a2 r7 r9 (r7.Nets.length) y12) (nl_Without_H0 a2 r7 r9 (r7.Nets.length) y12) (nl_Without_B0 a2 r7 r9 y12) := by
  exact Runs.path XTok PGmix [.r [], .b false] [] (lt_false (r7.Nets.length)) (by kernel_rfl)
theorem nl_Without_l0 (a2 : List ByteArray) (r7 : Netlist) (r9 : List Part) (y12 : List Net) (hM : r7.Nets.length ≤ lim) (r : Fin' (List Net) (Netlist × Int)) (h : forN (fun i11 s => nl_Without_b0 a2 r7 r9 i11 s) (r7.Nets.length) 0 y12 = some r) : Runs PG 58 0 (cL (cR (cL (cR (cR (cR (cR (cR nl_Without_c)))))))) (nl_Without_F0 a2 r7 r9 0 y12) (nl_Without_H0 a2 r7 r9 0 y12) (finOc (nl_Without_B0 a2 r7 r9) nl_Without_R r) :=
  Runs.loop' (by kernel_rfl) (forN_rounds (σ := (List Net)) (ρ := (Netlist × Int)) (body := fun i11 s => nl_Without_b0 a2 r7 r9 i11 s) (F := fun i11 s => nl_Without_F0 a2 r7 r9 i11 s) (H := fun i11 s => nl_Without_H0 a2 r7 r9 i11 s) (B := nl_Without_B0 a2 r7 r9) (R := nl_Without_R) (M := r7.Nets.length) (fun _ => rfl) (fun _ => rfl) (fun s => nl_Without_b0_e a2 r7 r9 s) (fun i s o hi h => nl_Without_b0_r a2 r7 r9 i s o hM hi h) _ 0 _ r (Nat.zero_add _) h)
noncomputable def nl_Without (a0 : List PartType) (a1 : Netlist) (a2 : List ByteArray) : Option (Netlist × Int) :=
 bnd (nl_CheckList a0 a1) fun r1 =>
 cnd (r1 != 0) (some ((⟨[], []⟩ : Netlist), r1)) (bnd (nl_checkNames a2 1000 (fun z0 => nl_Without_1 z0 a1)) fun r4 =>
 cnd (r4 != 0) (some ((⟨[], []⟩ : Netlist), r4)) (bnd (nl_Own a1) fun r7 =>
 bnd (slices_DeleteFunc_api_Part_api_Part r7.Parts (fun z0 => nl_Without_2 z0 a2)) fun r9 =>
 grd (r7.Nets.length ≤ lim) <|
 aft1 (forN (fun i11 s => nl_Without_b0 a2 r7 r9 i11 s) (r7.Nets.length) 0 r7.Nets) (fun u19 =>
 bnd (slices_DeleteFunc_api_Net_api_Net u19 (fun z0 => nl_Without_4 z0)) fun r23 =>
 some ((⟨r9, r23⟩ : Netlist), 0))
 (fun r21 =>
 some r21)))
theorem nl_Without_ok (a0 : List PartType) (a1 : Netlist) (a2 : List ByteArray) (r : Netlist × Int) (h : nl_Without a0 a1 a2 = some r) : Spec PG 30 [lT 2 (List.map e_PartType a0), gT (e_Netlist a1), lT 1 (List.map e_str a2)] [] (.tup [gT (e_Netlist r.1), iT r.2]) [] := by
  unfold nl_Without at h
  obtain ⟨r1, h2, h⟩ := bnd_e h
  rcases cnd_e h with ⟨h3, h⟩ | ⟨h3, h⟩
  · have h := Option.some.inj h
    subst h
    exact Spec.path XTok PGmix nl_Without_fn 0 [.r [.id 0, .id 1, .id 2], .r [.val (iA r1)], .r [], .b true, .r [], .m 2 0 2, .m 2 1 3, .w [(6, .t (.v (.ptr 0 0))), (7, iA r1)] [(0, .cells 26 [.c (.sl 2 (List.map e_Part [])), .c (.sl 3 (List.map e_Net []))])] [(0, 2)]] (an (nl_CheckList_ok a0 a1 r1 h2) h3) (by kernel_rfl)
  · obtain ⟨r4, h5, h⟩ := bnd_e h
    rcases cnd_e h with ⟨h6, h⟩ | ⟨h6, h⟩
    · have h := Option.some.inj h
      subst h
      exact Spec.path XTok PGmix nl_Without_fn 0 [.r [.id 0, .id 1, .id 2], .r [.val (iA r1)], .r [], .b false, .fb 0, .r [.val (iA r4)], .r [], .b true, .r [], .m 2 0 2, .m 2 1 3, .w [(6, .t (.v (.ptr 0 0))), (7, iA r4)] [(0, .cells 26 [.c (.sl 2 (List.map e_Part [])), .c (.sl 3 (List.map e_Net []))])] [(0, 2)]] (an (nl_CheckList_ok a0 a1 r1 h2) (an h3 (an (nl_checkNames_ok a2 1000 80 [.ptr (e_Netlist a1)] (fun z0 => nl_Without_1 z0 a1) (fun z0 r h => nl_Without_1_ok z0 a1 r h) r4 h5) h6))) (by kernel_rfl)
    · obtain ⟨r7, h8, h⟩ := bnd_e h
      obtain ⟨r9, h10, h⟩ := bnd_e h
      obtain ⟨h22, h⟩ := grd_e h
      rcases aft1_e h with ⟨u19, h20, h⟩ | ⟨r21, h20, h⟩
      · obtain ⟨r23, h24, h⟩ := bnd_e h
        have h := Option.some.inj h
        subst h
        exact Spec.path XTok PGmix nl_Without_fn 0 [.r [.id 0, .id 1, .id 2], .r [.val (iA r1)], .r [], .b false, .fb 0, .r [.val (iA r4)], .r [], .b false, .r [.call [(1, 3), (2, 4)] [gT (e_Netlist a1)] [] (.t (.agg [.rt 1, .rt 2])) [(1, .row 73 2 (List.map e_Part r7.Parts)), (2, .nrow 64 3 1 28 2 (r7.Nets).length [] (List.map e_Net r7.Nets))], .id 5], .fb 1, .r [.call [(0, 3), (1, 6)] [.v (.rt 0), .v (.c (.fn 83 [.ptr [.sl 1 (List.map e_str a2)]]))] [(0, .row 73 2 (List.map e_Part r7.Parts))] (.t (.v (.rt 1))) [(1, .row 73 2 (List.map e_Part r9))]], .r [.eq 35 (iA (r7.Nets.length : Int))], .s (nl_Without_F0 a2 r7 r9 0 r7.Nets) (nl_Without_H0 a2 r7 r9 0 r7.Nets) [] (nl_Without_B0 a2 r7 r9 u19), .g (.z 4), .r [.call [(0, 4), (1, 7)] [.v (.rt 0), .v (.c (.fn 88 []))] [(0, .row 64 3 (List.map e_Net u19))] (.t (.v (.rt 1))) [(1, .row 64 3 (List.map e_Net r23))]], .r [], .f 6, .f 7, .w [(6, .t (.v (.ptr 0 0))), (7, iA 0)] [(0, .cells 26 [.c (.sl 2 (List.map e_Part r9)), .c (.sl 3 (List.map e_Net r23))])] [(0, 2)]] (an (nl_CheckList_ok a0 a1 r1 h2) (an h3 (an (nl_checkNames_ok a2 1000 80 [.ptr (e_Netlist a1)] (fun z0 => nl_Without_1 z0 a1) (fun z0 r h => nl_Without_1_ok z0 a1 r h) r4 h5) (an h6 (an (an (nl_Own_ok a1 r7 h8) (an (Eq.refl ([gT (e_Netlist a1)] : List TV)) (Eq.refl (renH (asg [(1, 3), (2, 4)]) [])))) (an (an (slices_DeleteFunc_api_Part_api_Part_ok r7.Parts 83 [.ptr [.sl 1 (List.map e_str a2)]] (fun z0 => nl_Without_2 z0 a2) (fun z0 r h => nl_Without_2_ok z0 a2 r h) r9 h10) (an (Eq.refl ([.v (.rt 3), .v (.c (.fn 83 [.ptr [.sl 1 (List.map e_str a2)]]))] : List TV)) (Eq.refl (renH (asg [(0, 3), (1, 6)]) [(0, .row 73 2 (List.map e_Part r7.Parts))])))) (an (leni_eq e_Net r7.Nets) (an (nl_Without_l0 a2 r7 r9 r7.Nets h22 (.fin u19) h20) (an (slices_DeleteFunc_api_Net_api_Net_ok u19 88 [] (fun z0 => nl_Without_4 z0) (fun z0 r h => nl_Without_4_ok z0 r h) r23 h24) (an (Eq.refl ([.v (.rt 4), .v (.c (.fn 88 []))] : List TV)) (Eq.refl (renH (asg [(0, 4), (1, 7)]) [(0, .row 64 3 (List.map e_Net u19))])))))))))))) (by kernel_rfl)
      · have h := Option.some.inj h
        subst h
        exact Spec.path XTok PGmix nl_Without_fn 0 [.r [.id 0, .id 1, .id 2], .r [.val (iA r1)], .r [], .b false, .fb 0, .r [.val (iA r4)], .r [], .b false, .r [.call [(1, 3), (2, 4)] [gT (e_Netlist a1)] [] (.t (.agg [.rt 1, .rt 2])) [(1, .row 73 2 (List.map e_Part r7.Parts)), (2, .nrow 64 3 1 28 2 (r7.Nets).length [] (List.map e_Net r7.Nets))], .id 5], .fb 1, .r [.call [(0, 3), (1, 6)] [.v (.rt 0), .v (.c (.fn 83 [.ptr [.sl 1 (List.map e_str a2)]]))] [(0, .row 73 2 (List.map e_Part r7.Parts))] (.t (.v (.rt 1))) [(1, .row 73 2 (List.map e_Part r9))]], .r [.eq 35 (iA (r7.Nets.length : Int))], .s (nl_Without_F0 a2 r7 r9 0 r7.Nets) (nl_Without_H0 a2 r7 r9 0 r7.Nets) [] (nl_Without_R r21)] (an (nl_CheckList_ok a0 a1 r1 h2) (an h3 (an (nl_checkNames_ok a2 1000 80 [.ptr (e_Netlist a1)] (fun z0 => nl_Without_1 z0 a1) (fun z0 r h => nl_Without_1_ok z0 a1 r h) r4 h5) (an h6 (an (an (nl_Own_ok a1 r7 h8) (an (Eq.refl ([gT (e_Netlist a1)] : List TV)) (Eq.refl (renH (asg [(1, 3), (2, 4)]) [])))) (an (an (slices_DeleteFunc_api_Part_api_Part_ok r7.Parts 83 [.ptr [.sl 1 (List.map e_str a2)]] (fun z0 => nl_Without_2 z0 a2) (fun z0 r h => nl_Without_2_ok z0 a2 r h) r9 h10) (an (Eq.refl ([.v (.rt 3), .v (.c (.fn 83 [.ptr [.sl 1 (List.map e_str a2)]]))] : List TV)) (Eq.refl (renH (asg [(0, 3), (1, 6)]) [(0, .row 73 2 (List.map e_Part r7.Parts))])))) (an (leni_eq e_Net r7.Nets) (nl_Without_l0 a2 r7 r9 r7.Nets h22 (.ret r21) h20)))))))) (by kernel_rfl)

noncomputable def ref_Below_c : Code := (Go.Proofs.Tryd.f31.body).getD .skip
theorem ref_Below_fn : FnOk PG 31 ref_Below_c 14 [.tmp 4] := ⟨⟨Go.Proofs.Tryd.f31, by kernel_rfl, by kernel_rfl, by kernel_rfl, by kernel_rfl, by kernel_rfl⟩⟩
noncomputable def ref_Below (a0 : Int) (a1 : Int) : Option Int :=
 grd (a1 ≠ (0 : Int)) <|
 bnd1 (cnd (decide ((a0.tmod a1) < 0)) (some (w64 ((a0.tmod a1) + a1))) (some (a0.tmod a1))) fun v2 =>
 some v2
theorem ref_Below_ok (a0 : Int) (a1 : Int) (r : Int) (h : ref_Below a0 a1 = some r) : Spec PG 31 [iT a0, iT a1] [] (iA r) [] := by
  unfold ref_Below at h
  obtain ⟨h1, h⟩ := grd_e h
  obtain ⟨v2, h3, h⟩ := bnd1_e h
  let q6_f : Fr := [(0, iA (a0.tmod a1)), (1, iA a1), (9, bA (decide ((a0.tmod a1) < 0)))]
  let q6_g : Hp := []
  let q6_f' : Fr := [(0, iA v2)]
  let q6_g' : Hp := []
  have R4 : Runs PG 14 0 (cR (cL (cR (cR ref_Below_c)))) q6_f q6_g (.nor q6_f' q6_g') := by
    rcases cnd_e h3 with ⟨h5, h3⟩ | ⟨h5, h3⟩
    · have h3 := Option.some.inj h3
      subst h3
      exact Runs.path XTok PGmix [.b true, .r []] [] h5 (by kernel_rfl)
    · have h3 := Option.some.inj h3
      subst h3
      exact Runs.path XTok PGmix [.b false] [] h5 (by kernel_rfl)
  have h := Option.some.inj h
  subst h
  exact Spec.path XTok PGmix ref_Below_fn 0 [.r [], .r [], .r [], .s q6_f q6_g [] (.nor q6_f' q6_g'), .r []] (an h1 R4) (by kernel_rfl)

noncomputable def law_NetlistWithoutTwice_c : Code := (Go.Proofs.Tryd.f7.body).getD .skip
theorem law_NetlistWithoutTwice_fn : FnOk PG 7 law_NetlistWithoutTwice_c 63 [.tmp 8] := ⟨⟨Go.Proofs.Tryd.f7, by kernel_rfl, by kernel_rfl, by kernel_rfl, by kernel_rfl, by kernel_rfl⟩⟩
noncomputable def law_NetlistWithoutTwice (a0 : List PartType) (a1 : Netlist) (a2 : List ByteArray) (a3 : Int) : Option Bool :=
 bnd (nl_Without a0 a1 a2) fun r1 =>
 cnd (r1.2 != 0) (bnd1 (cnd ((r1.1.Parts.length : Int) == 0) (bnd (law_awake ) fun r8 =>
 some r8) (some false)) fun v4 =>
 some v4) (bnd (ref_Below a3 (w64 ((a2.length : Int) + 1))) fun r11 =>
 grd ((0 : Int) ≤ 0 ∧ 0 ≤ r11 ∧ r11 ≤ (a2.length : Int)) <|
 bnd (nl_Without a0 a1 ((a2.take (Int.toNat r11)).drop (Int.toNat 0))) fun r14 =>
 cnd (r14.2 != 0) (some false) (grd ((0 : Int) ≤ r11 ∧ r11 ≤ (a2.length : Int)) <|
 bnd (nl_Without a0 r14.1 (a2.drop (Int.toNat r11))) fun r18 =>
 bnd1 (cnd (r18.2 == 0) (bnd (ref_Same r1.1 r18.1) fun r24 =>
 cnd r24 (bnd (law_awake ) fun r27 =>
 some r27) (some false)) (some false)) fun v20 =>
 some v20))
theorem law_NetlistWithoutTwice_ok (a0 : List PartType) (a1 : Netlist) (a2 : List ByteArray) (a3 : Int) (r : Bool) (h : law_NetlistWithoutTwice a0 a1 a2 a3 = some r) : Spec PG 7 [lT 2 (List.map e_PartType a0), gT (e_Netlist a1), lT 1 (List.map e_str a2), iT a3] [] (bA r) [] := by
  unfold law_NetlistWithoutTwice at h
  obtain ⟨r1, h2, h⟩ := bnd_e h
  rcases cnd_e h with ⟨h3, h⟩ | ⟨h3, h⟩
  · obtain ⟨v4, h5, h⟩ := bnd1_e h
    let q10_f : Fr := [(9, .t (.v (.ptr 1 0)))]
    let q10_g : Hp := [(1, .cells 26 [.c (.sl 2 (List.map e_Part r1.1.Parts)), .c (.sl 3 (List.map e_Net r1.1.Nets))])]
    let q10_f' : Fr := [(8, bA v4)]
    let q10_g' : Hp := []
    have R6 : Runs PG 63 0 (cL (cL (cR (cL (cR (cR law_NetlistWithoutTwice_c)))))) q10_f q10_g (.nor q10_f' q10_g') := by
      rcases cnd_e h5 with ⟨h7, h5⟩ | ⟨h7, h5⟩
      · obtain ⟨r8, h9, h5⟩ := bnd_e h5
        have h5 := Option.some.inj h5
        subst h5
        exact Runs.path XTok PGmix [.r [.eq 23 (iA (r1.1.Parts.length : Int)), .b true, .val (bA r8), .b true]] [] (an (leni_eq e_Part r1.1.Parts) (an h7 (an (law_awake_ok r8 h9) h7))) (by kernel_rfl)
      · have h5 := Option.some.inj h5
        subst h5
        exact Runs.path XTok PGmix [.r [.eq 23 (iA (r1.1.Parts.length : Int)), .b false, .b false]] [] (an (leni_eq e_Part r1.1.Parts) (an h7 h7)) (by kernel_rfl)
    have h := Option.some.inj h
    subst h
    exact Spec.path XTok PGmix law_NetlistWithoutTwice_fn 0 [.r [.id 0], .r [.val (.tup [gT (e_Netlist r1.1), iT r1.2]), .id 1], .r [], .b true, .s q10_f q10_g [] (.nor q10_f' q10_g')] (an (nl_Without_ok a0 a1 a2 r1 h2) (an h3 R6)) (by kernel_rfl)
  · obtain ⟨r11, h12, h⟩ := bnd_e h
    obtain ⟨h13, h⟩ := grd_e h
    obtain ⟨r14, h15, h⟩ := bnd_e h
    rcases cnd_e h with ⟨h16, h⟩ | ⟨h16, h⟩
    · have h := Option.some.inj h
      subst h
      exact Spec.path XTok PGmix law_NetlistWithoutTwice_fn 0 [.r [.id 0], .r [.val (.tup [gT (e_Netlist r1.1), iT r1.2]), .id 1], .r [], .b false, .r [.eq 30 (iA (a2.length : Int)), .val (iA r11)], .d [([], []), ([0], []), ([], []), ([], []), ([], [.eq 38 (lA 1 (List.map e_str ((a2.take (Int.toNat r11)).drop (Int.toNat 0))))]), ([], [.val (.tup [gT (e_Netlist r14.1), iT r14.2])]), ([], []), ([], []), ([], []), ([], [.id 2]), ([2], []), ([], [])], .r [], .b true, .r []] (an (nl_Without_ok a0 a1 a2 r1 h2) (an h3 (an (leni_eq e_str a2) (an (ref_Below_ok a3 (w64 ((a2.length : Int) + 1)) r11 h12) (an (cut_lh e_str h13) (an (cut_eq 1 e_str a2 (Int.toNat r11) (Int.toNat 0)) (an (nl_Without_ok a0 a1 ((a2.take (Int.toNat r11)).drop (Int.toNat 0)) r14 h15) h16))))))) (by kernel_rfl)
    · obtain ⟨h17, h⟩ := grd_e h
      obtain ⟨r18, h19, h⟩ := bnd_e h
      obtain ⟨v20, h21, h⟩ := bnd1_e h
      let q29_f : Fr := [(9, .t (.v (.ptr 1 0))), (10, iA r18.2), (11, .t (.v (.ptr 2 0)))]
      let q29_g : Hp := [(1, .cells 26 [.c (.sl 2 (List.map e_Part r1.1.Parts)), .c (.sl 3 (List.map e_Net r1.1.Nets))]), (2, .cells 26 [.c (.sl 2 (List.map e_Part r18.1.Parts)), .c (.sl 3 (List.map e_Net r18.1.Nets))])]
      let q29_f' : Fr := [(8, bA v20)]
      let q29_g' : Hp := []
      have R22 : Runs PG 63 0 (cL (cR (cR (cR (cR (cR (cR (cR law_NetlistWithoutTwice_c)))))))) q29_f q29_g (.nor q29_f' q29_g') := by
        rcases cnd_e h21 with ⟨h23, h21⟩ | ⟨h23, h21⟩
        · obtain ⟨r24, h25, h21⟩ := bnd_e h21
          rcases cnd_e h21 with ⟨h26, h21⟩ | ⟨h26, h21⟩
          · obtain ⟨r27, h28, h21⟩ := bnd_e h21
            have h21 := Option.some.inj h21
            subst h21
            exact Runs.path XTok PGmix [.r [.b true, .b true, .b true, .val (bA r24), .b true, .b true, .val (bA r27), .b true]] [] (an h23 (an h23 (an h23 (an (ref_Same_ok r1.1 r18.1 r24 h25) (an h23 (an h26 (an (law_awake_ok r27 h28) h26))))))) (by kernel_rfl)
          · have h21 := Option.some.inj h21
            subst h21
            exact Runs.path XTok PGmix [.r [.b true, .b true, .b true, .val (bA r24), .b true, .b false, .b false]] [] (an h23 (an h23 (an h23 (an (ref_Same_ok r1.1 r18.1 r24 h25) (an h23 (an h26 h26)))))) (by kernel_rfl)
        · have h21 := Option.some.inj h21
          subst h21
          exact Runs.path XTok PGmix [.r [.b false, .b false, .b false, .b false, .b false, .b false]] [] (an h23 (an h23 (an h23 (an h23 (an (Eq.refl false) (Eq.refl false)))))) (by kernel_rfl)
      have h := Option.some.inj h
      subst h
      exact Spec.path XTok PGmix law_NetlistWithoutTwice_fn 0 [.r [.id 0], .r [.val (.tup [gT (e_Netlist r1.1), iT r1.2]), .id 1], .r [], .b false, .r [.eq 30 (iA (a2.length : Int)), .val (iA r11)], .d [([], []), ([0], []), ([], []), ([], []), ([], [.eq 38 (lA 1 (List.map e_str ((a2.take (Int.toNat r11)).drop (Int.toNat 0))))]), ([], [.val (.tup [gT (e_Netlist r14.1), iT r14.2])]), ([], []), ([], []), ([], []), ([], [.id 2]), ([2], []), ([], [])], .r [], .b false, .d [([], []), ([2], []), ([], []), ([], []), ([], [.eq 49 (lA 1 (List.map e_str (a2.drop (Int.toNat r11))))]), ([], [.val (.tup [gT (e_Netlist r18.1), iT r18.2])]), ([], []), ([], []), ([], []), ([2], []), ([], [])], .s q29_f q29_g [] (.nor q29_f' q29_g')] (an (nl_Without_ok a0 a1 a2 r1 h2) (an h3 (an (leni_eq e_str a2) (an (ref_Below_ok a3 (w64 ((a2.length : Int) + 1)) r11 h12) (an (cut_lh e_str h13) (an (cut_eq 1 e_str a2 (Int.toNat r11) (Int.toNat 0)) (an (nl_Without_ok a0 a1 ((a2.take (Int.toNat r11)).drop (Int.toNat 0)) r14 h15) (an h16 (an (cut_l e_str h17) (an (drop_eq 1 e_str a2 (Int.toNat r11)) (an (nl_Without_ok a0 r14.1 (a2.drop (Int.toNat r11)) r18 h19) R22))))))))))) (by kernel_rfl)
end Go.Proofs.YtlbndchfmdogeaaDoor.Sym
