/- Printed by gen2.py: the plain forms of functions, and that calling them gives what these give. Conditions: none. -/
import Derived.Test.YtajmjfdopminbaaSb
set_option linter.unusedVariables false
set_option maxHeartbeats 4000000
namespace Go.Proofs.Ytajmjfdopminbaa.Sym
open Go Go.RowKit
noncomputable def copper_within_c : Code := (Go.Proofs.Try.f7.body).getD .skip
theorem copper_within_fn : FnOk PG 7 copper_within_c 15 [.tmp 6] := ⟨⟨Go.Proofs.Try.f7, by kernel_rfl, by kernel_rfl, by kernel_rfl, by kernel_rfl, by kernel_rfl⟩⟩
noncomputable def copper_within (a0 : Int) (a1 : Int) (a2 : Int) : Option Bool :=
 bnd1 (cnd (decide (a0 ≥ a1)) (some (decide (a0 ≤ a2))) (some false)) fun v1 =>
 some v1
theorem copper_within_ok (a0 : Int) (a1 : Int) (a2 : Int) (r : Bool) (h : copper_within a0 a1 a2 = some r) : Spec PG 7 [iT a0, iT a1, iT a2] [] (bA r) [] := by
  unfold copper_within at h
  obtain ⟨v1, h2, h⟩ := bnd1_e h
  let q5_f : Fr := [(0, iA a0), (1, iA a1), (2, iA a2)]
  let q5_g : Hp := []
  let q5_f' : Fr := [(6, bA v1)]
  let q5_g' : Hp := []
  have R3 : Runs PG 15 0 (cL (cR copper_within_c)) q5_f q5_g (.nor q5_f' q5_g') := by
    rcases cnd_e h2 with ⟨h4, h2⟩ | ⟨h4, h2⟩
    · have h2 := Option.some.inj h2
      subst h2
      exact Runs.path XTok PGmix [.r [.b true, .b true, .b true, .b true]] [] (an h4 (an h4 (an h4 h4))) (by kernel_rfl)
    · have h2 := Option.some.inj h2
      subst h2
      exact Runs.path XTok PGmix [.r [.b false, .b false, .b false, .b false]] [] (an h4 (an h4 (an h4 h4))) (by kernel_rfl)
  have h := Option.some.inj h
  subst h
  exact Spec.path XTok PGmix copper_within_fn 0 [.r [], .s q5_f q5_g [] (.nor q5_f' q5_g')] R3 (by kernel_rfl)

noncomputable def shape_within_c : Code := (Go.Proofs.Try.f29.body).getD .skip
theorem shape_within_fn : FnOk PG 29 shape_within_c 15 [.tmp 6] := ⟨⟨Go.Proofs.Try.f29, by kernel_rfl, by kernel_rfl, by kernel_rfl, by kernel_rfl, by kernel_rfl⟩⟩
noncomputable def shape_within (a0 : Int) (a1 : Int) (a2 : Int) : Option Bool :=
 bnd1 (cnd (decide (a0 ≥ a1)) (some (decide (a0 ≤ a2))) (some false)) fun v1 =>
 some v1
theorem shape_within_ok (a0 : Int) (a1 : Int) (a2 : Int) (r : Bool) (h : shape_within a0 a1 a2 = some r) : Spec PG 29 [iT a0, iT a1, iT a2] [] (bA r) [] := by
  unfold shape_within at h
  obtain ⟨v1, h2, h⟩ := bnd1_e h
  let q5_f : Fr := [(0, iA a0), (1, iA a1), (2, iA a2)]
  let q5_g : Hp := []
  let q5_f' : Fr := [(6, bA v1)]
  let q5_g' : Hp := []
  have R3 : Runs PG 15 0 (cL (cR shape_within_c)) q5_f q5_g (.nor q5_f' q5_g') := by
    rcases cnd_e h2 with ⟨h4, h2⟩ | ⟨h4, h2⟩
    · have h2 := Option.some.inj h2
      subst h2
      exact Runs.path XTok PGmix [.r [.b true, .b true, .b true, .b true]] [] (an h4 (an h4 (an h4 h4))) (by kernel_rfl)
    · have h2 := Option.some.inj h2
      subst h2
      exact Runs.path XTok PGmix [.r [.b false, .b false, .b false, .b false]] [] (an h4 (an h4 (an h4 h4))) (by kernel_rfl)
  have h := Option.some.inj h
  subst h
  exact Spec.path XTok PGmix shape_within_fn 0 [.r [], .s q5_f q5_g [] (.nor q5_f' q5_g')] R3 (by kernel_rfl)

noncomputable def shape_IsAt_c : Code := (Go.Proofs.Try.f14.body).getD .skip
theorem shape_IsAt_fn : FnOk PG 14 shape_IsAt_c 5 [.tmp 2] := ⟨⟨Go.Proofs.Try.f14, by kernel_rfl, by kernel_rfl, by kernel_rfl, by kernel_rfl, by kernel_rfl⟩⟩
noncomputable def shape_IsAt (a0 : Int) : Option Bool :=
 bnd (shape_within a0 (-1000000) 1000000) fun r1 =>
 some r1
theorem shape_IsAt_ok (a0 : Int) (r : Bool) (h : shape_IsAt a0 = some r) : Spec PG 14 [iT a0] [] (bA r) [] := by
  unfold shape_IsAt at h
  obtain ⟨r1, h2, h⟩ := bnd_e h
  have h := Option.some.inj h
  subst h
  exact Spec.path XTok PGmix shape_IsAt_fn 0 [.r [], .r [.val (bA r1)]] (shape_within_ok a0 (-1000000) 1000000 r1 h2) (by kernel_rfl)

noncomputable def shape_IsPoint_c : Code := (Go.Proofs.Try.f8.body).getD .skip
theorem shape_IsPoint_fn : FnOk PG 8 shape_IsPoint_c 11 [.tmp 2] := ⟨⟨Go.Proofs.Try.f8, by kernel_rfl, by kernel_rfl, by kernel_rfl, by kernel_rfl, by kernel_rfl⟩⟩
noncomputable def shape_IsPoint (a0 : Point) : Option Bool :=
 bnd1 (bnd (shape_IsAt a0.X) fun r4 =>
 cnd r4 (bnd (shape_IsAt a0.Y) fun r7 =>
 some r7) (some false)) fun v1 =>
 some v1
theorem shape_IsPoint_ok (a0 : Point) (r : Bool) (h : shape_IsPoint a0 = some r) : Spec PG 8 [gT (e_Point a0)] [] (bA r) [] := by
  unfold shape_IsPoint at h
  obtain ⟨v1, h2, h⟩ := bnd1_e h
  let q9_f : Fr := [(1, .t (.v (.ptr 0 0)))]
  let q9_g : Hp := [(0, .cells 23 [.c (iC a0.X), .c (iC a0.Y)])]
  let q9_f' : Fr := [(2, bA v1)]
  let q9_g' : Hp := []
  have R3 : Runs PG 11 0 (cL (cR shape_IsPoint_c)) q9_f q9_g (.nor q9_f' q9_g') := by
    obtain ⟨r4, h5, h2⟩ := bnd_e h2
    rcases cnd_e h2 with ⟨h6, h2⟩ | ⟨h6, h2⟩
    · obtain ⟨r7, h8, h2⟩ := bnd_e h2
      have h2 := Option.some.inj h2
      subst h2
      exact Runs.path XTok PGmix [.r [.val (bA r4), .b true, .b true, .b true, .val (bA r7), .b true]] [] (an (shape_IsAt_ok a0.X r4 h5) (an h6 (an h6 (an h6 (an (shape_IsAt_ok a0.Y r7 h8) h6))))) (by kernel_rfl)
    · have h2 := Option.some.inj h2
      subst h2
      exact Runs.path XTok PGmix [.r [.val (bA r4), .b false, .b false, .b false, .b false]] [] (an (shape_IsAt_ok a0.X r4 h5) (an h6 (an h6 (an h6 h6)))) (by kernel_rfl)
  have h := Option.some.inj h
  subst h
  exact Spec.path XTok PGmix shape_IsPoint_fn 0 [.r [.id 0], .s q9_f q9_g [] (.nor q9_f' q9_g')] R3 (by kernel_rfl)

noncomputable def copper_SquareOf_c : Code := (Go.Proofs.Try.f9.body).getD .skip
theorem copper_SquareOf_fn : FnOk PG 9 copper_SquareOf_c 30 [.cell 2 27] := ⟨⟨Go.Proofs.Try.f9, by kernel_rfl, by kernel_rfl, by kernel_rfl, by kernel_rfl, by kernel_rfl⟩⟩
noncomputable def copper_SquareOf (a0 : Bore) : Option Rect :=
 grd (2 ≠ (0 : Int)) <|
 grd (2 ≠ (0 : Int)) <|
 some (⟨w64 (a0.At.X - (w64 (a0.Size.tdiv 2))), w64 (a0.At.Y - (w64 (a0.Size.tdiv 2))), w64 ((w64 (a0.At.X - (w64 (a0.Size.tdiv 2)))) + a0.Size), w64 ((w64 (a0.At.Y - (w64 (a0.Size.tdiv 2)))) + a0.Size)⟩ : Rect)
theorem copper_SquareOf_ok (a0 : Bore) (r : Rect) (h : copper_SquareOf a0 = some r) : Spec PG 9 [gT (e_Bore a0)] [] (.t (gT (e_Rect r))) [] := by
  unfold copper_SquareOf at h
  obtain ⟨h1, h⟩ := grd_e h
  obtain ⟨h2, h⟩ := grd_e h
  have h := Option.some.inj h
  subst h
  exact Spec.path XTok PGmix copper_SquareOf_fn 0 [.r [.id 0, .id 1], .d [([], []), ([], []), ([0], []), ([], []), ([0], []), ([], []), ([], []), ([], []), ([], []), ([0], []), ([], []), ([0], []), ([], []), ([], []), ([], []), ([], [])], .r [], .w [(2, .t (.v (.ptr 0 0)))] [(0, .cells 27 [.c (iC (w64 (a0.At.X - (w64 (a0.Size.tdiv 2))))), .c (iC (w64 (a0.At.Y - (w64 (a0.Size.tdiv 2))))), .c (iC (w64 ((w64 (a0.At.X - (w64 (a0.Size.tdiv 2)))) + a0.Size))), .c (iC (w64 ((w64 (a0.At.Y - (w64 (a0.Size.tdiv 2)))) + a0.Size)))])] [(0, 1)]] (an h1 h2) (by kernel_rfl)

noncomputable def slices_Clone_api_Rect_api_Rect_c : Code := (Go.Proofs.Try.f15.body).getD .skip
theorem slices_Clone_api_Rect_api_Rect_fn : FnOk PG 15 slices_Clone_api_Rect_api_Rect_c 8 [.tmp 2] := ⟨⟨Go.Proofs.Try.f15, by kernel_rfl, by kernel_rfl, by kernel_rfl, by kernel_rfl, by kernel_rfl⟩⟩
noncomputable def slices_Clone_api_Rect_api_Rect (a0 : List Rect) : Option (List Rect) :=
 grd (([] : List Rect).length + a0.length ≤ lim) <|
 some (([] : List Rect) ++ a0)
theorem slices_Clone_api_Rect_api_Rect_ok (a0 : List Rect) (r : List Rect) (h : slices_Clone_api_Rect_api_Rect a0 = some r) : Spec PG 15 [lT 4 (List.map e_Rect a0)] [] (lA 4 (List.map e_Rect r)) [] := by
  refine Spec.nilcase (pre := []) (fun hx => ?_) ?_
  · have hx := List.map_eq_nil_iff.1 hx
    subst hx
    have h : some [] = some r := h
    have h := Option.some.inj h
    subst h
    exact Spec.path XTok PGmix slices_Clone_api_Rect_api_Rect_fn 0 [.r [.nl 4], .r [], .b true, .r [.nl 4]] (Eq.refl true) (by kernel_rfl)
  · unfold slices_Clone_api_Rect_api_Rect at h
    obtain ⟨h1, h⟩ := grd_e h
    have h := Option.some.inj h
    subst h
    exact Spec.path XTok PGmix slices_Clone_api_Rect_api_Rect_fn 0 [.r [.nl 4], .r [], .b false, .r [.id 0, .row (List.map e_Rect ([] : List Rect)), .id 1, .row (List.map e_Rect (([] : List Rect) ++ a0))], .f 1] (an (Eq.refl false) (an (Eq.refl (List.flatten (List.map e_Rect ([] : List Rect)))) (app_ok e_Rect h1))) (by kernel_rfl)

noncomputable def shape_SetOf_1_c : Code := (Go.Proofs.Try.f17.body).getD .skip
theorem shape_SetOf_1_fn : FnOk PG 17 shape_SetOf_1_c 10 [.tmp 4] := ⟨⟨Go.Proofs.Try.f17, by kernel_rfl, by kernel_rfl, by kernel_rfl, by kernel_rfl, by kernel_rfl⟩⟩
noncomputable def shape_SetOf_1 (a0 : Rect) (a1 : Rect) : Option Int :=
 some (w64 (a0.Y0 - a1.Y0))
theorem shape_SetOf_1_ok (a0 : Rect) (a1 : Rect) (r : Int) (h : shape_SetOf_1 a0 a1 = some r) : Spec PG 17 [gT (e_Rect a0), gT (e_Rect a1)] [] (iA r) [] := by
  unfold shape_SetOf_1 at h
  have h := Option.some.inj h
  subst h
  exact Spec.path XTok PGmix shape_SetOf_1_fn 0 [.r [.id 0, .id 1], .r []] trivial (by kernel_rfl)

noncomputable def slices_IndexFunc_api_Rect_api_Rect_c : Code := (Go.Proofs.Try.f33.body).getD .skip
theorem slices_IndexFunc_api_Rect_api_Rect_fn : FnOk PG 33 slices_IndexFunc_api_Rect_api_Rect_c 19 [.tmp 4] := ⟨⟨Go.Proofs.Try.f33, by kernel_rfl, by kernel_rfl, by kernel_rfl, by kernel_rfl, by kernel_rfl⟩⟩
noncomputable def slices_IndexFunc_api_Rect_api_Rect_c0 : Code := cL (cL (cR (cL (cR slices_IndexFunc_api_Rect_api_Rect_c))))
noncomputable def slices_IndexFunc_api_Rect_api_Rect_R (r : Int) : Oc := .ret [(4, iA r)] []
noncomputable def slices_IndexFunc_api_Rect_api_Rect_F0 (a1_k : FuncId) (a1_c : List C) (a0 : List Rect) (i1 : Nat) : Fr := [(0, lA 4 (List.map e_Rect a0)), (1, .t (.v (.c (.fn a1_k a1_c)))), (6, lA 4 (List.map e_Rect a0)), (7, iA (a0.length : Int)), (8, iA (i1 : Int))]
noncomputable def slices_IndexFunc_api_Rect_api_Rect_H0 (a1_k : FuncId) (a1_c : List C) (a0 : List Rect) (i1 : Nat) : Hp := []
noncomputable def slices_IndexFunc_api_Rect_api_Rect_B0 (a1_k : FuncId) (a1_c : List C) (a0 : List Rect) (s : Unit) : Oc := .ex 0 [] []
noncomputable def slices_IndexFunc_api_Rect_api_Rect_b0 (a1 : Rect → Option Bool) (a0 : List Rect) (i1 : Nat) : Option (Stp Unit Int) :=
 bnd (atI a0 (i1 : Int)) fun x2 =>
 bnd (a1 x2) fun r4 =>
 cnd r4 (some (.ret (i1 : Int))) (some (.go ()))
theorem slices_IndexFunc_api_Rect_api_Rect_b0_r (a1_k : FuncId) (a1_c : List C) (a1 : Rect → Option Bool) (a1_ok : ∀ (z0 : Rect) (r : Bool), a1 z0 = some r → Spec PG a1_k ([gT (e_Rect z0)] ++ List.map (fun x => TV.v (CV.c x)) a1_c) [] (bA r) []) (a0 : List Rect) (i1 : Nat) (o : Stp Unit Int) (hi : i1 < a0.length) (h : slices_IndexFunc_api_Rect_api_Rect_b0 a1 a0 i1 = some o) :
    Runs PG 19 0 slices_IndexFunc_api_Rect_api_Rect_c0 (slices_IndexFunc_api_Rect_api_Rect_F0 a1_k a1_c a0 i1 ) (slices_IndexFunc_api_Rect_api_Rect_H0 a1_k a1_c a0 i1 ) (stpOc (fun s' => .nor (slices_IndexFunc_api_Rect_api_Rect_F0 a1_k a1_c a0 (i1 + 1) ) (slices_IndexFunc_api_Rect_api_Rect_H0 a1_k a1_c a0 (i1 + 1) )) (slices_IndexFunc_api_Rect_api_Rect_B0 a1_k a1_c a0) slices_IndexFunc_api_Rect_api_Rect_R o) := by
  unfold slices_IndexFunc_api_Rect_api_Rect_b0 at h
  refine Runs.len (s := 6) (sz := 4) (xs := List.map e_Rect a0) (by kernel_rfl) fun hl => ?_
  have hM : a0.length ≤ lim := len_of hl
  obtain ⟨x2, h3, h⟩ := bnd_e h
  obtain ⟨r4, h5, h⟩ := bnd_e h
  rcases cnd_e h with ⟨h6, h⟩ | ⟨h6, h⟩
  · have h := Option.some.inj h
    subst h
    exact Runs.path XTok PGmix [.r [], .b true, .r [], .r [.el (e_Rect x2), .val (bA r4)], .b true, .r []] [] (an (lt_true hi) (an (idx_ok e_Rect h3) (an (a1_ok x2 r4 h5) h6))) (by kernel_rfl)
  · have h := Option.some.inj h
    subst h
    exact Runs.path XTok PGmix [.r [], .b true, .r [], .r [.el (e_Rect x2), .val (bA r4)], .b false, .r [.eq 18 (iA ((i1 + 1 : Nat) : Int))]] [] (an (lt_true hi) (an (idx_ok e_Rect h3) (an (a1_ok x2 r4 h5) (an h6 (wrap_eq hi hM))))) (by kernel_rfl)
theorem slices_IndexFunc_api_Rect_api_Rect_b0_e (a1_k : FuncId) (a1_c : List C) (a1 : Rect → Option Bool) (a1_ok : ∀ (z0 : Rect) (r : Bool), a1 z0 = some r → Spec PG a1_k ([gT (e_Rect z0)] ++ List.map (fun x => TV.v (CV.c x)) a1_c) [] (bA r) []) (a0 : List Rect) : Runs PG 19 0 slices_IndexFunc_api_Rect_api_Rect_c0 (slices_IndexFunc_api_Rect_api_Rect_F0 a1_k a1_c a0 (a0.length) ) (slices_IndexFunc_api_Rect_api_Rect_H0 a1_k a1_c a0 (a0.length) ) (slices_IndexFunc_api_Rect_api_Rect_B0 a1_k a1_c a0 ()) := by
  exact Runs.path XTok PGmix [.r [], .b false] [] (lt_false (a0.length)) (by kernel_rfl)
theorem slices_IndexFunc_api_Rect_api_Rect_l0 (a1_k : FuncId) (a1_c : List C) (a1 : Rect → Option Bool) (a1_ok : ∀ (z0 : Rect) (r : Bool), a1 z0 = some r → Spec PG a1_k ([gT (e_Rect z0)] ++ List.map (fun x => TV.v (CV.c x)) a1_c) [] (bA r) []) (a0 : List Rect) (r : Fin' Unit Int) (h : forN (fun i1 s => slices_IndexFunc_api_Rect_api_Rect_b0 a1 a0 i1 ) (a0.length) 0 () = some r) : Runs PG 19 0 (cL (cR (cL (cR slices_IndexFunc_api_Rect_api_Rect_c)))) (slices_IndexFunc_api_Rect_api_Rect_F0 a1_k a1_c a0 0 ) (slices_IndexFunc_api_Rect_api_Rect_H0 a1_k a1_c a0 0 ) (finOc (slices_IndexFunc_api_Rect_api_Rect_B0 a1_k a1_c a0) slices_IndexFunc_api_Rect_api_Rect_R r) :=
  Runs.loop' (by kernel_rfl) (forN_rounds (σ := Unit) (ρ := Int) (body := fun i1 s => slices_IndexFunc_api_Rect_api_Rect_b0 a1 a0 i1 ) (F := fun i1 s => slices_IndexFunc_api_Rect_api_Rect_F0 a1_k a1_c a0 i1 ) (H := fun i1 s => slices_IndexFunc_api_Rect_api_Rect_H0 a1_k a1_c a0 i1 ) (B := slices_IndexFunc_api_Rect_api_Rect_B0 a1_k a1_c a0) (R := slices_IndexFunc_api_Rect_api_Rect_R) (M := a0.length) (fun _ => rfl) (fun _ => rfl) (fun s => slices_IndexFunc_api_Rect_api_Rect_b0_e a1_k a1_c a1 a1_ok a0 ) (fun i s o hi h => slices_IndexFunc_api_Rect_api_Rect_b0_r a1_k a1_c a1 a1_ok a0 i o hi h) _ 0 _ r (Nat.zero_add _) h)
noncomputable def slices_IndexFunc_api_Rect_api_Rect (a0 : List Rect) (a1 : Rect → Option Bool) : Option Int :=
 aft0 (forN (fun i1 s => slices_IndexFunc_api_Rect_api_Rect_b0 a1 a0 i1 ) (a0.length) 0 ()) (
 some (-1))
 (fun r8 =>
 some r8)
theorem slices_IndexFunc_api_Rect_api_Rect_ok (a0 : List Rect) (a1_k : FuncId) (a1_c : List C) (a1 : Rect → Option Bool) (a1_ok : ∀ (z0 : Rect) (r : Bool), a1 z0 = some r → Spec PG a1_k ([gT (e_Rect z0)] ++ List.map (fun x => TV.v (CV.c x)) a1_c) [] (bA r) []) (r : Int) (h : slices_IndexFunc_api_Rect_api_Rect a0 a1 = some r) : Spec PG 33 [lT 4 (List.map e_Rect a0), .v (.c (.fn a1_k a1_c))] [] (iA r) [] := by
  unfold slices_IndexFunc_api_Rect_api_Rect at h
  rcases aft0_e h with ⟨h7, h⟩ | ⟨r8, h7, h⟩
  · have h := Option.some.inj h
    subst h
    exact Spec.path XTok PGmix slices_IndexFunc_api_Rect_api_Rect_fn 0 [.r [], .r [.eq 7 (iA (a0.length : Int))], .s (slices_IndexFunc_api_Rect_api_Rect_F0 a1_k a1_c a0 0 ) (slices_IndexFunc_api_Rect_api_Rect_H0 a1_k a1_c a0 0 ) [] (slices_IndexFunc_api_Rect_api_Rect_B0 a1_k a1_c a0 ()), .r []] (an (leni_eq e_Rect a0) (slices_IndexFunc_api_Rect_api_Rect_l0 a1_k a1_c a1 a1_ok a0 (.fin ()) h7)) (by kernel_rfl)
  · have h := Option.some.inj h
    subst h
    exact Spec.path XTok PGmix slices_IndexFunc_api_Rect_api_Rect_fn 0 [.r [], .r [.eq 7 (iA (a0.length : Int))], .s (slices_IndexFunc_api_Rect_api_Rect_F0 a1_k a1_c a0 0 ) (slices_IndexFunc_api_Rect_api_Rect_H0 a1_k a1_c a0 0 ) [] (slices_IndexFunc_api_Rect_api_Rect_R r8)] (an (leni_eq e_Rect a0) (slices_IndexFunc_api_Rect_api_Rect_l0 a1_k a1_c a1 a1_ok a0 (.ret r8) h7)) (by kernel_rfl)

noncomputable def slices_IndexFunc_api_Rect_api_Rect_own_c : Code := (Go.Proofs.Try.f33.body).getD .skip
theorem slices_IndexFunc_api_Rect_api_Rect_own_fn : FnOk PG 33 slices_IndexFunc_api_Rect_api_Rect_own_c 19 [.tmp 4] := ⟨⟨Go.Proofs.Try.f33, by kernel_rfl, by kernel_rfl, by kernel_rfl, by kernel_rfl, by kernel_rfl⟩⟩
noncomputable def slices_IndexFunc_api_Rect_api_Rect_own_c0 : Code := cL (cL (cR (cL (cR slices_IndexFunc_api_Rect_api_Rect_own_c))))
noncomputable def slices_IndexFunc_api_Rect_api_Rect_own_R (r : Int × List Rect) : Oc := .ret [(4, iA r.1)] [(0, .row 27 4 (List.map e_Rect r.2))]
noncomputable def slices_IndexFunc_api_Rect_api_Rect_own_F0 (a1_k : FuncId) (a1_c : List C) (a0 : List Rect) (i1 : Nat) : Fr := [(0, .t (.v (.rt 0))), (1, .t (.v (.c (.fn a1_k a1_c)))), (6, .t (.v (.rt 0))), (7, iA (a0.length : Int)), (8, iA (i1 : Int))]
noncomputable def slices_IndexFunc_api_Rect_api_Rect_own_H0 (a1_k : FuncId) (a1_c : List C) (a0 : List Rect) (i1 : Nat) : Hp := [(0, .row 27 4 (List.map e_Rect a0))]
noncomputable def slices_IndexFunc_api_Rect_api_Rect_own_B0 (a1_k : FuncId) (a1_c : List C) (a0 : List Rect) (s : Unit) : Oc := .ex 0 [] [(0, .row 27 4 (List.map e_Rect a0))]
noncomputable def slices_IndexFunc_api_Rect_api_Rect_own_b0 (a1 : Rect → Option Bool) (a0 : List Rect) (i1 : Nat) : Option (Stp Unit (Int × List Rect)) :=
 bnd (atI a0 (i1 : Int)) fun x2 =>
 bnd (a1 x2) fun r4 =>
 cnd r4 (some (.ret ((i1 : Int), a0))) (some (.go ()))
theorem slices_IndexFunc_api_Rect_api_Rect_own_b0_r (a1_k : FuncId) (a1_c : List C) (a1 : Rect → Option Bool) (a1_ok : ∀ (z0 : Rect) (r : Bool), a1 z0 = some r → Spec PG a1_k ([gT (e_Rect z0)] ++ List.map (fun x => TV.v (CV.c x)) a1_c) [] (bA r) []) (a0 : List Rect) (i1 : Nat) (o : Stp Unit (Int × List Rect)) (hi : i1 < a0.length) (h : slices_IndexFunc_api_Rect_api_Rect_own_b0 a1 a0 i1 = some o) :
    Runs PG 19 1 slices_IndexFunc_api_Rect_api_Rect_own_c0 (slices_IndexFunc_api_Rect_api_Rect_own_F0 a1_k a1_c a0 i1 ) (slices_IndexFunc_api_Rect_api_Rect_own_H0 a1_k a1_c a0 i1 ) (stpOc (fun s' => .nor (slices_IndexFunc_api_Rect_api_Rect_own_F0 a1_k a1_c a0 (i1 + 1) ) (slices_IndexFunc_api_Rect_api_Rect_own_H0 a1_k a1_c a0 (i1 + 1) )) (slices_IndexFunc_api_Rect_api_Rect_own_B0 a1_k a1_c a0) slices_IndexFunc_api_Rect_api_Rect_own_R o) := by
  unfold slices_IndexFunc_api_Rect_api_Rect_own_b0 at h
  refine Runs.rlen (id := 0) (e := 27) (sz := 4) (xs := List.map e_Rect a0) (by kernel_rfl) fun hl => ?_
  have hM : a0.length ≤ lim := len_of hl
  obtain ⟨x2, h3, h⟩ := bnd_e h
  obtain ⟨r4, h5, h⟩ := bnd_e h
  rcases cnd_e h with ⟨h6, h⟩ | ⟨h6, h⟩
  · have h := Option.some.inj h
    subst h
    exact Runs.path XTok PGmix [.r [], .b true, .r [], .r [.el (e_Rect x2), .val (bA r4)], .b true, .r []] [] (an (lt_true hi) (an (idx_lt e_Rect h3) (an (idx_el e_Rect h3) (an (a1_ok x2 r4 h5) h6)))) (by kernel_rfl)
  · have h := Option.some.inj h
    subst h
    exact Runs.path XTok PGmix [.r [], .b true, .r [], .r [.el (e_Rect x2), .val (bA r4)], .b false, .r [.eq 18 (iA ((i1 + 1 : Nat) : Int))]] [] (an (lt_true hi) (an (idx_lt e_Rect h3) (an (idx_el e_Rect h3) (an (a1_ok x2 r4 h5) (an h6 (wrap_eq hi hM)))))) (by kernel_rfl)
theorem slices_IndexFunc_api_Rect_api_Rect_own_b0_e (a1_k : FuncId) (a1_c : List C) (a1 : Rect → Option Bool) (a1_ok : ∀ (z0 : Rect) (r : Bool), a1 z0 = some r → Spec PG a1_k ([gT (e_Rect z0)] ++ List.map (fun x => TV.v (CV.c x)) a1_c) [] (bA r) []) (a0 : List Rect) : Runs PG 19 1 slices_IndexFunc_api_Rect_api_Rect_own_c0 (slices_IndexFunc_api_Rect_api_Rect_own_F0 a1_k a1_c a0 (a0.length) ) (slices_IndexFunc_api_Rect_api_Rect_own_H0 a1_k a1_c a0 (a0.length) ) (slices_IndexFunc_api_Rect_api_Rect_own_B0 a1_k a1_c a0 ()) := by
  exact Runs.path XTok PGmix [.r [], .b false] [] (lt_false (a0.length)) (by kernel_rfl)
theorem slices_IndexFunc_api_Rect_api_Rect_own_l0 (a1_k : FuncId) (a1_c : List C) (a1 : Rect → Option Bool) (a1_ok : ∀ (z0 : Rect) (r : Bool), a1 z0 = some r → Spec PG a1_k ([gT (e_Rect z0)] ++ List.map (fun x => TV.v (CV.c x)) a1_c) [] (bA r) []) (a0 : List Rect) (r : Fin' Unit (Int × List Rect)) (h : forN (fun i1 s => slices_IndexFunc_api_Rect_api_Rect_own_b0 a1 a0 i1 ) (a0.length) 0 () = some r) : Runs PG 19 1 (cL (cR (cL (cR slices_IndexFunc_api_Rect_api_Rect_own_c)))) (slices_IndexFunc_api_Rect_api_Rect_own_F0 a1_k a1_c a0 0 ) (slices_IndexFunc_api_Rect_api_Rect_own_H0 a1_k a1_c a0 0 ) (finOc (slices_IndexFunc_api_Rect_api_Rect_own_B0 a1_k a1_c a0) slices_IndexFunc_api_Rect_api_Rect_own_R r) :=
  Runs.loop' (by kernel_rfl) (forN_rounds (σ := Unit) (ρ := (Int × List Rect)) (body := fun i1 s => slices_IndexFunc_api_Rect_api_Rect_own_b0 a1 a0 i1 ) (F := fun i1 s => slices_IndexFunc_api_Rect_api_Rect_own_F0 a1_k a1_c a0 i1 ) (H := fun i1 s => slices_IndexFunc_api_Rect_api_Rect_own_H0 a1_k a1_c a0 i1 ) (B := slices_IndexFunc_api_Rect_api_Rect_own_B0 a1_k a1_c a0) (R := slices_IndexFunc_api_Rect_api_Rect_own_R) (M := a0.length) (fun _ => rfl) (fun _ => rfl) (fun s => slices_IndexFunc_api_Rect_api_Rect_own_b0_e a1_k a1_c a1 a1_ok a0 ) (fun i s o hi h => slices_IndexFunc_api_Rect_api_Rect_own_b0_r a1_k a1_c a1 a1_ok a0 i o hi h) _ 0 _ r (Nat.zero_add _) h)
noncomputable def slices_IndexFunc_api_Rect_api_Rect_own (a0 : List Rect) (a1 : Rect → Option Bool) : Option (Int × List Rect) :=
 aft0 (forN (fun i1 s => slices_IndexFunc_api_Rect_api_Rect_own_b0 a1 a0 i1 ) (a0.length) 0 ()) (
 some ((-1), a0))
 (fun r8 =>
 some r8)
theorem slices_IndexFunc_api_Rect_api_Rect_own_ok (a0 : List Rect) (a1_k : FuncId) (a1_c : List C) (a1 : Rect → Option Bool) (a1_ok : ∀ (z0 : Rect) (r : Bool), a1 z0 = some r → Spec PG a1_k ([gT (e_Rect z0)] ++ List.map (fun x => TV.v (CV.c x)) a1_c) [] (bA r) []) (r : Int × List Rect) (h : slices_IndexFunc_api_Rect_api_Rect_own a0 a1 = some r) : Spec PG 33 [.v (.rt 0), .v (.c (.fn a1_k a1_c))] [(0, .row 27 4 (List.map e_Rect a0))] (iA r.1) [(0, .row 27 4 (List.map e_Rect r.2))] := by
  unfold slices_IndexFunc_api_Rect_api_Rect_own at h
  rcases aft0_e h with ⟨h7, h⟩ | ⟨r8, h7, h⟩
  · have h := Option.some.inj h
    subst h
    exact Spec.path XTok PGmix slices_IndexFunc_api_Rect_api_Rect_own_fn 1 [.r [], .r [.eq 7 (iA (a0.length : Int))], .s (slices_IndexFunc_api_Rect_api_Rect_own_F0 a1_k a1_c a0 0 ) (slices_IndexFunc_api_Rect_api_Rect_own_H0 a1_k a1_c a0 0 ) [] (slices_IndexFunc_api_Rect_api_Rect_own_B0 a1_k a1_c a0 ()), .r []] (an (leni_eq e_Rect a0) (slices_IndexFunc_api_Rect_api_Rect_own_l0 a1_k a1_c a1 a1_ok a0 (.fin ()) h7)) (by kernel_rfl)
  · have h := Option.some.inj h
    subst h
    exact Spec.path XTok PGmix slices_IndexFunc_api_Rect_api_Rect_own_fn 1 [.r [], .r [.eq 7 (iA (a0.length : Int))], .s (slices_IndexFunc_api_Rect_api_Rect_own_F0 a1_k a1_c a0 0 ) (slices_IndexFunc_api_Rect_api_Rect_own_H0 a1_k a1_c a0 0 ) [] (slices_IndexFunc_api_Rect_api_Rect_own_R r8)] (an (leni_eq e_Rect a0) (slices_IndexFunc_api_Rect_api_Rect_own_l0 a1_k a1_c a1 a1_ok a0 (.ret r8) h7)) (by kernel_rfl)

noncomputable def slices_DeleteFunc_api_Rect_api_Rect_c : Code := (Go.Proofs.Try.f20.body).getD .skip
theorem slices_DeleteFunc_api_Rect_api_Rect_fn : FnOk PG 20 slices_DeleteFunc_api_Rect_api_Rect_c 42 [.tmp 4] := ⟨⟨Go.Proofs.Try.f20, by kernel_rfl, by kernel_rfl, by kernel_rfl, by kernel_rfl, by kernel_rfl⟩⟩
noncomputable def slices_DeleteFunc_api_Rect_api_Rect_c0 : Code := cL (cL (cR (cL (cR (cR (cR slices_DeleteFunc_api_Rect_api_Rect_c))))))
noncomputable def slices_DeleteFunc_api_Rect_api_Rect_R (r : List Rect) : Oc := .ret [(4, .t (.v (.rt 1)))] [(1, .row 27 4 (List.map e_Rect r))]
noncomputable def slices_DeleteFunc_api_Rect_api_Rect_F0 (a1_k : FuncId) (a1_c : List C) (y4 : Int) (y5 : Int) (y6 : List Rect) : Fr := [(0, .t (.v (.rt 1))), (1, .t (.v (.c (.fn a1_k a1_c)))), (5, iA y4), (6, iA y5)]
noncomputable def slices_DeleteFunc_api_Rect_api_Rect_H0 (a1_k : FuncId) (a1_c : List C) (y4 : Int) (y5 : Int) (y6 : List Rect) : Hp := [(1, .row 27 4 (List.map e_Rect y6))]
noncomputable def slices_DeleteFunc_api_Rect_api_Rect_B0 (a1_k : FuncId) (a1_c : List C) (s : Int × Int × List Rect) : Oc := .ex 0 [(0, .t (.v (.rt 1))), (5, iA s.1)] [(1, .row 27 4 (List.map e_Rect s.2.2))]
noncomputable def slices_DeleteFunc_api_Rect_api_Rect_b0 (a1 : Rect → Option Bool) (y4 : Int) (y5 : Int) (y6 : List Rect) : Option (Stp (Int × Int × List Rect) (List Rect)) :=
 cnd (decide (y5 < (y6.length : Int))) (bnd (atI y6 y5) fun x8 =>
 bnd (a1 x8) fun r10 =>
 bnd2 (cnd (!r10) (bnd (atI y6 y4) fun x17 =>
 some (w64 (y4 + 1), y6.set (Int.toNat y4) x8)) (some (y4, y6))) fun v12 v13 =>
 some (.go (v12, w64 (y5 + 1), v13))) (some (.brk (y4, y5, y6)))
theorem slices_DeleteFunc_api_Rect_api_Rect_b0_r (a1_k : FuncId) (a1_c : List C) (a1 : Rect → Option Bool) (a1_ok : ∀ (z0 : Rect) (r : Bool), a1 z0 = some r → Spec PG a1_k ([gT (e_Rect z0)] ++ List.map (fun x => TV.v (CV.c x)) a1_c) [] (bA r) []) (y4 : Int) (y5 : Int) (y6 : List Rect) (o : Stp (Int × Int × List Rect) (List Rect)) (h : slices_DeleteFunc_api_Rect_api_Rect_b0 a1 y4 y5 y6 = some o) :
    Runs PG 42 1 slices_DeleteFunc_api_Rect_api_Rect_c0 (slices_DeleteFunc_api_Rect_api_Rect_F0 a1_k a1_c y4 y5 y6) (slices_DeleteFunc_api_Rect_api_Rect_H0 a1_k a1_c y4 y5 y6) (stpOc (fun s' => .nor (slices_DeleteFunc_api_Rect_api_Rect_F0 a1_k a1_c s'.1 s'.2.1 s'.2.2) (slices_DeleteFunc_api_Rect_api_Rect_H0 a1_k a1_c s'.1 s'.2.1 s'.2.2)) (slices_DeleteFunc_api_Rect_api_Rect_B0 a1_k a1_c ) slices_DeleteFunc_api_Rect_api_Rect_R o) := by
  unfold slices_DeleteFunc_api_Rect_api_Rect_b0 at h
  rcases cnd_e h with ⟨h7, h⟩ | ⟨h7, h⟩
  · obtain ⟨x8, h9, h⟩ := bnd_e h
    obtain ⟨r10, h11, h⟩ := bnd_e h
    obtain ⟨v12, v13, h14, h⟩ := bnd2_e h
    let q23_f : Fr := [(0, .t (.v (.rt 1))), (1, .t (.v (.c (.fn a1_k a1_c)))), (5, iA y4), (6, iA y5), (7, .t (.v (.ptr 2 0))), (29, bA (!r10))]
    let q23_g : Hp := [(1, .row 27 4 (List.map e_Rect y6)), (2, .cells 27 [.c (iC x8.X0), .c (iC x8.Y0), .c (iC x8.X1), .c (iC x8.Y1)])]
    let q23_f' : Fr := [(0, .t (.v (.rt 1))), (1, .t (.v (.c (.fn a1_k a1_c)))), (5, iA v12), (6, iA y5)]
    let q23_g' : Hp := [(1, .row 27 4 (List.map e_Rect v13))]
    have R15 : Runs PG 42 1 (cR (cR (cL (cL (cR slices_DeleteFunc_api_Rect_api_Rect_c0))))) q23_f q23_g (.nor q23_f' q23_g') := by
      rcases cnd_e h14 with ⟨h16, h14⟩ | ⟨h16, h14⟩
      · obtain ⟨x17, h18, h14⟩ := bnd_e h14
        have h14 := Option.some.inj h14
        have q19 := (Prod.mk.inj h14).1
        have q20 := (Prod.mk.inj h14).2
        subst q19
        subst q20
        exact Runs.path XTok PGmix [.b true, .r [.el (e_Rect x17), .row (List.map e_Rect (y6.set (Int.toNat y4) x8))], .r []] [] (an h16 (an (idx_lt e_Rect h18) (set_ok e_Rect h18 x8 0 [iC x8.X0, iC x8.Y0, iC x8.X1, iC x8.Y1] (by kernel_rfl)))) (by kernel_rfl)
      · have h14 := Option.some.inj h14
        have q21 := (Prod.mk.inj h14).1
        have q22 := (Prod.mk.inj h14).2
        subst q21
        subst q22
        exact Runs.path XTok PGmix [.b false] [] h16 (by kernel_rfl)
    have h := Option.some.inj h
    subst h
    exact Runs.path XTok PGmix [.r [.eq 18 (iA (y6.length : Int))], .b true, .r [.el (e_Rect x8), .id 2], .r [.val (bA r10)], .s q23_f q23_g [] (.nor q23_f' q23_g'), .r []] [] (an (leni_eq e_Rect y6) (an h7 (an (idx_lt e_Rect h9) (an (idx_el e_Rect h9) (an (a1_ok x8 r10 h11) R15))))) (by kernel_rfl)
  · have h := Option.some.inj h
    subst h
    exact Runs.path XTok PGmix [.r [.eq 18 (iA (y6.length : Int))], .b false] [] (an (leni_eq e_Rect y6) h7) (by kernel_rfl)
theorem slices_DeleteFunc_api_Rect_api_Rect_l0 (a1_k : FuncId) (a1_c : List C) (a1 : Rect → Option Bool) (a1_ok : ∀ (z0 : Rect) (r : Bool), a1 z0 = some r → Spec PG a1_k ([gT (e_Rect z0)] ++ List.map (fun x => TV.v (CV.c x)) a1_c) [] (bA r) []) (y4 : Int) (y5 : Int) (y6 : List Rect) (r : Fin' (Int × Int × List Rect) (List Rect)) (h : loop (fun s => slices_DeleteFunc_api_Rect_api_Rect_b0 a1 s.1 s.2.1 s.2.2) (y4, y5, y6) = some r) : Runs PG 42 1 (cL (cR (cL (cR (cR (cR slices_DeleteFunc_api_Rect_api_Rect_c)))))) (slices_DeleteFunc_api_Rect_api_Rect_F0 a1_k a1_c y4 y5 y6) (slices_DeleteFunc_api_Rect_api_Rect_H0 a1_k a1_c y4 y5 y6) (finOc (slices_DeleteFunc_api_Rect_api_Rect_B0 a1_k a1_c ) slices_DeleteFunc_api_Rect_api_Rect_R r) :=
  Runs.loop' (by kernel_rfl) (loop_rounds (σ := (Int × Int × List Rect)) (ρ := (List Rect)) (body := fun s => slices_DeleteFunc_api_Rect_api_Rect_b0 a1 s.1 s.2.1 s.2.2) (F := fun s => slices_DeleteFunc_api_Rect_api_Rect_F0 a1_k a1_c s.1 s.2.1 s.2.2) (H := fun s => slices_DeleteFunc_api_Rect_api_Rect_H0 a1_k a1_c s.1 s.2.1 s.2.2) (B := slices_DeleteFunc_api_Rect_api_Rect_B0 a1_k a1_c ) (R := slices_DeleteFunc_api_Rect_api_Rect_R) (fun _ => rfl) (fun _ => rfl) (fun s o h => slices_DeleteFunc_api_Rect_api_Rect_b0_r a1_k a1_c a1 a1_ok s.1 s.2.1 s.2.2 o h) h)
noncomputable def slices_DeleteFunc_api_Rect_api_Rect (a0 : List Rect) (a1 : Rect → Option Bool) : Option (List Rect) :=
 bnd (slices_IndexFunc_api_Rect_api_Rect_own a0 a1) fun r1 =>
 cnd (r1.1 == (-1)) (some r1.2) (aft3 (loop (fun s => slices_DeleteFunc_api_Rect_api_Rect_b0 a1 s.1 s.2.1 s.2.2) (r1.1, w64 (r1.1 + 1), r1.2)) (fun u24 u25 u26 =>
 grd ((0 : Int) ≤ u24 ∧ u24 ≤ (u26.length : Int)) <|
 grd ((0 : Int) ≤ (0 : Int) ∧ (0 : Int) ≤ u24 ∧ u24 ≤ ((u26.take (Int.toNat u24) ++ (List.replicate (((u26.length : Int) - u24).toNat) (⟨0, 0, 0, 0⟩ : Rect) ++ u26.drop (Int.toNat u24 + ((u26.length : Int) - u24).toNat))).length : Int)) <|
 some ((u26.take (Int.toNat u24) ++ (List.replicate (((u26.length : Int) - u24).toNat) (⟨0, 0, 0, 0⟩ : Rect) ++ u26.drop (Int.toNat u24 + ((u26.length : Int) - u24).toNat))).take ((u24 - (0 : Int)).toNat)))
 (fun r28 =>
 some r28))
theorem slices_DeleteFunc_api_Rect_api_Rect_ok (a0 : List Rect) (a1_k : FuncId) (a1_c : List C) (a1 : Rect → Option Bool) (a1_ok : ∀ (z0 : Rect) (r : Bool), a1 z0 = some r → Spec PG a1_k ([gT (e_Rect z0)] ++ List.map (fun x => TV.v (CV.c x)) a1_c) [] (bA r) []) (r : List Rect) (h : slices_DeleteFunc_api_Rect_api_Rect a0 a1 = some r) : Spec PG 20 [.v (.rt 0), .v (.c (.fn a1_k a1_c))] [(0, .row 27 4 (List.map e_Rect a0))] (.t (.v (.rt 1))) [(1, .row 27 4 (List.map e_Rect r))] := by
  unfold slices_DeleteFunc_api_Rect_api_Rect at h
  obtain ⟨r1, h2, h⟩ := bnd_e h
  rcases cnd_e h with ⟨h3, h⟩ | ⟨h3, h⟩
  · have h := Option.some.inj h
    subst h
    exact Spec.path XTok PGmix slices_DeleteFunc_api_Rect_api_Rect_fn 1 [.w [(0, .t (.v (.rt 1))), (1, .t (.v (.c (.fn a1_k a1_c))))] [(1, .row 27 4 (List.map e_Rect a0))] [(1, 0)], .r [.nl 4], .r [.call [(0, 1)] [.v (.rt 0), .v (.c (.fn a1_k a1_c))] [(0, .row 27 4 (List.map e_Rect a0))] (iA r1.1) [(0, .row 27 4 (List.map e_Rect r1.2))]], .r [], .b true, .r []] (an (an (slices_IndexFunc_api_Rect_api_Rect_own_ok a0 a1_k a1_c a1 a1_ok r1 h2) (an (Eq.refl ([.v (.rt 1), .v (.c (.fn a1_k a1_c))] : List TV)) (Eq.refl (renH (asg [(0, 1)]) [(0, .row 27 4 (List.map e_Rect a0))])))) h3) (by kernel_rfl)
  · rcases aft3_e h with ⟨u24, u25, u26, h27, h⟩ | ⟨r28, h27, h⟩
    · obtain ⟨h29, h⟩ := grd_e h
      obtain ⟨h30, h⟩ := grd_e h
      have h := Option.some.inj h
      subst h
      exact Spec.path XTok PGmix slices_DeleteFunc_api_Rect_api_Rect_fn 1 [.w [(0, .t (.v (.rt 1))), (1, .t (.v (.c (.fn a1_k a1_c))))] [(1, .row 27 4 (List.map e_Rect a0))] [(1, 0)], .r [.nl 4], .r [.call [(0, 1)] [.v (.rt 0), .v (.c (.fn a1_k a1_c))] [(0, .row 27 4 (List.map e_Rect a0))] (iA r1.1) [(0, .row 27 4 (List.map e_Rect r1.2))]], .r [], .b false, .r [], .s (slices_DeleteFunc_api_Rect_api_Rect_F0 a1_k a1_c r1.1 (w64 (r1.1 + 1)) r1.2) (slices_DeleteFunc_api_Rect_api_Rect_H0 a1_k a1_c r1.1 (w64 (r1.1 + 1)) r1.2) [] (slices_DeleteFunc_api_Rect_api_Rect_B0 a1_k a1_c (u24, u25, u26)), .r [.eq 38 (.t (.v (.sub 4 1 (Int.toNat u24) (((u26.length : Int) - u24).toNat)))), .el (e_Rect (⟨0, 0, 0, 0⟩ : Rect)), .row (List.map e_Rect (u26.take (Int.toNat u24) ++ (List.replicate (((u26.length : Int) - u24).toNat) (⟨0, 0, 0, 0⟩ : Rect) ++ u26.drop (Int.toNat u24 + ((u26.length : Int) - u24).toNat))))], .r [], .h 4 21 (List.map e_Rect ((u26.take (Int.toNat u24) ++ (List.replicate (((u26.length : Int) - u24).toNat) (⟨0, 0, 0, 0⟩ : Rect) ++ u26.drop (Int.toNat u24 + ((u26.length : Int) - u24).toNat))).take ((u24 - (0 : Int)).toNat))), .w [(4, .t (.v (.rt 1)))] [(1, .row 27 4 (List.map e_Rect ((u26.take (Int.toNat u24) ++ (List.replicate (((u26.length : Int) - u24).toNat) (⟨0, 0, 0, 0⟩ : Rect) ++ u26.drop (Int.toNat u24 + ((u26.length : Int) - u24).toNat))).take ((u24 - (0 : Int)).toNat))))] [(1, 21)]] (an (an (slices_IndexFunc_api_Rect_api_Rect_own_ok a0 a1_k a1_c a1 a1_ok r1 h2) (an (Eq.refl ([.v (.rt 1), .v (.c (.fn a1_k a1_c))] : List TV)) (Eq.refl (renH (asg [(0, 1)]) [(0, .row 27 4 (List.map e_Rect a0))])))) (an h3 (an (slices_DeleteFunc_api_Rect_api_Rect_l0 a1_k a1_c a1 a1_ok r1.1 (w64 (r1.1 + 1)) r1.2 (.fin (u24, u25, u26)) h27) (an (cut_n e_Rect h29) (an (sub_eq 4 1 (Int.toNat u24) u24 e_Rect u26) (an (clear_ok e_Rect (⟨0, 0, 0, 0⟩ : Rect) u26 (Int.toNat u24) (((u26.length : Int) - u24).toNat)) (an (cut_lh e_Rect h30) (take_ok e_Rect (u26.take (Int.toNat u24) ++ (List.replicate (((u26.length : Int) - u24).toNat) (⟨0, 0, 0, 0⟩ : Rect) ++ u26.drop (Int.toNat u24 + ((u26.length : Int) - u24).toNat))) ((u24 - (0 : Int)).toNat))))))))) (by kernel_rfl)
    · have h := Option.some.inj h
      subst h
      exact Spec.path XTok PGmix slices_DeleteFunc_api_Rect_api_Rect_fn 1 [.w [(0, .t (.v (.rt 1))), (1, .t (.v (.c (.fn a1_k a1_c))))] [(1, .row 27 4 (List.map e_Rect a0))] [(1, 0)], .r [.nl 4], .r [.call [(0, 1)] [.v (.rt 0), .v (.c (.fn a1_k a1_c))] [(0, .row 27 4 (List.map e_Rect a0))] (iA r1.1) [(0, .row 27 4 (List.map e_Rect r1.2))]], .r [], .b false, .r [], .s (slices_DeleteFunc_api_Rect_api_Rect_F0 a1_k a1_c r1.1 (w64 (r1.1 + 1)) r1.2) (slices_DeleteFunc_api_Rect_api_Rect_H0 a1_k a1_c r1.1 (w64 (r1.1 + 1)) r1.2) [] (slices_DeleteFunc_api_Rect_api_Rect_R r28)] (an (an (slices_IndexFunc_api_Rect_api_Rect_own_ok a0 a1_k a1_c a1 a1_ok r1 h2) (an (Eq.refl ([.v (.rt 1), .v (.c (.fn a1_k a1_c))] : List TV)) (Eq.refl (renH (asg [(0, 1)]) [(0, .row 27 4 (List.map e_Rect a0))])))) (an h3 (slices_DeleteFunc_api_Rect_api_Rect_l0 a1_k a1_c a1 a1_ok r1.1 (w64 (r1.1 + 1)) r1.2 (.ret r28) h27))) (by kernel_rfl)

noncomputable def shape_SetOf_2_c : Code := (Go.Proofs.Try.f21.body).getD .skip
theorem shape_SetOf_2_fn : FnOk PG 21 shape_SetOf_2_c 12 [.tmp 4] := ⟨⟨Go.Proofs.Try.f21, by kernel_rfl, by kernel_rfl, by kernel_rfl, by kernel_rfl, by kernel_rfl⟩⟩
noncomputable def shape_SetOf_2 (a0 : Rect) (a1 : List Int) (a2 : Int) : Option Bool :=
 bnd (atI a1 a2) fun x1 =>
 some (decide (a0.Y1 ≤ x1))
theorem shape_SetOf_2_ok (a0 : Rect) (a1 : List Int) (a2 : Int) (r : Bool) (h : shape_SetOf_2 a0 a1 a2 = some r) : Spec PG 21 [gT (e_Rect a0), .v (.c (.ptr [.sl 1 (List.map e_i64 a1)])), .v (.c (.ptr [iC a2]))] [] (bA r) [] := by
  unfold shape_SetOf_2 at h
  obtain ⟨x1, h2, h⟩ := bnd_e h
  have h := Option.some.inj h
  subst h
  exact Spec.path XTok PGmix shape_SetOf_2_fn 0 [.r [.id 0], .d [([], []), ([0], []), ([], []), ([], []), ([], [.el [iC x1]]), ([], []), ([], []), ([], [])]] (idx_ok e_i64 h2) (by kernel_rfl)

noncomputable def slices_Equal_int_int_c : Code := (Go.Proofs.Try.f34.body).getD .skip
theorem slices_Equal_int_int_fn : FnOk PG 34 slices_Equal_int_int_c 26 [.tmp 4] := ⟨⟨Go.Proofs.Try.f34, by kernel_rfl, by kernel_rfl, by kernel_rfl, by kernel_rfl, by kernel_rfl⟩⟩
noncomputable def slices_Equal_int_int_c0 : Code := cL (cL (cR (cL (cR (cR slices_Equal_int_int_c)))))
noncomputable def slices_Equal_int_int_R (r : Bool) : Oc := .ret [(4, bA r)] []
noncomputable def slices_Equal_int_int_F0 (a0 : List Int) (a1 : List Int) (i2 : Nat) : Fr := [(0, lA 1 (List.map e_i64 a0)), (1, lA 1 (List.map e_i64 a1)), (11, lA 1 (List.map e_i64 a0)), (12, iA (a0.length : Int)), (13, iA (i2 : Int))]
noncomputable def slices_Equal_int_int_H0 (a0 : List Int) (a1 : List Int) (i2 : Nat) : Hp := []
noncomputable def slices_Equal_int_int_B0 (a0 : List Int) (a1 : List Int) (s : Unit) : Oc := .ex 0 [] []
noncomputable def slices_Equal_int_int_b0 (a0 : List Int) (a1 : List Int) (i2 : Nat) : Option (Stp Unit Bool) :=
 bnd (atI a0 (i2 : Int)) fun x3 =>
 bnd (atI a1 (i2 : Int)) fun x5 =>
 cnd (x3 != x5) (some (.ret false)) (some (.go ()))
theorem slices_Equal_int_int_b0_r (a0 : List Int) (a1 : List Int) (i2 : Nat) (o : Stp Unit Bool) (hi : i2 < a0.length) (h : slices_Equal_int_int_b0 a0 a1 i2 = some o) :
    Runs PG 26 0 slices_Equal_int_int_c0 (slices_Equal_int_int_F0 a0 a1 i2 ) (slices_Equal_int_int_H0 a0 a1 i2 ) (stpOc (fun s' => .nor (slices_Equal_int_int_F0 a0 a1 (i2 + 1) ) (slices_Equal_int_int_H0 a0 a1 (i2 + 1) )) (slices_Equal_int_int_B0 a0 a1) slices_Equal_int_int_R o) := by
  unfold slices_Equal_int_int_b0 at h
  refine Runs.len (s := 11) (sz := 1) (xs := List.map e_i64 a0) (by kernel_rfl) fun hl => ?_
  have hM : a0.length ≤ lim := len_of hl
  obtain ⟨x3, h4, h⟩ := bnd_e h
  obtain ⟨x5, h6, h⟩ := bnd_e h
  rcases cnd_e h with ⟨h7, h⟩ | ⟨h7, h⟩
  · have h := Option.some.inj h
    subst h
    exact Runs.path XTok PGmix [.r [], .b true, .r [], .d [([], []), ([], []), ([], [.el [iC x3]]), ([], []), ([], []), ([], []), ([], [.el [iC x5]]), ([], []), ([], [])], .b true, .r []] [] (an (lt_true hi) (an (idx_ok e_i64 h4) (an (idx_ok e_i64 h6) h7))) (by kernel_rfl)
  · have h := Option.some.inj h
    subst h
    exact Runs.path XTok PGmix [.r [], .b true, .r [], .d [([], []), ([], []), ([], [.el [iC x3]]), ([], []), ([], []), ([], []), ([], [.el [iC x5]]), ([], []), ([], [])], .b false, .r [.eq 25 (iA ((i2 + 1 : Nat) : Int))]] [] (an (lt_true hi) (an (idx_ok e_i64 h4) (an (idx_ok e_i64 h6) (an h7 (wrap_eq hi hM))))) (by kernel_rfl)
theorem slices_Equal_int_int_b0_e (a0 : List Int) (a1 : List Int) : Runs PG 26 0 slices_Equal_int_int_c0 (slices_Equal_int_int_F0 a0 a1 (a0.length) ) (slices_Equal_int_int_H0 a0 a1 (a0.length) ) (slices_Equal_int_int_B0 a0 a1 ()) := by
  exact Runs.path XTok PGmix [.r [], .b false] [] (lt_false (a0.length)) (by kernel_rfl)
theorem slices_Equal_int_int_l0 (a0 : List Int) (a1 : List Int) (r : Fin' Unit Bool) (h : forN (fun i2 s => slices_Equal_int_int_b0 a0 a1 i2 ) (a0.length) 0 () = some r) : Runs PG 26 0 (cL (cR (cL (cR (cR slices_Equal_int_int_c))))) (slices_Equal_int_int_F0 a0 a1 0 ) (slices_Equal_int_int_H0 a0 a1 0 ) (finOc (slices_Equal_int_int_B0 a0 a1) slices_Equal_int_int_R r) :=
  Runs.loop' (by kernel_rfl) (forN_rounds (σ := Unit) (ρ := Bool) (body := fun i2 s => slices_Equal_int_int_b0 a0 a1 i2 ) (F := fun i2 s => slices_Equal_int_int_F0 a0 a1 i2 ) (H := fun i2 s => slices_Equal_int_int_H0 a0 a1 i2 ) (B := slices_Equal_int_int_B0 a0 a1) (R := slices_Equal_int_int_R) (M := a0.length) (fun _ => rfl) (fun _ => rfl) (fun s => slices_Equal_int_int_b0_e a0 a1 ) (fun i s o hi h => slices_Equal_int_int_b0_r a0 a1 i o hi h) _ 0 _ r (Nat.zero_add _) h)
noncomputable def slices_Equal_int_int (a0 : List Int) (a1 : List Int) : Option Bool :=
 cnd ((a0.length : Int) != (a1.length : Int)) (some false) (aft0 (forN (fun i2 s => slices_Equal_int_int_b0 a0 a1 i2 ) (a0.length) 0 ()) (
 some true)
 (fun r9 =>
 some r9))
theorem slices_Equal_int_int_ok (a0 : List Int) (a1 : List Int) (r : Bool) (h : slices_Equal_int_int a0 a1 = some r) : Spec PG 34 [lT 1 (List.map e_i64 a0), lT 1 (List.map e_i64 a1)] [] (bA r) [] := by
  unfold slices_Equal_int_int at h
  rcases cnd_e h with ⟨h1, h⟩ | ⟨h1, h⟩
  · have h := Option.some.inj h
    subst h
    exact Spec.path XTok PGmix slices_Equal_int_int_fn 0 [.r [], .r [.eq 7 (iA (a0.length : Int)), .eq 9 (iA (a1.length : Int))], .b true, .r []] (an (leni_eq e_i64 a0) (an (leni_eq e_i64 a1) h1)) (by kernel_rfl)
  · rcases aft0_e h with ⟨h8, h⟩ | ⟨r9, h8, h⟩
    · have h := Option.some.inj h
      subst h
      exact Spec.path XTok PGmix slices_Equal_int_int_fn 0 [.r [], .r [.eq 7 (iA (a0.length : Int)), .eq 9 (iA (a1.length : Int))], .b false, .r [.eq 12 (iA (a0.length : Int))], .s (slices_Equal_int_int_F0 a0 a1 0 ) (slices_Equal_int_int_H0 a0 a1 0 ) [] (slices_Equal_int_int_B0 a0 a1 ()), .r []] (an (leni_eq e_i64 a0) (an (leni_eq e_i64 a1) (an h1 (an (leni_eq e_i64 a0) (slices_Equal_int_int_l0 a0 a1 (.fin ()) h8))))) (by kernel_rfl)
    · have h := Option.some.inj h
      subst h
      exact Spec.path XTok PGmix slices_Equal_int_int_fn 0 [.r [], .r [.eq 7 (iA (a0.length : Int)), .eq 9 (iA (a1.length : Int))], .b false, .r [.eq 12 (iA (a0.length : Int))], .s (slices_Equal_int_int_F0 a0 a1 0 ) (slices_Equal_int_int_H0 a0 a1 0 ) [] (slices_Equal_int_int_R r9)] (an (leni_eq e_i64 a0) (an (leni_eq e_i64 a1) (an h1 (an (leni_eq e_i64 a0) (slices_Equal_int_int_l0 a0 a1 (.ret r9) h8))))) (by kernel_rfl)

noncomputable def shape_Set_push_c : Code := (Go.Proofs.Try.f22.body).getD .skip
theorem shape_Set_push_fn : FnOk PG 22 shape_Set_push_c 54 [.tmp 4] := ⟨⟨Go.Proofs.Try.f22, by kernel_rfl, by kernel_rfl, by kernel_rfl, by kernel_rfl, by kernel_rfl⟩⟩
noncomputable def shape_Set_push (a0 : List Band) (a1 : Band) : Option (List Band) :=
 bnd1 (cnd ((a1.Xs.length : Int) == 0) (some true) (some (decide (a1.Y1 ≤ a1.Y0)))) fun v1 =>
 cnd v1 (some a0) (bnd1 (cnd (decide ((w64 ((a0.length : Int) - 1)) ≥ 0)) (bnd (atI a0 (w64 ((a0.length : Int) - 1))) fun x11 =>
 cnd (x11.Y1 == a1.Y0) (bnd (atI a0 (w64 ((a0.length : Int) - 1))) fun x14 =>
 bnd (slices_Equal_int_int x14.Xs a1.Xs) fun r16 =>
 some r16) (some false)) (some false)) fun v7 =>
 cnd v7 (bnd (atI a0 (w64 ((a0.length : Int) - 1))) fun x20 =>
 some (a0.set (Int.toNat (w64 ((a0.length : Int) - 1))) (⟨x20.Y0, a1.Y1, x20.Xs⟩ : Band))) (grd (a0.length + [a1].length ≤ lim) <|
 some (a0 ++ [a1])))
theorem shape_Set_push_ok (a0 : List Band) (a1 : Band) (r : List Band) (h : shape_Set_push a0 a1 = some r) : Spec PG 22 [.v (.rt 0), gT (e_Band a1)] [(0, .row 53 3 (List.map e_Band a0))] (.t (.v (.rt 1))) [(1, .row 53 3 (List.map e_Band r))] := by
  unfold shape_Set_push at h
  obtain ⟨v1, h2, h⟩ := bnd1_e h
  let q5_f : Fr := [(0, .t (.v (.rt 1))), (3, .t (.v (.ptr 2 0)))]
  let q5_g : Hp := [(1, .row 53 3 (List.map e_Band a0)), (2, .cells 53 [.c (iC a1.Y0), .c (iC a1.Y1), .c (.sl 1 (List.map e_i64 a1.Xs))])]
  let q5_f' : Fr := [(0, .t (.v (.rt 1))), (3, .t (.v (.ptr 2 0))), (16, bA v1)]
  let q5_g' : Hp := [(1, .row 53 3 (List.map e_Band a0)), (2, .cells 53 [.c (iC a1.Y0), .c (iC a1.Y1), .c (.sl 1 (List.map e_i64 a1.Xs))])]
  have R3 : Runs PG 54 1 (cL (cL (cR shape_Set_push_c))) q5_f q5_g (.nor q5_f' q5_g') := by
    rcases cnd_e h2 with ⟨h4, h2⟩ | ⟨h4, h2⟩
    · have h2 := Option.some.inj h2
      subst h2
      exact Runs.path XTok PGmix [.r [.eq 8 (iA (a1.Xs.length : Int)), .b true, .b true, .b true, .b true, .b true, .b true]] [] (an (leni_eq e_i64 a1.Xs) (an h4 (an h4 (an h4 (an h4 (an h4 h4)))))) (by kernel_rfl)
    · have h2 := Option.some.inj h2
      subst h2
      exact Runs.path XTok PGmix [.r [.eq 8 (iA (a1.Xs.length : Int)), .b false, .b false, .b false, .b false, .b false, .b false]] [] (an (leni_eq e_i64 a1.Xs) (an h4 (an h4 (an h4 (an h4 (an h4 h4)))))) (by kernel_rfl)
  rcases cnd_e h with ⟨h6, h⟩ | ⟨h6, h⟩
  · have h := Option.some.inj h
    subst h
    exact Spec.path XTok PGmix shape_Set_push_fn 1 [.w [(0, .t (.v (.rt 1))), (1, .t (gT (e_Band a1)))] [(1, .row 53 3 (List.map e_Band a0))] [(1, 0)], .r [.id 2, .nl 3], .s q5_f q5_g [] (.nor q5_f' q5_g'), .b true, .r []] (an R3 h6) (by kernel_rfl)
  · obtain ⟨v7, h8, h⟩ := bnd1_e h
    let q18_f : Fr := [(0, .t (.v (.rt 1))), (3, .t (.v (.ptr 2 0))), (5, iA (w64 ((a0.length : Int) - 1)))]
    let q18_g : Hp := [(1, .row 53 3 (List.map e_Band a0)), (2, .cells 53 [.c (iC a1.Y0), .c (iC a1.Y1), .c (.sl 1 (List.map e_i64 a1.Xs))])]
    let q18_f' : Fr := [(0, .t (.v (.rt 1))), (3, .t (.v (.ptr 2 0))), (5, iA (w64 ((a0.length : Int) - 1))), (42, bA v7)]
    let q18_g' : Hp := [(1, .row 53 3 (List.map e_Band a0)), (2, .cells 53 [.c (iC a1.Y0), .c (iC a1.Y1), .c (.sl 1 (List.map e_i64 a1.Xs))])]
    have R9 : Runs PG 54 1 (cL (cR (cL (cR (cR shape_Set_push_c))))) q18_f q18_g (.nor q18_f' q18_g') := by
      rcases cnd_e h8 with ⟨h10, h8⟩ | ⟨h10, h8⟩
      · obtain ⟨x11, h12, h8⟩ := bnd_e h8
        rcases cnd_e h8 with ⟨h13, h8⟩ | ⟨h13, h8⟩
        · obtain ⟨x14, h15, h8⟩ := bnd_e h8
          obtain ⟨r16, h17, h8⟩ := bnd_e h8
          have h8 := Option.some.inj h8
          subst h8
          exact Runs.path XTok PGmix [.d [([], []), ([], []), ([], []), ([], [.b true]), ([], [.b true]), ([1], [.b true]), ([], [.b true]), ([1], [.b true, .el (e_Band x11)]), ([], [.b true]), ([2], [.b true]), ([], [.b true]), ([], [.b true]), ([], []), ([], [.b true]), ([], [.b true]), ([1], [.b true]), ([], [.b true]), ([1], [.b true, .el (e_Band x14)]), ([], [.b true]), ([2], [.b true]), ([], [.b true, .val (bA r16)]), ([], [.b true])]] [] (an h10 (an h10 (an h10 (an (idx_lt e_Band h12) (an h10 (an h10 (an (idx_el e_Band h12) (an h10 (an h10 (an h10 (an h10 (an h13 (an h13 (an h13 (an (idx_lt e_Band h15) (an h13 (an h13 (an (idx_el e_Band h15) (an h13 (an h13 (an h13 (an (slices_Equal_int_int_ok x14.Xs a1.Xs r16 h17) h13)))))))))))))))))))))) (by kernel_rfl)
        · have h8 := Option.some.inj h8
          subst h8
          exact Runs.path XTok PGmix [.d [([], []), ([], []), ([], []), ([], [.b true]), ([], [.b true]), ([1], [.b true]), ([], [.b true]), ([1], [.b true, .el (e_Band x11)]), ([], [.b true]), ([2], [.b true]), ([], [.b true]), ([], [.b true]), ([], []), ([], [.b false]), ([], [.b false]), ([], [.b false]), ([], [.b false]), ([], [.b false]), ([], [.b false]), ([], [.b false]), ([], [.b false]), ([], [.b false])]] [] (an h10 (an h10 (an h10 (an (idx_lt e_Band h12) (an h10 (an h10 (an (idx_el e_Band h12) (an h10 (an h10 (an h10 (an h10 (an h13 (an h13 (an h13 (an h13 (an h13 (an h13 (an h13 (an h13 h13))))))))))))))))))) (by kernel_rfl)
      · have h8 := Option.some.inj h8
        subst h8
        exact Runs.path XTok PGmix [.d [([], []), ([], []), ([], []), ([], [.b false]), ([], [.b false]), ([], [.b false]), ([], [.b false]), ([], [.b false]), ([], [.b false]), ([], [.b false]), ([], [.b false]), ([], [.b false]), ([], []), ([], [.b false]), ([], [.b false]), ([], [.b false]), ([], [.b false]), ([], [.b false]), ([], [.b false]), ([], [.b false]), ([], [.b false]), ([], [.b false])]] [] (an h10 (an h10 (an h10 (an h10 (an h10 (an h10 (an h10 (an h10 (an h10 (an (Eq.refl false) (an (Eq.refl false) (an (Eq.refl false) (an (Eq.refl false) (an (Eq.refl false) (an (Eq.refl false) (an (Eq.refl false) (an (Eq.refl false) (Eq.refl false)))))))))))))))))) (by kernel_rfl)
    rcases cnd_e h with ⟨h19, h⟩ | ⟨h19, h⟩
    · obtain ⟨x20, h21, h⟩ := bnd_e h
      have h := Option.some.inj h
      subst h
      exact Spec.path XTok PGmix shape_Set_push_fn 1 [.w [(0, .t (.v (.rt 1))), (1, .t (gT (e_Band a1)))] [(1, .row 53 3 (List.map e_Band a0))] [(1, 0)], .r [.id 2, .nl 3], .s q5_f q5_g [] (.nor q5_f' q5_g'), .b false, .r [.eq 19 (iA (a0.length : Int))], .s q18_f q18_g [] (.nor q18_f' q18_g'), .b true, .r [.el (e_Band x20), .row (List.map e_Band (a0.set (Int.toNat (w64 ((a0.length : Int) - 1))) (⟨x20.Y0, a1.Y1, x20.Xs⟩ : Band)))], .r []] (an R3 (an h6 (an (leni_eq e_Band a0) (an R9 (an h19 (an (idx_lt e_Band h21) (set_ok e_Band h21 (⟨x20.Y0, a1.Y1, x20.Xs⟩ : Band) 1 [iC a1.Y1] (by kernel_rfl)))))))) (by kernel_rfl)
    · obtain ⟨h22, h⟩ := grd_e h
      have h := Option.some.inj h
      subst h
      exact Spec.path XTok PGmix shape_Set_push_fn 1 [.w [(0, .t (.v (.rt 1))), (1, .t (gT (e_Band a1)))] [(1, .row 53 3 (List.map e_Band a0))] [(1, 0)], .r [.id 2, .nl 3], .s q5_f q5_g [] (.nor q5_f' q5_g'), .b false, .r [.eq 19 (iA (a0.length : Int))], .s q18_f q18_g [] (.nor q18_f' q18_g'), .b false, .r [.id 3, .row (List.map e_Band [a1]), .id 4, .row (List.map e_Band (a0 ++ [a1]))], .w [(4, .t (.v (.rt 1)))] [(1, .row 53 3 (List.map e_Band (a0 ++ [a1])))] [(1, 4)]] (an R3 (an h6 (an (leni_eq e_Band a0) (an R9 (an h19 (an (Eq.refl (List.flatten (List.map e_Band [a1]))) (app_ok e_Band h22))))))) (by kernel_rfl)

noncomputable def shape_stretches_1_c : Code := (Go.Proofs.Try.f35.body).getD .skip
theorem shape_stretches_1_fn : FnOk PG 35 shape_stretches_1_c 10 [.tmp 4] := ⟨⟨Go.Proofs.Try.f35, by kernel_rfl, by kernel_rfl, by kernel_rfl, by kernel_rfl, by kernel_rfl⟩⟩
noncomputable def shape_stretches_1 (a0 : Rect) (a1 : Rect) : Option Int :=
 some (w64 (a0.X0 - a1.X0))
theorem shape_stretches_1_ok (a0 : Rect) (a1 : Rect) (r : Int) (h : shape_stretches_1 a0 a1 = some r) : Spec PG 35 [gT (e_Rect a0), gT (e_Rect a1)] [] (iA r) [] := by
  unfold shape_stretches_1 at h
  have h := Option.some.inj h
  subst h
  exact Spec.path XTok PGmix shape_stretches_1_fn 0 [.r [.id 0, .id 1], .r []] trivial (by kernel_rfl)

noncomputable def shape_stretches_c : Code := (Go.Proofs.Try.f23.body).getD .skip
theorem shape_stretches_fn : FnOk PG 23 shape_stretches_c 48 [.tmp 2] := ⟨⟨Go.Proofs.Try.f23, by kernel_rfl, by kernel_rfl, by kernel_rfl, by kernel_rfl, by kernel_rfl⟩⟩
noncomputable def shape_stretches_c0 : Code := cL (cL (cR (cL (cR (cR (cR shape_stretches_c))))))
noncomputable def shape_stretches_R (r : List Int × List Rect) : Oc := .ret [(2, lA 1 (List.map e_i64 r.1))] [(0, .row 27 4 (List.map e_Rect r.2))]
noncomputable def shape_stretches_F0 (r1 : List Rect) (i3 : Nat) (y4 : List Int) : Fr := [(3, .t (.v (.rt 1))), (9, .t (.v (.rt 0))), (10, iA (r1.length : Int)), (11, iA (i3 : Int))]
noncomputable def shape_stretches_H0 (r1 : List Rect) (i3 : Nat) (y4 : List Int) : Hp := [(0, .row 27 4 (List.map e_Rect r1)), (1, .row 3 1 (List.map e_i64 y4))]
noncomputable def shape_stretches_B0 (r1 : List Rect) (s : List Int) : Oc := .ex 0 [(3, .t (.v (.rt 1)))] [(0, .row 27 4 (List.map e_Rect r1)), (1, .row 3 1 (List.map e_i64 s))]
noncomputable def shape_stretches_b0 (r1 : List Rect) (i3 : Nat) (y4 : List Int) : Option (Stp (List Int) (List Int × List Rect)) :=
 bnd (atI r1 (i3 : Int)) fun x5 =>
 bnd1 (cnd (decide ((w64 ((y4.length : Int) - 1)) ≥ 0)) (bnd (atI y4 (w64 ((y4.length : Int) - 1))) fun x11 =>
 some (decide (x5.X0 ≤ x11))) (some false)) fun v7 =>
 bnd1 (cnd v7 (bnd (atI y4 (w64 ((y4.length : Int) - 1))) fun x18 =>
 bnd (atI y4 (w64 ((y4.length : Int) - 1))) fun x20 =>
 some (y4.set (Int.toNat (w64 ((y4.length : Int) - 1))) (mx x18 x5.X1))) (grd (y4.length + [x5.X0, x5.X1].length ≤ lim) <|
 some (y4 ++ [x5.X0, x5.X1]))) fun v14 =>
 some (.go v14)
theorem shape_stretches_b0_r (r1 : List Rect) (i3 : Nat) (y4 : List Int) (o : Stp (List Int) (List Int × List Rect)) (hi : i3 < r1.length) (h : shape_stretches_b0 r1 i3 y4 = some o) :
    Runs PG 48 1 shape_stretches_c0 (shape_stretches_F0 r1 i3 y4) (shape_stretches_H0 r1 i3 y4) (stpOc (fun s' => .nor (shape_stretches_F0 r1 (i3 + 1) s') (shape_stretches_H0 r1 (i3 + 1) s')) (shape_stretches_B0 r1) shape_stretches_R o) := by
  unfold shape_stretches_b0 at h
  refine Runs.rlen (id := 0) (e := 27) (sz := 4) (xs := List.map e_Rect r1) (by kernel_rfl) fun hl => ?_
  have hM : r1.length ≤ lim := len_of hl
  obtain ⟨x5, h6, h⟩ := bnd_e h
  obtain ⟨v7, h8, h⟩ := bnd1_e h
  let q13_f : Fr := [(3, .t (.v (.rt 1))), (5, .t (.v (.ptr 2 0))), (6, iA (w64 ((y4.length : Int) - 1))), (9, .t (.v (.rt 0))), (10, iA (r1.length : Int)), (11, iA (i3 : Int))]
  let q13_g : Hp := [(0, .row 27 4 (List.map e_Rect r1)), (1, .row 3 1 (List.map e_i64 y4)), (2, .cells 27 [.c (iC x5.X0), .c (iC x5.Y0), .c (iC x5.X1), .c (iC x5.Y1)])]
  let q13_f' : Fr := [(3, .t (.v (.rt 1))), (5, .t (.v (.ptr 2 0))), (6, iA (w64 ((y4.length : Int) - 1))), (9, .t (.v (.rt 0))), (10, iA (r1.length : Int)), (11, iA (i3 : Int)), (28, bA v7)]
  let q13_g' : Hp := [(0, .row 27 4 (List.map e_Rect r1)), (1, .row 3 1 (List.map e_i64 y4)), (2, .cells 27 [.c (iC x5.X0), .c (iC x5.Y0), .c (iC x5.X1), .c (iC x5.Y1)])]
  have R9 : Runs PG 48 1 (cL (cR (cR (cL (cL (cR (cR shape_stretches_c0))))))) q13_f q13_g (.nor q13_f' q13_g') := by
    rcases cnd_e h8 with ⟨h10, h8⟩ | ⟨h10, h8⟩
    · obtain ⟨x11, h12, h8⟩ := bnd_e h8
      have h8 := Option.some.inj h8
      subst h8
      exact Runs.path XTok PGmix [.d [([], []), ([], []), ([], []), ([], [.b true]), ([2], [.b true]), ([], [.b true]), ([], [.b true]), ([1], [.b true]), ([1], [.b true, .el [iC x11]]), ([], [.b true]), ([], [.b true])]] [] (an h10 (an h10 (an h10 (an h10 (an h10 (an (idx_lt e_i64 h12) (an h10 (an (idx_el e_i64 h12) (an h10 h10))))))))) (by kernel_rfl)
    · have h8 := Option.some.inj h8
      subst h8
      exact Runs.path XTok PGmix [.d [([], []), ([], []), ([], []), ([], [.b false]), ([], [.b false]), ([], [.b false]), ([], [.b false]), ([], [.b false]), ([], [.b false]), ([], [.b false]), ([], [.b false])]] [] (an h10 (an h10 (an h10 (an h10 (an h10 (an h10 (an h10 h10))))))) (by kernel_rfl)
  obtain ⟨v14, h15, h⟩ := bnd1_e h
  let q23_f : Fr := [(3, .t (.v (.rt 1))), (5, .t (.v (.ptr 2 0))), (6, iA (w64 ((y4.length : Int) - 1))), (9, .t (.v (.rt 0))), (10, iA (r1.length : Int)), (11, iA (i3 : Int)), (28, bA v7)]
  let q23_g : Hp := [(0, .row 27 4 (List.map e_Rect r1)), (1, .row 3 1 (List.map e_i64 y4)), (2, .cells 27 [.c (iC x5.X0), .c (iC x5.Y0), .c (iC x5.X1), .c (iC x5.Y1)])]
  let q23_f' : Fr := [(3, .t (.v (.rt 1))), (9, .t (.v (.rt 0))), (10, iA (r1.length : Int)), (11, iA (i3 : Int))]
  let q23_g' : Hp := [(0, .row 27 4 (List.map e_Rect r1)), (1, .row 3 1 (List.map e_i64 v14))]
  have R16 : Runs PG 48 1 (cR (cR (cR (cL (cL (cR (cR shape_stretches_c0))))))) q23_f q23_g (.nor q23_f' q23_g') := by
    rcases cnd_e h15 with ⟨h17, h15⟩ | ⟨h17, h15⟩
    · obtain ⟨x18, h19, h15⟩ := bnd_e h15
      obtain ⟨x20, h21, h15⟩ := bnd_e h15
      have h15 := Option.some.inj h15
      subst h15
      exact Runs.path XTok PGmix [.b true, .d [([], []), ([], []), ([], []), ([], []), ([1], []), ([1], [.el [iC x18]]), ([], []), ([2], []), ([], []), ([1], []), ([1], [.el (e_i64 x20), .row (List.map e_i64 (y4.set (Int.toNat (w64 ((y4.length : Int) - 1))) (mx x18 x5.X1)))])]] [] (an h17 (an (idx_lt e_i64 h19) (an (idx_el e_i64 h19) (an (idx_lt e_i64 h21) (set_ok e_i64 h21 (mx x18 x5.X1) 0 [iC (mx x18 x5.X1)] (by kernel_rfl)))))) (by kernel_rfl)
    · obtain ⟨h22, h15⟩ := grd_e h15
      have h15 := Option.some.inj h15
      subst h15
      exact Runs.path XTok PGmix [.b false, .r [.id 3, .row (List.map e_i64 [x5.X0, x5.X1]), .id 4, .row (List.map e_i64 (y4 ++ [x5.X0, x5.X1]))]] [(1, 4)] (an h17 (an (Eq.refl (List.flatten (List.map e_i64 [x5.X0, x5.X1]))) (app_ok e_i64 h22))) (by kernel_rfl)
  have h := Option.some.inj h
  subst h
  exact Runs.path XTok PGmix [.r [], .b true, .r [.el (e_Rect x5), .id 2], .r [.eq 16 (iA (y4.length : Int))], .s q13_f q13_g [] (.nor q13_f' q13_g'), .s q23_f q23_g [] (.nor q23_f' q23_g'), .r [.eq 46 (iA ((i3 + 1 : Nat) : Int))]] [] (an (lt_true hi) (an (idx_lt e_Rect h6) (an (idx_el e_Rect h6) (an (leni_eq e_i64 y4) (an R9 (an R16 (wrap_eq hi hM))))))) (by kernel_rfl)
theorem shape_stretches_b0_e (r1 : List Rect) (y4 : List Int) : Runs PG 48 1 shape_stretches_c0 (shape_stretches_F0 r1 (r1.length) y4) (shape_stretches_H0 r1 (r1.length) y4) (shape_stretches_B0 r1 y4) := by
  exact Runs.path XTok PGmix [.r [], .b false] [] (lt_false (r1.length)) (by kernel_rfl)
theorem shape_stretches_l0 (r1 : List Rect) (y4 : List Int) (r : Fin' (List Int) (List Int × List Rect)) (h : forN (fun i3 s => shape_stretches_b0 r1 i3 s) (r1.length) 0 y4 = some r) : Runs PG 48 1 (cL (cR (cL (cR (cR (cR shape_stretches_c)))))) (shape_stretches_F0 r1 0 y4) (shape_stretches_H0 r1 0 y4) (finOc (shape_stretches_B0 r1) shape_stretches_R r) :=
  Runs.loop' (by kernel_rfl) (forN_rounds (σ := (List Int)) (ρ := (List Int × List Rect)) (body := fun i3 s => shape_stretches_b0 r1 i3 s) (F := fun i3 s => shape_stretches_F0 r1 i3 s) (H := fun i3 s => shape_stretches_H0 r1 i3 s) (B := shape_stretches_B0 r1) (R := shape_stretches_R) (M := r1.length) (fun _ => rfl) (fun _ => rfl) (fun s => shape_stretches_b0_e r1 s) (fun i s o hi h => shape_stretches_b0_r r1 i s o hi h) _ 0 _ r (Nat.zero_add _) h)
noncomputable def shape_stretches (a0 : List Rect) : Option (List Int × List Rect) :=
 bnd (h_SortFunc_Rect a0) fun r1 =>
 aft1 (forN (fun i3 s => shape_stretches_b0 r1 i3 s) (r1.length) 0 []) (fun u24 =>
 some (u24, r1))
 (fun r26 =>
 some r26)
theorem shape_stretches_ok (a0 : List Rect) (r : List Int × List Rect) (h : shape_stretches a0 = some r) : Spec PG 23 [.v (.rt 0)] [(0, .row 27 4 (List.map e_Rect a0))] (lA 1 (List.map e_i64 r.1)) [(0, .row 27 4 (List.map e_Rect r.2))] := by
  unfold shape_stretches at h
  obtain ⟨r1, h2, h⟩ := bnd_e h
  rcases aft1_e h with ⟨u24, h25, h⟩ | ⟨r26, h25, h⟩
  · have h := Option.some.inj h
    subst h
    exact Spec.path XTok PGmix shape_stretches_fn 1 [.r [.nl 1], .r [.call [(0, 0)] [.v (.rt 0), .v (.c (.fn 35 []))] [(0, .row 27 4 (List.map e_Rect a0))] (.tup []) [(0, .row 27 4 (List.map e_Rect r1))]], .r [.mk 1 3 1], .r [.eq 10 (iA (r1.length : Int))], .s (shape_stretches_F0 r1 0 []) (shape_stretches_H0 r1 0 []) [] (shape_stretches_B0 r1 u24), .r [], .f 1] (an (an (h_SortFunc_Rect_ok a0 35 (by decide) r1 h2) (an (Eq.refl ([.v (.rt 0), .v (.c (.fn 35 []))] : List TV)) (Eq.refl (renH (asg [(0, 0)]) [(0, .row 27 4 (List.map e_Rect a0))])))) (an (leni_eq e_Rect r1) (shape_stretches_l0 r1 [] (.fin u24) h25))) (by kernel_rfl)
  · have h := Option.some.inj h
    subst h
    exact Spec.path XTok PGmix shape_stretches_fn 1 [.r [.nl 1], .r [.call [(0, 0)] [.v (.rt 0), .v (.c (.fn 35 []))] [(0, .row 27 4 (List.map e_Rect a0))] (.tup []) [(0, .row 27 4 (List.map e_Rect r1))]], .r [.mk 1 3 1], .r [.eq 10 (iA (r1.length : Int))], .s (shape_stretches_F0 r1 0 []) (shape_stretches_H0 r1 0 []) [] (shape_stretches_R r26)] (an (an (h_SortFunc_Rect_ok a0 35 (by decide) r1 h2) (an (Eq.refl ([.v (.rt 0), .v (.c (.fn 35 []))] : List TV)) (Eq.refl (renH (asg [(0, 0)]) [(0, .row 27 4 (List.map e_Rect a0))])))) (an (leni_eq e_Rect r1) (shape_stretches_l0 r1 [] (.ret r26) h25))) (by kernel_rfl)

noncomputable def slices_Clone_api_Rect_api_Rect_new_c : Code := (Go.Proofs.Try.f15.body).getD .skip
theorem slices_Clone_api_Rect_api_Rect_new_fn : FnOk PG 15 slices_Clone_api_Rect_api_Rect_new_c 8 [.tmp 2] := ⟨⟨Go.Proofs.Try.f15, by kernel_rfl, by kernel_rfl, by kernel_rfl, by kernel_rfl, by kernel_rfl⟩⟩
noncomputable def slices_Clone_api_Rect_api_Rect_new (a0 : List Rect) : Option (List Rect) :=
 grd (([] : List Rect).length + a0.length ≤ lim) <|
 some (([] : List Rect) ++ a0)
theorem slices_Clone_api_Rect_api_Rect_new_ok (a0 : List Rect) (r : List Rect) (h : slices_Clone_api_Rect_api_Rect_new a0 = some r) : Spec PG 15 [lT 4 (List.map e_Rect a0)] [] (.t (.v (.rt 0))) [(0, .row 27 4 (List.map e_Rect r))] := by
  refine Spec.nilcase (pre := []) (fun hx => ?_) ?_
  · have hx := List.map_eq_nil_iff.1 hx
    subst hx
    have h : some [] = some r := h
    have h := Option.some.inj h
    subst h
    exact Spec.path XTok PGmix slices_Clone_api_Rect_api_Rect_new_fn 0 [.r [.mk 0 27 4], .r [], .b true, .r [.mk 1 27 4], .w [(2, .t (.v (.rt 0)))] [(0, .row 27 4 (List.map e_Rect []))] [(0, 1)]] (Eq.refl true) (by kernel_rfl)
  · unfold slices_Clone_api_Rect_api_Rect_new at h
    obtain ⟨h1, h⟩ := grd_e h
    have h := Option.some.inj h
    subst h
    exact Spec.path XTok PGmix slices_Clone_api_Rect_api_Rect_new_fn 0 [.r [.mk 0 27 4], .r [], .b false, .r [.id 1, .row (List.map e_Rect ([] : List Rect)), .id 2, .row (List.map e_Rect (([] : List Rect) ++ a0))], .w [(2, .t (.v (.rt 0)))] [(0, .row 27 4 (List.map e_Rect (([] : List Rect) ++ a0)))] [(0, 2)]] (an (Eq.refl false) (an (Eq.refl (List.flatten (List.map e_Rect ([] : List Rect)))) (app_ok e_Rect h1))) (by kernel_rfl)

noncomputable def shape_SetOf_c : Code := (Go.Proofs.Try.f10.body).getD .skip
theorem shape_SetOf_fn : FnOk PG 10 shape_SetOf_c 83 [.tmp 2] := ⟨⟨Go.Proofs.Try.f10, by kernel_rfl, by kernel_rfl, by kernel_rfl, by kernel_rfl, by kernel_rfl⟩⟩
noncomputable def shape_SetOf_c0 : Code := cL (cL (cR (cL (cR (cR (cR (cR shape_SetOf_c)))))))
noncomputable def shape_SetOf_R (r : List Band) : Oc := .ret [(2, lA 3 (List.map e_Band r))] []
noncomputable def shape_SetOf_F0 (r3 : List Rect) (i5 : Nat) (y6 : List Int) : Fr := [(0, .t (.v (.rt 0))), (3, .t (.v (.ptr 1 0))), (14, .t (.v (.rt 0))), (15, iA (r3.length : Int)), (16, iA (i5 : Int))]
noncomputable def shape_SetOf_H0 (r3 : List Rect) (i5 : Nat) (y6 : List Int) : Hp := [(0, .row 27 4 (List.map e_Rect r3)), (1, .cells 45 [.rt 2]), (2, .row 3 1 (List.map e_i64 y6))]
noncomputable def shape_SetOf_B0 (r3 : List Rect) (s : List Int) : Oc := .ex 0 [(0, .t (.v (.rt 0))), (3, .t (.v (.ptr 1 0)))] [(0, .row 27 4 (List.map e_Rect r3)), (1, .cells 45 [.rt 2]), (2, .row 3 1 (List.map e_i64 s))]
noncomputable def shape_SetOf_b0 (r3 : List Rect) (i5 : Nat) (y6 : List Int) : Option (Stp (List Int) (List Band)) :=
 bnd (atI r3 (i5 : Int)) fun x7 =>
 grd (y6.length + [x7.Y0, x7.Y1].length ≤ lim) <|
 some (.go (y6 ++ [x7.Y0, x7.Y1]))
theorem shape_SetOf_b0_r (r3 : List Rect) (i5 : Nat) (y6 : List Int) (o : Stp (List Int) (List Band)) (hi : i5 < r3.length) (h : shape_SetOf_b0 r3 i5 y6 = some o) :
    Runs PG 83 0 shape_SetOf_c0 (shape_SetOf_F0 r3 i5 y6) (shape_SetOf_H0 r3 i5 y6) (stpOc (fun s' => .nor (shape_SetOf_F0 r3 (i5 + 1) s') (shape_SetOf_H0 r3 (i5 + 1) s')) (shape_SetOf_B0 r3) shape_SetOf_R o) := by
  unfold shape_SetOf_b0 at h
  refine Runs.rlen (id := 0) (e := 27) (sz := 4) (xs := List.map e_Rect r3) (by kernel_rfl) fun hl => ?_
  have hM : r3.length ≤ lim := len_of hl
  obtain ⟨x7, h8, h⟩ := bnd_e h
  obtain ⟨h9, h⟩ := grd_e h
  have h := Option.some.inj h
  subst h
  exact Runs.path XTok PGmix [.r [], .b true, .r [.el (e_Rect x7), .id 3], .r [.id 4, .row (List.map e_i64 [x7.Y0, x7.Y1]), .id 5, .row (List.map e_i64 (y6 ++ [x7.Y0, x7.Y1]))], .r [.eq 27 (iA ((i5 + 1 : Nat) : Int))]] [(2, 5)] (an (lt_true hi) (an (idx_lt e_Rect h8) (an (idx_el e_Rect h8) (an (Eq.refl (List.flatten (List.map e_i64 [x7.Y0, x7.Y1]))) (an (app_ok e_i64 h9) (wrap_eq hi hM)))))) (by kernel_rfl)
theorem shape_SetOf_b0_e (r3 : List Rect) (y6 : List Int) : Runs PG 83 0 shape_SetOf_c0 (shape_SetOf_F0 r3 (r3.length) y6) (shape_SetOf_H0 r3 (r3.length) y6) (shape_SetOf_B0 r3 y6) := by
  exact Runs.path XTok PGmix [.r [], .b false] [] (lt_false (r3.length)) (by kernel_rfl)
theorem shape_SetOf_l0 (r3 : List Rect) (y6 : List Int) (r : Fin' (List Int) (List Band)) (h : forN (fun i5 s => shape_SetOf_b0 r3 i5 s) (r3.length) 0 y6 = some r) : Runs PG 83 0 (cL (cR (cL (cR (cR (cR (cR shape_SetOf_c))))))) (shape_SetOf_F0 r3 0 y6) (shape_SetOf_H0 r3 0 y6) (finOc (shape_SetOf_B0 r3) shape_SetOf_R r) :=
  Runs.loop' (by kernel_rfl) (forN_rounds (σ := (List Int)) (ρ := (List Band)) (body := fun i5 s => shape_SetOf_b0 r3 i5 s) (F := fun i5 s => shape_SetOf_F0 r3 i5 s) (H := fun i5 s => shape_SetOf_H0 r3 i5 s) (B := shape_SetOf_B0 r3) (R := shape_SetOf_R) (M := r3.length) (fun _ => rfl) (fun _ => rfl) (fun s => shape_SetOf_b0_e r3 s) (fun i s o hi h => shape_SetOf_b0_r r3 i s o hi h) _ 0 _ r (Nat.zero_add _) h)
noncomputable def shape_SetOf_c1 : Code := cL (cL (cR (cL (cR (cR (cR (cR (cR (cR (cR (cR (cR (cR shape_SetOf_c)))))))))))))
noncomputable def shape_SetOf_c2 : Code := cL (cL (cL (cR (cL (cL (cR shape_SetOf_c1))))))
noncomputable def shape_SetOf_F2 (r3 : List Rect) (r15 : List Int) (y18 : List Band) (y20 : Int) (y24 : Int) (y25 : List Rect) : Fr := [(0, .t (.v (.rt 0))), (3, .t (.v (.c (.ptr [.sl 1 (List.map e_i64 r15)])))), (6, .t (.v (.rt 4))), (7, .t (.v (.rt 6))), (8, iA y24), (9, .t (.v (.c (.ptr [iC y20]))))]
noncomputable def shape_SetOf_H2 (r3 : List Rect) (r15 : List Int) (y18 : List Band) (y20 : Int) (y24 : Int) (y25 : List Rect) : Hp := [(6, .row 27 4 (List.map e_Rect y25)), (0, .row 27 4 (List.map e_Rect r3)), (4, .row 53 3 (List.map e_Band y18))]
noncomputable def shape_SetOf_B2 (r3 : List Rect) (r15 : List Int) (y18 : List Band) (y20 : Int) (s : Int × List Rect) : Oc := .ex 4 [(0, .t (.v (.rt 0))), (3, .t (.v (.c (.ptr [.sl 1 (List.map e_i64 r15)])))), (6, .t (.v (.rt 4))), (7, .t (.v (.rt 6))), (8, iA s.1), (9, .t (.v (.c (.ptr [iC y20]))))] [(6, .row 27 4 (List.map e_Rect s.2)), (0, .row 27 4 (List.map e_Rect r3)), (4, .row 53 3 (List.map e_Band y18))]
noncomputable def shape_SetOf_b2 (r3 : List Rect) (r15 : List Int) (y18 : List Band) (y20 : Int) (y24 : Int) (y25 : List Rect) : Option (Stp (Int × List Rect) (List Band)) :=
 bnd1 (cnd (decide (y24 < (r3.length : Int))) (bnd (atI r3 y24) fun x30 =>
 bnd (atI r15 y20) fun x32 =>
 some (decide (x30.Y0 ≤ x32))) (some false)) fun v26 =>
 cnd v26 (bnd (atI r3 y24) fun x36 =>
 grd (y25.length + [x36].length ≤ lim) <|
 some (.go (w64 (y24 + 1), y25 ++ [x36]))) (some (.brk (y24, y25)))
theorem shape_SetOf_b2_r (r3 : List Rect) (r15 : List Int) (y18 : List Band) (y20 : Int) (y24 : Int) (y25 : List Rect) (o : Stp (Int × List Rect) (List Band)) (h : shape_SetOf_b2 r3 r15 y18 y20 y24 y25 = some o) :
    Runs PG 83 0 shape_SetOf_c2 (shape_SetOf_F2 r3 r15 y18 y20 y24 y25) (shape_SetOf_H2 r3 r15 y18 y20 y24 y25) (stpOc (fun s' => .nor (shape_SetOf_F2 r3 r15 y18 y20 s'.1 s'.2) (shape_SetOf_H2 r3 r15 y18 y20 s'.1 s'.2)) (shape_SetOf_B2 r3 r15 y18 y20) shape_SetOf_R o) := by
  unfold shape_SetOf_b2 at h
  obtain ⟨v26, h27, h⟩ := bnd1_e h
  let q34_f : Fr := [(0, .t (.v (.rt 0))), (3, .t (.v (.c (.ptr [.sl 1 (List.map e_i64 r15)])))), (6, .t (.v (.rt 4))), (7, .t (.v (.rt 6))), (8, iA y24), (9, .t (.v (.c (.ptr [iC y20]))))]
  let q34_g : Hp := [(6, .row 27 4 (List.map e_Rect y25)), (0, .row 27 4 (List.map e_Rect r3)), (4, .row 53 3 (List.map e_Band y18))]
  let q34_f' : Fr := [(0, .t (.v (.rt 0))), (3, .t (.v (.c (.ptr [.sl 1 (List.map e_i64 r15)])))), (6, .t (.v (.rt 4))), (7, .t (.v (.rt 6))), (8, iA y24), (9, .t (.v (.c (.ptr [iC y20])))), (57, bA v26)]
  let q34_g' : Hp := [(6, .row 27 4 (List.map e_Rect y25)), (0, .row 27 4 (List.map e_Rect r3)), (4, .row 53 3 (List.map e_Band y18))]
  have R28 : Runs PG 83 0 (cL (cL shape_SetOf_c2)) q34_f q34_g (.nor q34_f' q34_g') := by
    rcases cnd_e h27 with ⟨h29, h27⟩ | ⟨h29, h27⟩
    · obtain ⟨x30, h31, h27⟩ := bnd_e h27
      obtain ⟨x32, h33, h27⟩ := bnd_e h27
      have h27 := Option.some.inj h27
      subst h27
      exact Runs.path XTok PGmix [.d [([], []), ([], []), ([0], [.eq 44 (iA (r3.length : Int))]), ([], []), ([], []), ([], [.b true]), ([], [.b true]), ([0], [.b true]), ([], [.b true]), ([0], [.b true, .el (e_Rect x30)]), ([], [.b true]), ([], [.b true]), ([], [.b true, .el [iC x32]]), ([], [.b true]), ([], [.b true]), ([], [.b true])]] [] (an (leni_eq e_Rect r3) (an h29 (an h29 (an h29 (an (idx_lt e_Rect h31) (an h29 (an h29 (an (idx_el e_Rect h31) (an h29 (an h29 (an h29 (an (idx_ok e_i64 h33) (an h29 (an h29 h29)))))))))))))) (by kernel_rfl)
    · have h27 := Option.some.inj h27
      subst h27
      exact Runs.path XTok PGmix [.d [([], []), ([], []), ([0], [.eq 44 (iA (r3.length : Int))]), ([], []), ([], []), ([], [.b false]), ([], [.b false]), ([], [.b false]), ([], [.b false]), ([], [.b false]), ([], [.b false]), ([], [.b false]), ([], [.b false]), ([], [.b false]), ([], [.b false]), ([], [.b false])]] [] (an (leni_eq e_Rect r3) (an h29 (an h29 (an h29 (an h29 (an h29 (an h29 (an h29 (an h29 (an h29 (an h29 h29))))))))))) (by kernel_rfl)
  rcases cnd_e h with ⟨h35, h⟩ | ⟨h35, h⟩
  · obtain ⟨x36, h37, h⟩ := bnd_e h
    obtain ⟨h38, h⟩ := grd_e h
    have h := Option.some.inj h
    subst h
    exact Runs.path XTok PGmix [.s q34_f q34_g [] (.nor q34_f' q34_g'), .b true, .r [.el (e_Rect x36), .id 7, .row (List.map e_Rect [x36]), .id 8, .row (List.map e_Rect (y25 ++ [x36]))]] [(6, 8)] (an R28 (an h35 (an (idx_lt e_Rect h37) (an (idx_el e_Rect h37) (an (Eq.refl (List.flatten (List.map e_Rect [x36]))) (app_ok e_Rect h38)))))) (by kernel_rfl)
  · have h := Option.some.inj h
    subst h
    exact Runs.path XTok PGmix [.s q34_f q34_g [] (.nor q34_f' q34_g'), .b false] [] (an R28 h35) (by kernel_rfl)
theorem shape_SetOf_l2 (r3 : List Rect) (r15 : List Int) (y18 : List Band) (y20 : Int) (y24 : Int) (y25 : List Rect) (r : Fin' (Int × List Rect) (List Band)) (h : loop (fun s => shape_SetOf_b2 r3 r15 y18 y20 s.1 s.2) (y24, y25) = some r) : Runs PG 83 0 (cL (cL (cR (cL (cL (cR shape_SetOf_c1)))))) (shape_SetOf_F2 r3 r15 y18 y20 y24 y25) (shape_SetOf_H2 r3 r15 y18 y20 y24 y25) (finOc (shape_SetOf_B2 r3 r15 y18 y20) shape_SetOf_R r) :=
  Runs.loop' (by kernel_rfl) (loop_rounds (σ := (Int × List Rect)) (ρ := (List Band)) (body := fun s => shape_SetOf_b2 r3 r15 y18 y20 s.1 s.2) (F := fun s => shape_SetOf_F2 r3 r15 y18 y20 s.1 s.2) (H := fun s => shape_SetOf_H2 r3 r15 y18 y20 s.1 s.2) (B := shape_SetOf_B2 r3 r15 y18 y20) (R := shape_SetOf_R) (fun _ => rfl) (fun _ => rfl) (fun s o h => shape_SetOf_b2_r r3 r15 y18 y20 s.1 s.2 o h) h)
noncomputable def shape_SetOf_F1 (r3 : List Rect) (r15 : List Int) (y17 : Int) (y18 : List Band) (y19 : List Rect) (y20 : Int) : Fr := [(0, .t (.v (.rt 0))), (3, .t (.v (.c (.ptr [.sl 1 (List.map e_i64 r15)])))), (6, .t (.v (.rt 4))), (7, .t (.v (.rt 5))), (8, iA y17), (9, .t (.v (.ptr 6 0)))]
noncomputable def shape_SetOf_H1 (r3 : List Rect) (r15 : List Int) (y17 : Int) (y18 : List Band) (y19 : List Rect) (y20 : Int) : Hp := [(0, .row 27 4 (List.map e_Rect r3)), (4, .row 53 3 (List.map e_Band y18)), (5, .row 27 4 (List.map e_Rect y19)), (6, .cells 3 [.c (iC y20)])]
noncomputable def shape_SetOf_B1 (r3 : List Rect) (r15 : List Int) (s : Int × List Band × List Rect × Int) : Oc := .ex 2 [(6, .t (.v (.rt 4)))] [(4, .row 53 3 (List.map e_Band s.2.1))]
noncomputable def shape_SetOf_b1 (r3 : List Rect) (r15 : List Int) (y17 : Int) (y18 : List Band) (y19 : List Rect) (y20 : Int) : Option (Stp (Int × List Band × List Rect × Int) (List Band)) :=
 cnd (decide ((w64 (y20 + 1)) < (r15.length : Int))) (bnd (slices_DeleteFunc_api_Rect_api_Rect y19 (fun z0 => shape_SetOf_2 z0 r15 y20)) fun r22 =>
 aft2 (loop (fun s => shape_SetOf_b2 r3 r15 y18 y20 s.1 s.2) (y17, r22)) (fun u39 u40 =>
 bnd (atI r15 y20) fun x43 =>
 bnd (atI r15 (w64 (y20 + 1))) fun x45 =>
 bnd (shape_stretches u40) fun r47 =>
 bnd (shape_Set_push y18 (⟨x43, x45, r47.1⟩ : Band)) fun r49 =>
 some (.go (u39, r49, r47.2, w64 (y20 + 1))))
 (fun r42 =>
 some (.ret r42))) (some (.brk (y17, y18, y19, y20)))
theorem shape_SetOf_b1_r (r3 : List Rect) (r15 : List Int) (y17 : Int) (y18 : List Band) (y19 : List Rect) (y20 : Int) (o : Stp (Int × List Band × List Rect × Int) (List Band)) (h : shape_SetOf_b1 r3 r15 y17 y18 y19 y20 = some o) :
    Runs PG 83 0 shape_SetOf_c1 (shape_SetOf_F1 r3 r15 y17 y18 y19 y20) (shape_SetOf_H1 r3 r15 y17 y18 y19 y20) (stpOc (fun s' => .nor (shape_SetOf_F1 r3 r15 s'.1 s'.2.1 s'.2.2.1 s'.2.2.2) (shape_SetOf_H1 r3 r15 s'.1 s'.2.1 s'.2.2.1 s'.2.2.2)) (shape_SetOf_B1 r3 r15) shape_SetOf_R o) := by
  unfold shape_SetOf_b1 at h
  rcases cnd_e h with ⟨h21, h⟩ | ⟨h21, h⟩
  · obtain ⟨r22, h23, h⟩ := bnd_e h
    rcases aft2_e h with ⟨u39, u40, h41, h⟩ | ⟨r42, h41, h⟩
    · obtain ⟨x43, h44, h⟩ := bnd_e h
      obtain ⟨x45, h46, h⟩ := bnd_e h
      obtain ⟨r47, h48, h⟩ := bnd_e h
      obtain ⟨r49, h50, h⟩ := bnd_e h
      have h := Option.some.inj h
      subst h
      exact Runs.path XTok PGmix [.r [.eq 35 (iA (r15.length : Int))], .b true, .fb 6, .r [.call [(0, 5), (1, 6)] [.v (.rt 0), .v (.c (.fn 21 [.ptr [.sl 1 (List.map e_i64 r15)], .ptr [iC y20]]))] [(0, .row 27 4 (List.map e_Rect y19))] (.t (.v (.rt 1))) [(1, .row 27 4 (List.map e_Rect r22))]], .s (shape_SetOf_F2 r3 r15 y18 y20 y17 r22) (shape_SetOf_H2 r3 r15 y18 y20 y17 r22) [] (shape_SetOf_B2 r3 r15 y18 y20 (u39, u40)), .d [([], []), ([], []), ([], []), ([], [.el [iC x43]]), ([], []), ([], []), ([], []), ([], []), ([], [.el [iC x45]]), ([], []), ([], []), ([6], [.call [(0, 6)] [.v (.rt 0)] [(0, .row 27 4 (List.map e_Rect u40))] (lA 1 (List.map e_i64 r47.1)) [(0, .row 27 4 (List.map e_Rect r47.2))]]), ([], []), ([4], [.call [(0, 4), (1, 7)] [.v (.rt 0), .agg [.c (iC x43), .c (iC x45), .c (.sl 1 (List.map e_i64 r47.1))]] [(0, .row 53 3 (List.map e_Band y18))] (.t (.v (.rt 1))) [(1, .row 53 3 (List.map e_Band r49))]]), ([], [])], .r [], .r [.id 8], .r []] [(4, 7), (5, 6), (6, 8)] (an (leni_eq e_i64 r15) (an h21 (an (an (slices_DeleteFunc_api_Rect_api_Rect_ok y19 21 [.ptr [.sl 1 (List.map e_i64 r15)], .ptr [iC y20]] (fun z0 => shape_SetOf_2 z0 r15 y20) (fun z0 r h => shape_SetOf_2_ok z0 r15 y20 r h) r22 h23) (an (Eq.refl ([.v (.rt 5), .v (.c (.fn 21 [.ptr [.sl 1 (List.map e_i64 r15)], .ptr [iC y20]]))] : List TV)) (Eq.refl (renH (asg [(0, 5), (1, 6)]) [(0, .row 27 4 (List.map e_Rect y19))])))) (an (shape_SetOf_l2 r3 r15 y18 y20 y17 r22 (.fin (u39, u40)) h41) (an (idx_ok e_i64 h44) (an (idx_ok e_i64 h46) (an (an (shape_stretches_ok u40 r47 h48) (an (Eq.refl ([.v (.rt 6)] : List TV)) (Eq.refl (renH (asg [(0, 6)]) [(0, .row 27 4 (List.map e_Rect u40))])))) (an (shape_Set_push_ok y18 (⟨x43, x45, r47.1⟩ : Band) r49 h50) (an (Eq.refl ([.v (.rt 4), .agg [.c (iC x43), .c (iC x45), .c (.sl 1 (List.map e_i64 r47.1))]] : List TV)) (Eq.refl (renH (asg [(0, 4), (1, 7)]) [(0, .row 53 3 (List.map e_Band y18))]))))))))))) (by kernel_rfl)
    · have h := Option.some.inj h
      subst h
      exact Runs.path XTok PGmix [.r [.eq 35 (iA (r15.length : Int))], .b true, .fb 6, .r [.call [(0, 5), (1, 6)] [.v (.rt 0), .v (.c (.fn 21 [.ptr [.sl 1 (List.map e_i64 r15)], .ptr [iC y20]]))] [(0, .row 27 4 (List.map e_Rect y19))] (.t (.v (.rt 1))) [(1, .row 27 4 (List.map e_Rect r22))]], .s (shape_SetOf_F2 r3 r15 y18 y20 y17 r22) (shape_SetOf_H2 r3 r15 y18 y20 y17 r22) [] (shape_SetOf_R r42)] [] (an (leni_eq e_i64 r15) (an h21 (an (an (slices_DeleteFunc_api_Rect_api_Rect_ok y19 21 [.ptr [.sl 1 (List.map e_i64 r15)], .ptr [iC y20]] (fun z0 => shape_SetOf_2 z0 r15 y20) (fun z0 r h => shape_SetOf_2_ok z0 r15 y20 r h) r22 h23) (an (Eq.refl ([.v (.rt 5), .v (.c (.fn 21 [.ptr [.sl 1 (List.map e_i64 r15)], .ptr [iC y20]]))] : List TV)) (Eq.refl (renH (asg [(0, 5), (1, 6)]) [(0, .row 27 4 (List.map e_Rect y19))])))) (shape_SetOf_l2 r3 r15 y18 y20 y17 r22 (.ret r42) h41)))) (by kernel_rfl)
  · have h := Option.some.inj h
    subst h
    exact Runs.path XTok PGmix [.r [.eq 35 (iA (r15.length : Int))], .b false] [] (an (leni_eq e_i64 r15) h21) (by kernel_rfl)
theorem shape_SetOf_l1 (r3 : List Rect) (r15 : List Int) (y17 : Int) (y18 : List Band) (y19 : List Rect) (y20 : Int) (r : Fin' (Int × List Band × List Rect × Int) (List Band)) (h : loop (fun s => shape_SetOf_b1 r3 r15 s.1 s.2.1 s.2.2.1 s.2.2.2) (y17, y18, y19, y20) = some r) : Runs PG 83 0 (cL (cR (cL (cR (cR (cR (cR (cR (cR (cR (cR (cR (cR shape_SetOf_c))))))))))))) (shape_SetOf_F1 r3 r15 y17 y18 y19 y20) (shape_SetOf_H1 r3 r15 y17 y18 y19 y20) (finOc (shape_SetOf_B1 r3 r15) shape_SetOf_R r) :=
  Runs.loop' (by kernel_rfl) (loop_rounds (σ := (Int × List Band × List Rect × Int)) (ρ := (List Band)) (body := fun s => shape_SetOf_b1 r3 r15 s.1 s.2.1 s.2.2.1 s.2.2.2) (F := fun s => shape_SetOf_F1 r3 r15 s.1 s.2.1 s.2.2.1 s.2.2.2) (H := fun s => shape_SetOf_H1 r3 r15 s.1 s.2.1 s.2.2.1 s.2.2.2) (B := shape_SetOf_B1 r3 r15) (R := shape_SetOf_R) (fun _ => rfl) (fun _ => rfl) (fun s o h => shape_SetOf_b1_r r3 r15 s.1 s.2.1 s.2.2.1 s.2.2.2 o h) h)
noncomputable def shape_SetOf (a0 : List Rect) : Option (List Band) :=
 bnd (slices_Clone_api_Rect_api_Rect_new a0) fun r1 =>
 bnd (h_SortFunc_Rect r1) fun r3 =>
 aft1 (forN (fun i5 s => shape_SetOf_b0 r3 i5 s) (r3.length) 0 []) (fun u10 =>
 bnd (h_Sort_int u10) fun r13 =>
 bnd (h_Compact_int r13) fun r15 =>
 aft4 (loop (fun s => shape_SetOf_b1 r3 r15 s.1 s.2.1 s.2.2.1 s.2.2.2) (0, [], [], 0)) (fun u51 u52 u53 u54 =>
 some u52)
 (fun r56 =>
 some r56))
 (fun r12 =>
 some r12)
theorem shape_SetOf_ok (a0 : List Rect) (r : List Band) (h : shape_SetOf a0 = some r) : Spec PG 10 [lT 4 (List.map e_Rect a0)] [] (lA 3 (List.map e_Band r)) [] := by
  unfold shape_SetOf at h
  obtain ⟨r1, h2, h⟩ := bnd_e h
  obtain ⟨r3, h4, h⟩ := bnd_e h
  rcases aft1_e h with ⟨u10, h11, h⟩ | ⟨r12, h11, h⟩
  · obtain ⟨r13, h14, h⟩ := bnd_e h
    obtain ⟨r15, h16, h⟩ := bnd_e h
    rcases aft4_e h with ⟨u51, u52, u53, u54, h55, h⟩ | ⟨r56, h55, h⟩
    · have h := Option.some.inj h
      subst h
      exact Spec.path XTok PGmix shape_SetOf_fn 0 [.r [.nl 3], .r [.call [(0, 0)] [lT 4 (List.map e_Rect a0)] [] (.t (.v (.rt 0))) [(0, .row 27 4 (List.map e_Rect r1))]], .r [.call [(0, 0)] [.v (.rt 0), .v (.c (.fn 17 []))] [(0, .row 27 4 (List.map e_Rect r1))] (.tup []) [(0, .row 27 4 (List.map e_Rect r3))]], .r [.id 1], .r [.eq 15 (iA (r3.length : Int))], .o 1 0 2 3 1, .s (shape_SetOf_F0 r3 0 []) (shape_SetOf_H0 r3 0 []) [] (shape_SetOf_B0 r3 u10), .r [.call [(0, 2)] [.v (.rt 0)] [(0, .row 3 1 (List.map e_i64 u10))] (.tup []) [(0, .row 3 1 (List.map e_i64 r13))]], .r [.call [(0, 2), (1, 3)] [.v (.rt 0)] [(0, .row 3 1 (List.map e_i64 r13))] (.t (.v (.rt 1))) [(1, .row 3 1 (List.map e_i64 r15))]], .r [.mk 4 53 3], .r [.mk 5 27 4], .r [], .r [.id 6], .f 3, .fb 1, .s (shape_SetOf_F1 r3 r15 0 [] [] 0) (shape_SetOf_H1 r3 r15 0 [] [] 0) [] (shape_SetOf_B1 r3 r15 (u51, u52, u53, u54)), .r [], .f 4] (an (an (slices_Clone_api_Rect_api_Rect_new_ok a0 r1 h2) (an (Eq.refl ([lT 4 (List.map e_Rect a0)] : List TV)) (Eq.refl (renH (asg [(0, 0)]) [])))) (an (an (h_SortFunc_Rect_ok r1 17 (by decide) r3 h4) (an (Eq.refl ([.v (.rt 0), .v (.c (.fn 17 []))] : List TV)) (Eq.refl (renH (asg [(0, 0)]) [(0, .row 27 4 (List.map e_Rect r1))])))) (an (leni_eq e_Rect r3) (an (shape_SetOf_l0 r3 [] (.fin u10) h11) (an (an (h_Sort_int_ok u10 r13 h14) (an (Eq.refl ([.v (.rt 2)] : List TV)) (Eq.refl (renH (asg [(0, 2)]) [(0, .row 3 1 (List.map e_i64 u10))])))) (an (an (h_Compact_int_ok r13 r15 h16) (an (Eq.refl ([.v (.rt 2)] : List TV)) (Eq.refl (renH (asg [(0, 2), (1, 3)]) [(0, .row 3 1 (List.map e_i64 r13))])))) (shape_SetOf_l1 r3 r15 0 [] [] 0 (.fin (u51, u52, u53, u54)) h55))))))) (by kernel_rfl)
    · have h := Option.some.inj h
      subst h
      exact Spec.path XTok PGmix shape_SetOf_fn 0 [.r [.nl 3], .r [.call [(0, 0)] [lT 4 (List.map e_Rect a0)] [] (.t (.v (.rt 0))) [(0, .row 27 4 (List.map e_Rect r1))]], .r [.call [(0, 0)] [.v (.rt 0), .v (.c (.fn 17 []))] [(0, .row 27 4 (List.map e_Rect r1))] (.tup []) [(0, .row 27 4 (List.map e_Rect r3))]], .r [.id 1], .r [.eq 15 (iA (r3.length : Int))], .o 1 0 2 3 1, .s (shape_SetOf_F0 r3 0 []) (shape_SetOf_H0 r3 0 []) [] (shape_SetOf_B0 r3 u10), .r [.call [(0, 2)] [.v (.rt 0)] [(0, .row 3 1 (List.map e_i64 u10))] (.tup []) [(0, .row 3 1 (List.map e_i64 r13))]], .r [.call [(0, 2), (1, 3)] [.v (.rt 0)] [(0, .row 3 1 (List.map e_i64 r13))] (.t (.v (.rt 1))) [(1, .row 3 1 (List.map e_i64 r15))]], .r [.mk 4 53 3], .r [.mk 5 27 4], .r [], .r [.id 6], .f 3, .fb 1, .s (shape_SetOf_F1 r3 r15 0 [] [] 0) (shape_SetOf_H1 r3 r15 0 [] [] 0) [] (shape_SetOf_R r56)] (an (an (slices_Clone_api_Rect_api_Rect_new_ok a0 r1 h2) (an (Eq.refl ([lT 4 (List.map e_Rect a0)] : List TV)) (Eq.refl (renH (asg [(0, 0)]) [])))) (an (an (h_SortFunc_Rect_ok r1 17 (by decide) r3 h4) (an (Eq.refl ([.v (.rt 0), .v (.c (.fn 17 []))] : List TV)) (Eq.refl (renH (asg [(0, 0)]) [(0, .row 27 4 (List.map e_Rect r1))])))) (an (leni_eq e_Rect r3) (an (shape_SetOf_l0 r3 [] (.fin u10) h11) (an (an (h_Sort_int_ok u10 r13 h14) (an (Eq.refl ([.v (.rt 2)] : List TV)) (Eq.refl (renH (asg [(0, 2)]) [(0, .row 3 1 (List.map e_i64 u10))])))) (an (an (h_Compact_int_ok r13 r15 h16) (an (Eq.refl ([.v (.rt 2)] : List TV)) (Eq.refl (renH (asg [(0, 2), (1, 3)]) [(0, .row 3 1 (List.map e_i64 r13))])))) (shape_SetOf_l1 r3 r15 0 [] [] 0 (.ret r56) h55))))))) (by kernel_rfl)
  · have h := Option.some.inj h
    subst h
    exact Spec.path XTok PGmix shape_SetOf_fn 0 [.r [.nl 3], .r [.call [(0, 0)] [lT 4 (List.map e_Rect a0)] [] (.t (.v (.rt 0))) [(0, .row 27 4 (List.map e_Rect r1))]], .r [.call [(0, 0)] [.v (.rt 0), .v (.c (.fn 17 []))] [(0, .row 27 4 (List.map e_Rect r1))] (.tup []) [(0, .row 27 4 (List.map e_Rect r3))]], .r [.id 1], .r [.eq 15 (iA (r3.length : Int))], .o 1 0 2 3 1, .s (shape_SetOf_F0 r3 0 []) (shape_SetOf_H0 r3 0 []) [] (shape_SetOf_R r12)] (an (an (slices_Clone_api_Rect_api_Rect_new_ok a0 r1 h2) (an (Eq.refl ([lT 4 (List.map e_Rect a0)] : List TV)) (Eq.refl (renH (asg [(0, 0)]) [])))) (an (an (h_SortFunc_Rect_ok r1 17 (by decide) r3 h4) (an (Eq.refl ([.v (.rt 0), .v (.c (.fn 17 []))] : List TV)) (Eq.refl (renH (asg [(0, 0)]) [(0, .row 27 4 (List.map e_Rect r1))])))) (an (leni_eq e_Rect r3) (shape_SetOf_l0 r3 [] (.ret r12) h11)))) (by kernel_rfl)

noncomputable def shape_isRect_c : Code := (Go.Proofs.Try.f24.body).getD .skip
theorem shape_isRect_fn : FnOk PG 24 shape_isRect_c 21 [.tmp 2] := ⟨⟨Go.Proofs.Try.f24, by kernel_rfl, by kernel_rfl, by kernel_rfl, by kernel_rfl, by kernel_rfl⟩⟩
noncomputable def shape_isRect (a0 : Rect) : Option Bool :=
 bnd1 (bnd (shape_IsAt a0.X0) fun r4 =>
 cnd r4 (bnd (shape_IsAt a0.Y0) fun r7 =>
 cnd r7 (bnd (shape_IsAt a0.X1) fun r10 =>
 cnd r10 (bnd (shape_IsAt a0.Y1) fun r13 =>
 some r13) (some false)) (some false)) (some false)) fun v1 =>
 some v1
theorem shape_isRect_ok (a0 : Rect) (r : Bool) (h : shape_isRect a0 = some r) : Spec PG 24 [gT (e_Rect a0)] [] (bA r) [] := by
  unfold shape_isRect at h
  obtain ⟨v1, h2, h⟩ := bnd1_e h
  let q15_f : Fr := [(1, .t (.v (.ptr 0 0)))]
  let q15_g : Hp := [(0, .cells 27 [.c (iC a0.X0), .c (iC a0.Y0), .c (iC a0.X1), .c (iC a0.Y1)])]
  let q15_f' : Fr := [(2, bA v1)]
  let q15_g' : Hp := []
  have R3 : Runs PG 21 0 (cL (cR shape_isRect_c)) q15_f q15_g (.nor q15_f' q15_g') := by
    obtain ⟨r4, h5, h2⟩ := bnd_e h2
    rcases cnd_e h2 with ⟨h6, h2⟩ | ⟨h6, h2⟩
    · obtain ⟨r7, h8, h2⟩ := bnd_e h2
      rcases cnd_e h2 with ⟨h9, h2⟩ | ⟨h9, h2⟩
      · obtain ⟨r10, h11, h2⟩ := bnd_e h2
        rcases cnd_e h2 with ⟨h12, h2⟩ | ⟨h12, h2⟩
        · obtain ⟨r13, h14, h2⟩ := bnd_e h2
          have h2 := Option.some.inj h2
          subst h2
          exact Runs.path XTok PGmix [.r [.val (bA r4), .b true, .b true, .b true, .val (bA r7), .b true, .b true, .b true, .b true, .val (bA r10), .b true, .b true, .b true, .b true, .val (bA r13), .b true]] [] (an (shape_IsAt_ok a0.X0 r4 h5) (an h6 (an h6 (an h6 (an (shape_IsAt_ok a0.Y0 r7 h8) (an h6 (an h9 (an h9 (an h9 (an (shape_IsAt_ok a0.X1 r10 h11) (an h9 (an h12 (an h12 (an h12 (an (shape_IsAt_ok a0.Y1 r13 h14) h12))))))))))))))) (by kernel_rfl)
        · have h2 := Option.some.inj h2
          subst h2
          exact Runs.path XTok PGmix [.r [.val (bA r4), .b true, .b true, .b true, .val (bA r7), .b true, .b true, .b true, .b true, .val (bA r10), .b true, .b false, .b false, .b false, .b false]] [] (an (shape_IsAt_ok a0.X0 r4 h5) (an h6 (an h6 (an h6 (an (shape_IsAt_ok a0.Y0 r7 h8) (an h6 (an h9 (an h9 (an h9 (an (shape_IsAt_ok a0.X1 r10 h11) (an h9 (an h12 (an h12 (an h12 h12)))))))))))))) (by kernel_rfl)
      · have h2 := Option.some.inj h2
        subst h2
        exact Runs.path XTok PGmix [.r [.val (bA r4), .b true, .b true, .b true, .val (bA r7), .b true, .b false, .b false, .b false, .b false, .b false, .b false, .b false, .b false]] [] (an (shape_IsAt_ok a0.X0 r4 h5) (an h6 (an h6 (an h6 (an (shape_IsAt_ok a0.Y0 r7 h8) (an h6 (an h9 (an h9 (an h9 (an h9 (an (Eq.refl false) (an (Eq.refl false) (an (Eq.refl false) (Eq.refl false)))))))))))))) (by kernel_rfl)
    · have h2 := Option.some.inj h2
      subst h2
      exact Runs.path XTok PGmix [.r [.val (bA r4), .b false, .b false, .b false, .b false, .b false, .b false, .b false, .b false, .b false, .b false, .b false, .b false]] [] (an (shape_IsAt_ok a0.X0 r4 h5) (an h6 (an h6 (an h6 (an h6 (an (Eq.refl false) (an (Eq.refl false) (an (Eq.refl false) (an (Eq.refl false) (an (Eq.refl false) (an (Eq.refl false) (an (Eq.refl false) (Eq.refl false))))))))))))) (by kernel_rfl)
  have h := Option.some.inj h
  subst h
  exact Spec.path XTok PGmix shape_isRect_fn 0 [.r [.id 0], .s q15_f q15_g [] (.nor q15_f' q15_g')] R3 (by kernel_rfl)

noncomputable def shape_Set_Around_c : Code := (Go.Proofs.Try.f25.body).getD .skip
theorem shape_Set_Around_fn : FnOk PG 25 shape_Set_Around_c 58 [.cell 2 27] := ⟨⟨Go.Proofs.Try.f25, by kernel_rfl, by kernel_rfl, by kernel_rfl, by kernel_rfl, by kernel_rfl⟩⟩
noncomputable def shape_Set_Around_c0 : Code := cL (cL (cR (cL (cR (cR shape_Set_Around_c)))))
noncomputable def shape_Set_Around_R (r : Rect) : Oc := .ret [(2, .t (.v (.ptr 0 0)))] [(0, .cells 27 [.c (iC r.X0), .c (iC r.Y0), .c (iC r.X1), .c (iC r.Y1)])]
noncomputable def shape_Set_Around_F0 (a0 : List Band) (x5 : Band) (x11 : Band) (i13 : Nat) (y14 : Int) (y15 : Int) : Fr := [(2, .t (.v (.ptr 0 0))), (3, .t (.v (.ptr 1 0))), (30, lA 3 (List.map e_Band a0)), (31, iA (a0.length : Int)), (32, iA (i13 : Int))]
noncomputable def shape_Set_Around_H0 (a0 : List Band) (x5 : Band) (x11 : Band) (i13 : Nat) (y14 : Int) (y15 : Int) : Hp := [(0, .cells 27 [.c (iC 0), .c (iC 0), .c (iC 0), .c (iC 0)]), (1, .cells 27 [.c (iC y14), .c (iC x5.Y0), .c (iC y15), .c (iC x11.Y1)])]
noncomputable def shape_Set_Around_B0 (a0 : List Band) (x5 : Band) (x11 : Band) (s : Int × Int) : Oc := .ex 0 [(2, .t (.v (.ptr 0 0))), (3, .t (.v (.ptr 1 0)))] [(0, .cells 27 [.c (iC 0), .c (iC 0), .c (iC 0), .c (iC 0)]), (1, .cells 27 [.c (iC s.1), .c (iC x5.Y0), .c (iC s.2), .c (iC x11.Y1)])]
noncomputable def shape_Set_Around_b0 (a0 : List Band) (x5 : Band) (x11 : Band) (i13 : Nat) (y14 : Int) (y15 : Int) : Option (Stp (Int × Int) Rect) :=
 bnd (atI a0 (i13 : Int)) fun x16 =>
 bnd (atI x16.Xs 0) fun x18 =>
 bnd (atI x16.Xs (w64 ((x16.Xs.length : Int) - 1))) fun x20 =>
 some (.go (mn y14 x18, mx y15 x20))
theorem shape_Set_Around_b0_r (a0 : List Band) (x5 : Band) (x11 : Band) (i13 : Nat) (y14 : Int) (y15 : Int) (o : Stp (Int × Int) Rect) (hi : i13 < a0.length) (h : shape_Set_Around_b0 a0 x5 x11 i13 y14 y15 = some o) :
    Runs PG 58 0 shape_Set_Around_c0 (shape_Set_Around_F0 a0 x5 x11 i13 y14 y15) (shape_Set_Around_H0 a0 x5 x11 i13 y14 y15) (stpOc (fun s' => .nor (shape_Set_Around_F0 a0 x5 x11 (i13 + 1) s'.1 s'.2) (shape_Set_Around_H0 a0 x5 x11 (i13 + 1) s'.1 s'.2)) (shape_Set_Around_B0 a0 x5 x11) shape_Set_Around_R o) := by
  unfold shape_Set_Around_b0 at h
  refine Runs.len (s := 30) (sz := 3) (xs := List.map e_Band a0) (by kernel_rfl) fun hl => ?_
  have hM : a0.length ≤ lim := len_of hl
  obtain ⟨x16, h17, h⟩ := bnd_e h
  obtain ⟨x18, h19, h⟩ := bnd_e h
  obtain ⟨x20, h21, h⟩ := bnd_e h
  have h := Option.some.inj h
  subst h
  exact Runs.path XTok PGmix [.r [], .b true, .r [.el (e_Band x16), .id 2], .d [([], []), ([1], []), ([], []), ([2], []), ([], [.el [iC x18]]), ([], []), ([], []), ([], []), ([1], []), ([], []), ([2], []), ([], []), ([2], []), ([], [.eq 49 (iA (x16.Xs.length : Int))]), ([], []), ([], [.el [iC x20]]), ([], []), ([], []), ([], []), ([1], []), ([], []), ([1], [])], .r [.eq 56 (iA ((i13 + 1 : Nat) : Int))]] [] (an (lt_true hi) (an (idx_ok e_Band h17) (an (idx_ok e_i64 h19) (an (leni_eq e_i64 x16.Xs) (an (idx_ok e_i64 h21) (wrap_eq hi hM)))))) (by kernel_rfl)
theorem shape_Set_Around_b0_e (a0 : List Band) (x5 : Band) (x11 : Band) (y14 : Int) (y15 : Int) : Runs PG 58 0 shape_Set_Around_c0 (shape_Set_Around_F0 a0 x5 x11 (a0.length) y14 y15) (shape_Set_Around_H0 a0 x5 x11 (a0.length) y14 y15) (shape_Set_Around_B0 a0 x5 x11 (y14, y15)) := by
  exact Runs.path XTok PGmix [.r [], .b false] [] (lt_false (a0.length)) (by kernel_rfl)
theorem shape_Set_Around_l0 (a0 : List Band) (x5 : Band) (x11 : Band) (y14 : Int) (y15 : Int) (r : Fin' (Int × Int) Rect) (h : forN (fun i13 s => shape_Set_Around_b0 a0 x5 x11 i13 s.1 s.2) (a0.length) 0 (y14, y15) = some r) : Runs PG 58 0 (cL (cR (cL (cR (cR shape_Set_Around_c))))) (shape_Set_Around_F0 a0 x5 x11 0 y14 y15) (shape_Set_Around_H0 a0 x5 x11 0 y14 y15) (finOc (shape_Set_Around_B0 a0 x5 x11) shape_Set_Around_R r) :=
  Runs.loop' (by kernel_rfl) (forN_rounds (σ := (Int × Int)) (ρ := Rect) (body := fun i13 s => shape_Set_Around_b0 a0 x5 x11 i13 s.1 s.2) (F := fun i13 s => shape_Set_Around_F0 a0 x5 x11 i13 s.1 s.2) (H := fun i13 s => shape_Set_Around_H0 a0 x5 x11 i13 s.1 s.2) (B := shape_Set_Around_B0 a0 x5 x11) (R := shape_Set_Around_R) (M := a0.length) (fun _ => rfl) (fun _ => rfl) (fun s => shape_Set_Around_b0_e a0 x5 x11 s.1 s.2) (fun i s o hi h => shape_Set_Around_b0_r a0 x5 x11 i s.1 s.2 o hi h) _ 0 _ r (Nat.zero_add _) h)
noncomputable def shape_Set_Around (a0 : List Band) : Option Rect :=
 bnd (atI a0 0) fun x1 =>
 bnd (atI x1.Xs 0) fun x3 =>
 bnd (atI a0 0) fun x5 =>
 bnd (atI a0 0) fun x7 =>
 bnd (atI x7.Xs 1) fun x9 =>
 bnd (atI a0 (w64 ((a0.length : Int) - 1))) fun x11 =>
 aft2 (forN (fun i13 s => shape_Set_Around_b0 a0 x5 x11 i13 s.1 s.2) (a0.length) 0 (x3, x9)) (fun u22 u23 =>
 some (⟨u22, x5.Y0, u23, x11.Y1⟩ : Rect))
 (fun r25 =>
 some r25)
theorem shape_Set_Around_ok (a0 : List Band) (r : Rect) (h : shape_Set_Around a0 = some r) : Spec PG 25 [lT 3 (List.map e_Band a0)] [] (.t (gT (e_Rect r))) [] := by
  unfold shape_Set_Around at h
  obtain ⟨x1, h2, h⟩ := bnd_e h
  obtain ⟨x3, h4, h⟩ := bnd_e h
  obtain ⟨x5, h6, h⟩ := bnd_e h
  obtain ⟨x7, h8, h⟩ := bnd_e h
  obtain ⟨x9, h10, h⟩ := bnd_e h
  obtain ⟨x11, h12, h⟩ := bnd_e h
  rcases aft2_e h with ⟨u22, u23, h24, h⟩ | ⟨r25, h24, h⟩
  · have h := Option.some.inj h
    subst h
    exact Spec.path XTok PGmix shape_Set_Around_fn 0 [.r [.id 0], .d [([], []), ([], [.el (e_Band x1)]), ([], []), ([], []), ([], [.el [iC x3]]), ([], []), ([], []), ([], [.el (e_Band x5)]), ([], []), ([], []), ([], []), ([], [.el (e_Band x7)]), ([], []), ([], []), ([], [.el [iC x9]]), ([], []), ([], []), ([], []), ([], [.eq 24 (iA (a0.length : Int))]), ([], []), ([], [.el (e_Band x11)]), ([], []), ([], []), ([], []), ([], [.id 1]), ([1], [])], .r [.eq 31 (iA (a0.length : Int))], .s (shape_Set_Around_F0 a0 x5 x11 0 x3 x9) (shape_Set_Around_H0 a0 x5 x11 0 x3 x9) [] (shape_Set_Around_B0 a0 x5 x11 (u22, u23)), .r []] (an (idx_ok e_Band h2) (an (idx_ok e_i64 h4) (an (idx_ok e_Band h6) (an (idx_ok e_Band h8) (an (idx_ok e_i64 h10) (an (leni_eq e_Band a0) (an (idx_ok e_Band h12) (an (leni_eq e_Band a0) (shape_Set_Around_l0 a0 x5 x11 x3 x9 (.fin (u22, u23)) h24))))))))) (by kernel_rfl)
  · have h := Option.some.inj h
    subst h
    exact Spec.path XTok PGmix shape_Set_Around_fn 0 [.r [.id 0], .d [([], []), ([], [.el (e_Band x1)]), ([], []), ([], []), ([], [.el [iC x3]]), ([], []), ([], []), ([], [.el (e_Band x5)]), ([], []), ([], []), ([], []), ([], [.el (e_Band x7)]), ([], []), ([], []), ([], [.el [iC x9]]), ([], []), ([], []), ([], []), ([], [.eq 24 (iA (a0.length : Int))]), ([], []), ([], [.el (e_Band x11)]), ([], []), ([], []), ([], []), ([], [.id 1]), ([1], [])], .r [.eq 31 (iA (a0.length : Int))], .s (shape_Set_Around_F0 a0 x5 x11 0 x3 x9) (shape_Set_Around_H0 a0 x5 x11 0 x3 x9) [] (shape_Set_Around_R r25)] (an (idx_ok e_Band h2) (an (idx_ok e_i64 h4) (an (idx_ok e_Band h6) (an (idx_ok e_Band h8) (an (idx_ok e_i64 h10) (an (leni_eq e_Band a0) (an (idx_ok e_Band h12) (an (leni_eq e_Band a0) (shape_Set_Around_l0 a0 x5 x11 x3 x9 (.ret r25) h24))))))))) (by kernel_rfl)

noncomputable def shape_Set_Fits_c : Code := (Go.Proofs.Try.f11.body).getD .skip
theorem shape_Set_Fits_fn : FnOk PG 11 shape_Set_Fits_c 11 [.tmp 2] := ⟨⟨Go.Proofs.Try.f11, by kernel_rfl, by kernel_rfl, by kernel_rfl, by kernel_rfl, by kernel_rfl⟩⟩
noncomputable def shape_Set_Fits (a0 : List Band) : Option Bool :=
 bnd1 (cnd ((a0.length : Int) == 0) (some true) (bnd (shape_Set_Around a0) fun r5 =>
 bnd (shape_isRect r5) fun r7 =>
 some r7)) fun v1 =>
 some v1
theorem shape_Set_Fits_ok (a0 : List Band) (r : Bool) (h : shape_Set_Fits a0 = some r) : Spec PG 11 [lT 3 (List.map e_Band a0)] [] (bA r) [] := by
  unfold shape_Set_Fits at h
  obtain ⟨v1, h2, h⟩ := bnd1_e h
  let q9_f : Fr := [(0, lA 3 (List.map e_Band a0))]
  let q9_g : Hp := []
  let q9_f' : Fr := [(2, bA v1)]
  let q9_g' : Hp := []
  have R3 : Runs PG 11 0 (cL (cR shape_Set_Fits_c)) q9_f q9_g (.nor q9_f' q9_g') := by
    rcases cnd_e h2 with ⟨h4, h2⟩ | ⟨h4, h2⟩
    · have h2 := Option.some.inj h2
      subst h2
      exact Runs.path XTok PGmix [.r [.eq 4 (iA (a0.length : Int)), .b true, .b true, .b true, .b true]] [] (an (leni_eq e_Band a0) (an h4 (an h4 (an h4 h4)))) (by kernel_rfl)
    · obtain ⟨r5, h6, h2⟩ := bnd_e h2
      obtain ⟨r7, h8, h2⟩ := bnd_e h2
      have h2 := Option.some.inj h2
      subst h2
      exact Runs.path XTok PGmix [.r [.eq 4 (iA (a0.length : Int)), .b false, .b false, .val (.t (gT (e_Rect r5))), .b false, .val (bA r7), .b false]] [] (an (leni_eq e_Band a0) (an h4 (an h4 (an (shape_Set_Around_ok a0 r5 h6) (an h4 (an (shape_isRect_ok r5 r7 h8) h4)))))) (by kernel_rfl)
  have h := Option.some.inj h
  subst h
  exact Spec.path XTok PGmix shape_Set_Fits_fn 0 [.r [], .s q9_f q9_g [] (.nor q9_f' q9_g')] R3 (by kernel_rfl)

noncomputable def copper_Square_c : Code := (Go.Proofs.Try.f4.body).getD .skip
theorem copper_Square_fn : FnOk PG 4 copper_Square_c 25 [.cell 2 27, .tmp 3] := ⟨⟨Go.Proofs.Try.f4, by kernel_rfl, by kernel_rfl, by kernel_rfl, by kernel_rfl, by kernel_rfl⟩⟩
noncomputable def copper_Square (a0 : Bore) : Option (Rect × Int) :=
 bnd1 (bnd (copper_within a0.Size 1 10000) fun r4 =>
 cnd (!r4) (some true) (bnd (shape_IsPoint a0.At) fun r7 =>
 some (!r7))) fun v1 =>
 cnd v1 (some ((⟨0, 0, 0, 0⟩ : Rect), 1)) (bnd (copper_SquareOf a0) fun r11 =>
 bnd (shape_SetOf [r11]) fun r13 =>
 bnd (shape_Set_Fits r13) fun r15 =>
 cnd (!r15) (some ((⟨0, 0, 0, 0⟩ : Rect), 1)) (some (r11, 0)))
theorem copper_Square_ok (a0 : Bore) (r : Rect × Int) (h : copper_Square a0 = some r) : Spec PG 4 [gT (e_Bore a0)] [] (.tup [gT (e_Rect r.1), iT r.2]) [] := by
  unfold copper_Square at h
  obtain ⟨v1, h2, h⟩ := bnd1_e h
  let q9_f : Fr := [(1, .t (.v (.ptr 0 0))), (2, .t (.v (.ptr 1 0)))]
  let q9_g : Hp := [(0, .cells 25 [.c (iC a0.At.X), .c (iC a0.At.Y), .c (iC a0.Size), .c (iC a0.From), .c (iC a0.To), .c (bC a0.Plated)]), (1, .cells 27 [.c (iC 0), .c (iC 0), .c (iC 0), .c (iC 0)])]
  let q9_f' : Fr := [(1, .t (.v (.ptr 0 0))), (2, .t (.v (.ptr 1 0))), (14, bA v1)]
  let q9_g' : Hp := [(0, .cells 25 [.c (iC a0.At.X), .c (iC a0.At.Y), .c (iC a0.Size), .c (iC a0.From), .c (iC a0.To), .c (bC a0.Plated)]), (1, .cells 27 [.c (iC 0), .c (iC 0), .c (iC 0), .c (iC 0)])]
  have R3 : Runs PG 25 0 (cL (cL (cR copper_Square_c))) q9_f q9_g (.nor q9_f' q9_g') := by
    obtain ⟨r4, h5, h2⟩ := bnd_e h2
    rcases cnd_e h2 with ⟨h6, h2⟩ | ⟨h6, h2⟩
    · have h2 := Option.some.inj h2
      subst h2
      exact Runs.path XTok PGmix [.r [.val (bA r4), .b true, .b true, .b true, .b true, .b true]] [] (an (copper_within_ok a0.Size 1 10000 r4 h5) (an h6 (an h6 (an h6 (an h6 h6))))) (by kernel_rfl)
    · obtain ⟨r7, h8, h2⟩ := bnd_e h2
      have h2 := Option.some.inj h2
      subst h2
      exact Runs.path XTok PGmix [.r [.val (bA r4), .b false, .b false, .b false, .val (bA r7), .b false, .b false]] [] (an (copper_within_ok a0.Size 1 10000 r4 h5) (an h6 (an h6 (an h6 (an (shape_IsPoint_ok a0.At r7 h8) (an h6 h6)))))) (by kernel_rfl)
  rcases cnd_e h with ⟨h10, h⟩ | ⟨h10, h⟩
  · have h := Option.some.inj h
    subst h
    exact Spec.path XTok PGmix copper_Square_fn 0 [.r [.id 0, .id 1], .s q9_f q9_g [] (.nor q9_f' q9_g'), .b true, .r [], .w [(2, .t (.v (.ptr 0 0))), (3, iA 1)] [(0, .cells 27 [.c (iC 0), .c (iC 0), .c (iC 0), .c (iC 0)])] [(0, 1)]] (an R3 h10) (by kernel_rfl)
  · obtain ⟨r11, h12, h⟩ := bnd_e h
    obtain ⟨r13, h14, h⟩ := bnd_e h
    obtain ⟨r15, h16, h⟩ := bnd_e h
    rcases cnd_e h with ⟨h17, h⟩ | ⟨h17, h⟩
    · have h := Option.some.inj h
      subst h
      exact Spec.path XTok PGmix copper_Square_fn 0 [.r [.id 0, .id 1], .s q9_f q9_g [] (.nor q9_f' q9_g'), .b false, .r [.val (.t (gT (e_Rect r11))), .id 2], .r [.id 3, .row (List.map e_Rect [r11]), .fz 3, .val (lA 3 (List.map e_Band r13)), .val (bA r15)], .b true, .r [], .w [(2, .t (.v (.ptr 0 0))), (3, iA 1)] [(0, .cells 27 [.c (iC 0), .c (iC 0), .c (iC 0), .c (iC 0)])] [(0, 1)]] (an R3 (an h10 (an (copper_SquareOf_ok a0 r11 h12) (an (Eq.refl (List.flatten (List.map e_Rect [r11]))) (an (shape_SetOf_ok [r11] r13 h14) (an (shape_Set_Fits_ok r13 r15 h16) h17)))))) (by kernel_rfl)
    · have h := Option.some.inj h
      subst h
      exact Spec.path XTok PGmix copper_Square_fn 0 [.r [.id 0, .id 1], .s q9_f q9_g [] (.nor q9_f' q9_g'), .b false, .r [.val (.t (gT (e_Rect r11))), .id 2], .r [.id 3, .row (List.map e_Rect [r11]), .fz 3, .val (lA 3 (List.map e_Band r13)), .val (bA r15)], .b false, .r [], .w [(2, .t (.v (.ptr 0 0))), (3, iA 0)] [(0, .cells 27 [.c (iC r11.X0), .c (iC r11.Y0), .c (iC r11.X1), .c (iC r11.Y1)])] [(0, 1)]] (an R3 (an h10 (an (copper_SquareOf_ok a0 r11 h12) (an (Eq.refl (List.flatten (List.map e_Rect [r11]))) (an (shape_SetOf_ok [r11] r13 h14) (an (shape_Set_Fits_ok r13 r15 h16) h17)))))) (by kernel_rfl)

noncomputable def ref5_SquareOf_c : Code := (Go.Proofs.Try.f13.body).getD .skip
theorem ref5_SquareOf_fn : FnOk PG 13 ref5_SquareOf_c 30 [.cell 2 27] := ⟨⟨Go.Proofs.Try.f13, by kernel_rfl, by kernel_rfl, by kernel_rfl, by kernel_rfl, by kernel_rfl⟩⟩
noncomputable def ref5_SquareOf (a0 : Bore) : Option Rect :=
 grd (2 ≠ (0 : Int)) <|
 grd (2 ≠ (0 : Int)) <|
 some (⟨w64 (a0.At.X - (w64 (a0.Size.tdiv 2))), w64 (a0.At.Y - (w64 (a0.Size.tdiv 2))), w64 ((w64 (a0.At.X - (w64 (a0.Size.tdiv 2)))) + a0.Size), w64 ((w64 (a0.At.Y - (w64 (a0.Size.tdiv 2)))) + a0.Size)⟩ : Rect)
theorem ref5_SquareOf_ok (a0 : Bore) (r : Rect) (h : ref5_SquareOf a0 = some r) : Spec PG 13 [gT (e_Bore a0)] [] (.t (gT (e_Rect r))) [] := by
  unfold ref5_SquareOf at h
  obtain ⟨h1, h⟩ := grd_e h
  obtain ⟨h2, h⟩ := grd_e h
  have h := Option.some.inj h
  subst h
  exact Spec.path XTok PGmix ref5_SquareOf_fn 0 [.r [.id 0, .id 1], .d [([], []), ([], []), ([0], []), ([], []), ([0], []), ([], []), ([], []), ([], []), ([], []), ([0], []), ([], []), ([0], []), ([], []), ([], []), ([], []), ([], [])], .r [], .w [(2, .t (.v (.ptr 0 0)))] [(0, .cells 27 [.c (iC (w64 (a0.At.X - (w64 (a0.Size.tdiv 2))))), .c (iC (w64 (a0.At.Y - (w64 (a0.Size.tdiv 2))))), .c (iC (w64 ((w64 (a0.At.X - (w64 (a0.Size.tdiv 2)))) + a0.Size))), .c (iC (w64 ((w64 (a0.At.Y - (w64 (a0.Size.tdiv 2)))) + a0.Size)))])] [(0, 1)]] (an h1 h2) (by kernel_rfl)

noncomputable def ref5_within_c : Code := (Go.Proofs.Try.f26.body).getD .skip
theorem ref5_within_fn : FnOk PG 26 ref5_within_c 15 [.tmp 6] := ⟨⟨Go.Proofs.Try.f26, by kernel_rfl, by kernel_rfl, by kernel_rfl, by kernel_rfl, by kernel_rfl⟩⟩
noncomputable def ref5_within (a0 : Int) (a1 : Int) (a2 : Int) : Option Bool :=
 bnd1 (cnd (decide (a0 ≥ a1)) (some (decide (a0 ≤ a2))) (some false)) fun v1 =>
 some v1
theorem ref5_within_ok (a0 : Int) (a1 : Int) (a2 : Int) (r : Bool) (h : ref5_within a0 a1 a2 = some r) : Spec PG 26 [iT a0, iT a1, iT a2] [] (bA r) [] := by
  unfold ref5_within at h
  obtain ⟨v1, h2, h⟩ := bnd1_e h
  let q5_f : Fr := [(0, iA a0), (1, iA a1), (2, iA a2)]
  let q5_g : Hp := []
  let q5_f' : Fr := [(6, bA v1)]
  let q5_g' : Hp := []
  have R3 : Runs PG 15 0 (cL (cR ref5_within_c)) q5_f q5_g (.nor q5_f' q5_g') := by
    rcases cnd_e h2 with ⟨h4, h2⟩ | ⟨h4, h2⟩
    · have h2 := Option.some.inj h2
      subst h2
      exact Runs.path XTok PGmix [.r [.b true, .b true, .b true, .b true]] [] (an h4 (an h4 (an h4 h4))) (by kernel_rfl)
    · have h2 := Option.some.inj h2
      subst h2
      exact Runs.path XTok PGmix [.r [.b false, .b false, .b false, .b false]] [] (an h4 (an h4 (an h4 h4))) (by kernel_rfl)
  have h := Option.some.inj h
  subst h
  exact Spec.path XTok PGmix ref5_within_fn 0 [.r [], .s q5_f q5_g [] (.nor q5_f' q5_g')] R3 (by kernel_rfl)

noncomputable def ref1_within_c : Code := (Go.Proofs.Try.f36.body).getD .skip
theorem ref1_within_fn : FnOk PG 36 ref1_within_c 15 [.tmp 6] := ⟨⟨Go.Proofs.Try.f36, by kernel_rfl, by kernel_rfl, by kernel_rfl, by kernel_rfl, by kernel_rfl⟩⟩
noncomputable def ref1_within (a0 : Int) (a1 : Int) (a2 : Int) : Option Bool :=
 bnd1 (cnd (decide (a0 ≥ a1)) (some (decide (a0 ≤ a2))) (some false)) fun v1 =>
 some v1
theorem ref1_within_ok (a0 : Int) (a1 : Int) (a2 : Int) (r : Bool) (h : ref1_within a0 a1 a2 = some r) : Spec PG 36 [iT a0, iT a1, iT a2] [] (bA r) [] := by
  unfold ref1_within at h
  obtain ⟨v1, h2, h⟩ := bnd1_e h
  let q5_f : Fr := [(0, iA a0), (1, iA a1), (2, iA a2)]
  let q5_g : Hp := []
  let q5_f' : Fr := [(6, bA v1)]
  let q5_g' : Hp := []
  have R3 : Runs PG 15 0 (cL (cR ref1_within_c)) q5_f q5_g (.nor q5_f' q5_g') := by
    rcases cnd_e h2 with ⟨h4, h2⟩ | ⟨h4, h2⟩
    · have h2 := Option.some.inj h2
      subst h2
      exact Runs.path XTok PGmix [.r [.b true, .b true, .b true, .b true]] [] (an h4 (an h4 (an h4 h4))) (by kernel_rfl)
    · have h2 := Option.some.inj h2
      subst h2
      exact Runs.path XTok PGmix [.r [.b false, .b false, .b false, .b false]] [] (an h4 (an h4 (an h4 h4))) (by kernel_rfl)
  have h := Option.some.inj h
  subst h
  exact Spec.path XTok PGmix ref1_within_fn 0 [.r [], .s q5_f q5_g [] (.nor q5_f' q5_g')] R3 (by kernel_rfl)

noncomputable def ref1_At_c : Code := (Go.Proofs.Try.f28.body).getD .skip
theorem ref1_At_fn : FnOk PG 28 ref1_At_c 5 [.tmp 2] := ⟨⟨Go.Proofs.Try.f28, by kernel_rfl, by kernel_rfl, by kernel_rfl, by kernel_rfl, by kernel_rfl⟩⟩
noncomputable def ref1_At (a0 : Int) : Option Bool :=
 bnd (ref1_within a0 (-1000000) 1000000) fun r1 =>
 some r1
theorem ref1_At_ok (a0 : Int) (r : Bool) (h : ref1_At a0 = some r) : Spec PG 28 [iT a0] [] (bA r) [] := by
  unfold ref1_At at h
  obtain ⟨r1, h2, h⟩ := bnd_e h
  have h := Option.some.inj h
  subst h
  exact Spec.path XTok PGmix ref1_At_fn 0 [.r [], .r [.val (bA r1)]] (ref1_within_ok a0 (-1000000) 1000000 r1 h2) (by kernel_rfl)

noncomputable def ref1_IsPoint_c : Code := (Go.Proofs.Try.f27.body).getD .skip
theorem ref1_IsPoint_fn : FnOk PG 27 ref1_IsPoint_c 11 [.tmp 2] := ⟨⟨Go.Proofs.Try.f27, by kernel_rfl, by kernel_rfl, by kernel_rfl, by kernel_rfl, by kernel_rfl⟩⟩
noncomputable def ref1_IsPoint (a0 : Point) : Option Bool :=
 bnd1 (bnd (ref1_At a0.X) fun r4 =>
 cnd r4 (bnd (ref1_At a0.Y) fun r7 =>
 some r7) (some false)) fun v1 =>
 some v1
theorem ref1_IsPoint_ok (a0 : Point) (r : Bool) (h : ref1_IsPoint a0 = some r) : Spec PG 27 [gT (e_Point a0)] [] (bA r) [] := by
  unfold ref1_IsPoint at h
  obtain ⟨v1, h2, h⟩ := bnd1_e h
  let q9_f : Fr := [(1, .t (.v (.ptr 0 0)))]
  let q9_g : Hp := [(0, .cells 23 [.c (iC a0.X), .c (iC a0.Y)])]
  let q9_f' : Fr := [(2, bA v1)]
  let q9_g' : Hp := []
  have R3 : Runs PG 11 0 (cL (cR ref1_IsPoint_c)) q9_f q9_g (.nor q9_f' q9_g') := by
    obtain ⟨r4, h5, h2⟩ := bnd_e h2
    rcases cnd_e h2 with ⟨h6, h2⟩ | ⟨h6, h2⟩
    · obtain ⟨r7, h8, h2⟩ := bnd_e h2
      have h2 := Option.some.inj h2
      subst h2
      exact Runs.path XTok PGmix [.r [.val (bA r4), .b true, .b true, .b true, .val (bA r7), .b true]] [] (an (ref1_At_ok a0.X r4 h5) (an h6 (an h6 (an h6 (an (ref1_At_ok a0.Y r7 h8) h6))))) (by kernel_rfl)
    · have h2 := Option.some.inj h2
      subst h2
      exact Runs.path XTok PGmix [.r [.val (bA r4), .b false, .b false, .b false, .b false]] [] (an (ref1_At_ok a0.X r4 h5) (an h6 (an h6 (an h6 h6)))) (by kernel_rfl)
  have h := Option.some.inj h
  subst h
  exact Spec.path XTok PGmix ref1_IsPoint_fn 0 [.r [.id 0], .s q9_f q9_g [] (.nor q9_f' q9_g')] R3 (by kernel_rfl)

noncomputable def ref5_checkSquare_c : Code := (Go.Proofs.Try.f12.body).getD .skip
theorem ref5_checkSquare_fn : FnOk PG 12 ref5_checkSquare_c 38 [.tmp 2] := ⟨⟨Go.Proofs.Try.f12, by kernel_rfl, by kernel_rfl, by kernel_rfl, by kernel_rfl, by kernel_rfl⟩⟩
noncomputable def ref5_checkSquare (a0 : Bore) : Option Int :=
 bnd1 (bnd (ref5_within a0.Size 1 10000) fun r4 =>
 cnd (!r4) (some true) (bnd (ref1_IsPoint a0.At) fun r7 =>
 some (!r7))) fun v1 =>
 cnd v1 (some 1) (bnd (ref5_SquareOf a0) fun r11 =>
 bnd1 (bnd (ref1_At r11.X0) fun r16 =>
 cnd (!r16) (some true) (bnd (ref1_At r11.Y0) fun r19 =>
 cnd (!r19) (some true) (bnd (ref1_At r11.X1) fun r22 =>
 cnd (!r22) (some true) (bnd (ref1_At r11.Y1) fun r25 =>
 some (!r25))))) fun v13 =>
 cnd v13 (some 1) (some 0))
theorem ref5_checkSquare_ok (a0 : Bore) (r : Int) (h : ref5_checkSquare a0 = some r) : Spec PG 12 [gT (e_Bore a0)] [] (iA r) [] := by
  unfold ref5_checkSquare at h
  obtain ⟨v1, h2, h⟩ := bnd1_e h
  let q9_f : Fr := [(1, .t (.v (.ptr 0 0)))]
  let q9_g : Hp := [(0, .cells 25 [.c (iC a0.At.X), .c (iC a0.At.Y), .c (iC a0.Size), .c (iC a0.From), .c (iC a0.To), .c (bC a0.Plated)])]
  let q9_f' : Fr := [(1, .t (.v (.ptr 0 0))), (13, bA v1)]
  let q9_g' : Hp := [(0, .cells 25 [.c (iC a0.At.X), .c (iC a0.At.Y), .c (iC a0.Size), .c (iC a0.From), .c (iC a0.To), .c (bC a0.Plated)])]
  have R3 : Runs PG 38 0 (cL (cL (cR ref5_checkSquare_c))) q9_f q9_g (.nor q9_f' q9_g') := by
    obtain ⟨r4, h5, h2⟩ := bnd_e h2
    rcases cnd_e h2 with ⟨h6, h2⟩ | ⟨h6, h2⟩
    · have h2 := Option.some.inj h2
      subst h2
      exact Runs.path XTok PGmix [.r [.val (bA r4), .b true, .b true, .b true, .b true, .b true]] [] (an (ref5_within_ok a0.Size 1 10000 r4 h5) (an h6 (an h6 (an h6 (an h6 h6))))) (by kernel_rfl)
    · obtain ⟨r7, h8, h2⟩ := bnd_e h2
      have h2 := Option.some.inj h2
      subst h2
      exact Runs.path XTok PGmix [.r [.val (bA r4), .b false, .b false, .b false, .val (bA r7), .b false, .b false]] [] (an (ref5_within_ok a0.Size 1 10000 r4 h5) (an h6 (an h6 (an h6 (an (ref1_IsPoint_ok a0.At r7 h8) (an h6 h6)))))) (by kernel_rfl)
  rcases cnd_e h with ⟨h10, h⟩ | ⟨h10, h⟩
  · have h := Option.some.inj h
    subst h
    exact Spec.path XTok PGmix ref5_checkSquare_fn 0 [.r [.id 0], .s q9_f q9_g [] (.nor q9_f' q9_g'), .b true, .r []] (an R3 h10) (by kernel_rfl)
  · obtain ⟨r11, h12, h⟩ := bnd_e h
    obtain ⟨v13, h14, h⟩ := bnd1_e h
    let q27_f : Fr := [(3, .t (.v (.ptr 1 0)))]
    let q27_g : Hp := [(1, .cells 27 [.c (iC r11.X0), .c (iC r11.Y0), .c (iC r11.X1), .c (iC r11.Y1)])]
    let q27_f' : Fr := [(37, bA v13)]
    let q27_g' : Hp := []
    have R15 : Runs PG 38 0 (cL (cL (cR (cR (cR ref5_checkSquare_c))))) q27_f q27_g (.nor q27_f' q27_g') := by
      obtain ⟨r16, h17, h14⟩ := bnd_e h14
      rcases cnd_e h14 with ⟨h18, h14⟩ | ⟨h18, h14⟩
      · have h14 := Option.some.inj h14
        subst h14
        exact Runs.path XTok PGmix [.r [.val (bA r16), .b true, .b true, .b true, .b true, .b true, .b true, .b true, .b true, .b true, .b true, .b true, .b true, .b true, .b true, .b true]] [] (an (ref1_At_ok r11.X0 r16 h17) (an h18 (an h18 (an h18 (an h18 (an h18 (an (Eq.refl true) (an (Eq.refl true) (an (Eq.refl true) (an (Eq.refl true) (an (Eq.refl true) (an (Eq.refl true) (an (Eq.refl true) (an (Eq.refl true) (an (Eq.refl true) (Eq.refl true)))))))))))))))) (by kernel_rfl)
      · obtain ⟨r19, h20, h14⟩ := bnd_e h14
        rcases cnd_e h14 with ⟨h21, h14⟩ | ⟨h21, h14⟩
        · have h14 := Option.some.inj h14
          subst h14
          exact Runs.path XTok PGmix [.r [.val (bA r16), .b false, .b false, .b false, .val (bA r19), .b false, .b false, .b true, .b true, .b true, .b true, .b true, .b true, .b true, .b true, .b true, .b true]] [] (an (ref1_At_ok r11.X0 r16 h17) (an h18 (an h18 (an h18 (an (ref1_At_ok r11.Y0 r19 h20) (an h18 (an h18 (an h21 (an h21 (an h21 (an h21 (an h21 (an (Eq.refl true) (an (Eq.refl true) (an (Eq.refl true) (an (Eq.refl true) (Eq.refl true))))))))))))))))) (by kernel_rfl)
        · obtain ⟨r22, h23, h14⟩ := bnd_e h14
          rcases cnd_e h14 with ⟨h24, h14⟩ | ⟨h24, h14⟩
          · have h14 := Option.some.inj h14
            subst h14
            exact Runs.path XTok PGmix [.r [.val (bA r16), .b false, .b false, .b false, .val (bA r19), .b false, .b false, .b false, .b false, .b false, .val (bA r22), .b false, .b false, .b true, .b true, .b true, .b true, .b true]] [] (an (ref1_At_ok r11.X0 r16 h17) (an h18 (an h18 (an h18 (an (ref1_At_ok r11.Y0 r19 h20) (an h18 (an h18 (an h21 (an h21 (an h21 (an (ref1_At_ok r11.X1 r22 h23) (an h21 (an h21 (an h24 (an h24 (an h24 (an h24 h24))))))))))))))))) (by kernel_rfl)
          · obtain ⟨r25, h26, h14⟩ := bnd_e h14
            have h14 := Option.some.inj h14
            subst h14
            exact Runs.path XTok PGmix [.r [.val (bA r16), .b false, .b false, .b false, .val (bA r19), .b false, .b false, .b false, .b false, .b false, .val (bA r22), .b false, .b false, .b false, .b false, .b false, .val (bA r25), .b false, .b false]] [] (an (ref1_At_ok r11.X0 r16 h17) (an h18 (an h18 (an h18 (an (ref1_At_ok r11.Y0 r19 h20) (an h18 (an h18 (an h21 (an h21 (an h21 (an (ref1_At_ok r11.X1 r22 h23) (an h21 (an h21 (an h24 (an h24 (an h24 (an (ref1_At_ok r11.Y1 r25 h26) (an h24 h24)))))))))))))))))) (by kernel_rfl)
    rcases cnd_e h with ⟨h28, h⟩ | ⟨h28, h⟩
    · have h := Option.some.inj h
      subst h
      exact Spec.path XTok PGmix ref5_checkSquare_fn 0 [.r [.id 0], .s q9_f q9_g [] (.nor q9_f' q9_g'), .b false, .r [.val (.t (gT (e_Rect r11))), .id 1], .s q27_f q27_g [] (.nor q27_f' q27_g'), .b true, .r []] (an R3 (an h10 (an (ref5_SquareOf_ok a0 r11 h12) (an R15 h28)))) (by kernel_rfl)
    · have h := Option.some.inj h
      subst h
      exact Spec.path XTok PGmix ref5_checkSquare_fn 0 [.r [.id 0], .s q9_f q9_g [] (.nor q9_f' q9_g'), .b false, .r [.val (.t (gT (e_Rect r11))), .id 1], .s q27_f q27_g [] (.nor q27_f' q27_g'), .b false, .r []] (an R3 (an h10 (an (ref5_SquareOf_ok a0 r11 h12) (an R15 h28)))) (by kernel_rfl)

noncomputable def ref5_Square_c : Code := (Go.Proofs.Try.f5.body).getD .skip
theorem ref5_Square_fn : FnOk PG 5 ref5_Square_c 13 [.cell 2 27, .tmp 3] := ⟨⟨Go.Proofs.Try.f5, by kernel_rfl, by kernel_rfl, by kernel_rfl, by kernel_rfl, by kernel_rfl⟩⟩
noncomputable def ref5_Square (a0 : Bore) : Option (Rect × Int) :=
 bnd (ref5_checkSquare a0) fun r1 =>
 cnd (r1 != 0) (some ((⟨0, 0, 0, 0⟩ : Rect), r1)) (bnd (ref5_SquareOf a0) fun r4 =>
 some (r4, 0))
theorem ref5_Square_ok (a0 : Bore) (r : Rect × Int) (h : ref5_Square a0 = some r) : Spec PG 5 [gT (e_Bore a0)] [] (.tup [gT (e_Rect r.1), iT r.2]) [] := by
  unfold ref5_Square at h
  obtain ⟨r1, h2, h⟩ := bnd_e h
  rcases cnd_e h with ⟨h3, h⟩ | ⟨h3, h⟩
  · have h := Option.some.inj h
    subst h
    exact Spec.path XTok PGmix ref5_Square_fn 0 [.r [.id 0, .id 1], .r [.val (iA r1)], .r [], .b true, .r [], .w [(2, .t (.v (.ptr 0 0))), (3, iA r1)] [(0, .cells 27 [.c (iC 0), .c (iC 0), .c (iC 0), .c (iC 0)])] [(0, 1)]] (an (ref5_checkSquare_ok a0 r1 h2) h3) (by kernel_rfl)
  · obtain ⟨r4, h5, h⟩ := bnd_e h
    have h := Option.some.inj h
    subst h
    exact Spec.path XTok PGmix ref5_Square_fn 0 [.r [.id 0, .id 1], .r [.val (iA r1)], .r [], .b false, .r [.val (.t (gT (e_Rect r4)))], .w [(2, .t (.v (.ptr 0 0))), (3, iA 0)] [(0, .cells 27 [.c (iC r4.X0), .c (iC r4.Y0), .c (iC r4.X1), .c (iC r4.Y1)])] [(0, 1)]] (an (ref5_checkSquare_ok a0 r1 h2) (an h3 (ref5_SquareOf_ok a0 r4 h5))) (by kernel_rfl)

noncomputable def law5_awake_c : Code := (Go.Proofs.Try.f6.body).getD .skip
theorem law5_awake_fn : FnOk PG 6 law5_awake_c 15 [.tmp 0] := ⟨⟨Go.Proofs.Try.f6, by kernel_rfl, by kernel_rfl, by kernel_rfl, by kernel_rfl, by kernel_rfl⟩⟩
noncomputable def law5_awake : Option Bool :=
 bnd (copper_Square (⟨(⟨0, 0⟩ : Point), 2, 0, 0, false⟩ : Bore)) fun r1 =>
 bnd1 (cnd (r1.2 == 0) (some ((r1.1.X0 == (-1)) && ((r1.1.Y0 == (-1)) && ((r1.1.X1 == 1) && ((r1.1.Y1 == 1) && true))))) (some false)) fun v3 =>
 some v3
theorem law5_awake_ok (r : Bool) (h : law5_awake = some r) : Spec PG 6 [] [] (bA r) [] := by
  unfold law5_awake at h
  obtain ⟨r1, h2, h⟩ := bnd_e h
  obtain ⟨v3, h4, h⟩ := bnd1_e h
  let q7_f : Fr := [(1, .t (.v (.ptr 0 0))), (2, iA r1.2)]
  let q7_g : Hp := [(0, .cells 27 [.c (iC r1.1.X0), .c (iC r1.1.Y0), .c (iC r1.1.X1), .c (iC r1.1.Y1)])]
  let q7_f' : Fr := [(0, bA v3)]
  let q7_g' : Hp := []
  have R5 : Runs PG 15 0 (cL (cR (cR law5_awake_c))) q7_f q7_g (.nor q7_f' q7_g') := by
    rcases cnd_e h4 with ⟨h6, h4⟩ | ⟨h6, h4⟩
    · have h4 := Option.some.inj h4
      subst h4
      exact Runs.path XTok PGmix [.r [.b true, .b true, .b true, .b true]] [] (an h6 (an h6 (an h6 h6))) (by kernel_rfl)
    · have h4 := Option.some.inj h4
      subst h4
      exact Runs.path XTok PGmix [.r [.b false, .b false, .b false, .b false]] [] (an h6 (an h6 (an h6 h6))) (by kernel_rfl)
  have h := Option.some.inj h
  subst h
  exact Spec.path XTok PGmix law5_awake_fn 0 [.r [], .r [.val (.tup [gT (e_Rect r1.1), iT r1.2]), .id 0], .s q7_f q7_g [] (.nor q7_f' q7_g')] (an (copper_Square_ok (⟨(⟨0, 0⟩ : Point), 2, 0, 0, false⟩ : Bore) r1 h2) R5) (by kernel_rfl)

noncomputable def law5_ArtSquaresMatchSpec_c : Code := (Go.Proofs.Try.f3.body).getD .skip
theorem law5_ArtSquaresMatchSpec_fn : FnOk PG 3 law5_ArtSquaresMatchSpec_c 28 [.tmp 2] := ⟨⟨Go.Proofs.Try.f3, by kernel_rfl, by kernel_rfl, by kernel_rfl, by kernel_rfl, by kernel_rfl⟩⟩
noncomputable def law5_ArtSquaresMatchSpec (a0 : Bore) : Option Bool :=
 bnd (copper_Square a0) fun r1 =>
 bnd (ref5_Square a0) fun r3 =>
 bnd1 (cnd ((r1.1.X0 == r3.1.X0) && ((r1.1.Y0 == r3.1.Y0) && ((r1.1.X1 == r3.1.X1) && ((r1.1.Y1 == r3.1.Y1) && true)))) (cnd (r1.2 == r3.2) (bnd (law5_awake ) fun r10 =>
 some r10) (some false)) (some false)) fun v5 =>
 some v5
theorem law5_ArtSquaresMatchSpec_ok (a0 : Bore) (r : Bool) (h : law5_ArtSquaresMatchSpec a0 = some r) : Spec PG 3 [gT (e_Bore a0)] [] (bA r) [] := by
  unfold law5_ArtSquaresMatchSpec at h
  obtain ⟨r1, h2, h⟩ := bnd_e h
  obtain ⟨r3, h4, h⟩ := bnd_e h
  obtain ⟨v5, h6, h⟩ := bnd1_e h
  let q12_f : Fr := [(3, .t (.v (.ptr 1 0))), (4, iA r1.2), (5, .t (.v (.ptr 2 0))), (6, iA r3.2)]
  let q12_g : Hp := [(1, .cells 27 [.c (iC r1.1.X0), .c (iC r1.1.Y0), .c (iC r1.1.X1), .c (iC r1.1.Y1)]), (2, .cells 27 [.c (iC r3.1.X0), .c (iC r3.1.Y0), .c (iC r3.1.X1), .c (iC r3.1.Y1)])]
  let q12_f' : Fr := [(2, bA v5)]
  let q12_g' : Hp := []
  have R7 : Runs PG 28 0 (cL (cR (cR (cR law5_ArtSquaresMatchSpec_c)))) q12_f q12_g (.nor q12_f' q12_g') := by
    rcases cnd_e h6 with ⟨h8, h6⟩ | ⟨h8, h6⟩
    · rcases cnd_e h6 with ⟨h9, h6⟩ | ⟨h9, h6⟩
      · obtain ⟨r10, h11, h6⟩ := bnd_e h6
        have h6 := Option.some.inj h6
        subst h6
        exact Runs.path XTok PGmix [.r [.b true, .b true, .b true, .b true, .b true, .val (bA r10), .b true]] [] (an h8 (an h8 (an h8 (an h8 (an h9 (an (law5_awake_ok r10 h11) h9)))))) (by kernel_rfl)
      · have h6 := Option.some.inj h6
        subst h6
        exact Runs.path XTok PGmix [.r [.b true, .b true, .b true, .b true, .b false, .b false]] [] (an h8 (an h8 (an h8 (an h8 (an h9 h9))))) (by kernel_rfl)
    · have h6 := Option.some.inj h6
      subst h6
      exact Runs.path XTok PGmix [.r [.b false, .b false, .b false, .b false, .b false, .b false]] [] (an h8 (an h8 (an h8 (an h8 (an (Eq.refl false) (Eq.refl false)))))) (by kernel_rfl)
  have h := Option.some.inj h
  subst h
  exact Spec.path XTok PGmix law5_ArtSquaresMatchSpec_fn 0 [.r [.id 0], .r [.val (.tup [gT (e_Rect r1.1), iT r1.2]), .id 1], .r [.val (.tup [gT (e_Rect r3.1), iT r3.2]), .id 2], .s q12_f q12_g [] (.nor q12_f' q12_g')] (an (copper_Square_ok a0 r1 h2) (an (ref5_Square_ok a0 r3 h4) R7)) (by kernel_rfl)
end Go.Proofs.Ytajmjfdopminbaa.Sym
