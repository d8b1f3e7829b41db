/- Printed by gen2.py: the plain forms of functions, and that calling them gives what these give. Conditions: none. -/
import Derived.Test.YtlbndchfmdogeaaDoorJf2
set_option linter.unusedVariables false
set_option maxHeartbeats 4000000
namespace Go.Proofs.YtlbndchfmdogeaaDoor.Sym
open Go Go.RowKit
noncomputable def nl_Islands_c : Code := (Go.Proofs.Tryd.f35.body).getD .skip
theorem nl_Islands_fn : FnOk PG 35 nl_Islands_c 101 [.tmp 6, .tmp 7] := ⟨⟨Go.Proofs.Tryd.f35, by kernel_rfl, by kernel_rfl, by kernel_rfl, by kernel_rfl, by kernel_rfl⟩⟩
noncomputable def nl_Islands_c0 : Code := cL (cL (cR (cL (cR (cR (cR (cR nl_Islands_c)))))))
noncomputable def nl_Islands_R (r : List (List ByteArray) × Int) : Oc := .ret [(6, lA 1 (List.map e_sl_str r.1)), (7, iA r.2)] []
noncomputable def nl_Islands_c1 : Code := cL (cL (cR (cR (cR (cL (cL (cR (cR nl_Islands_c0))))))))
noncomputable def nl_Islands_F1 (a1 : Netlist) (a2 : List ByteArray) (i9 : Nat) (x11 : Net) (i16 : Nat) (y17 : List Int) : Fr := [(2, lA 1 (List.map e_str a2)), (4, .t (.v (.c (.ptr (e_Netlist a1))))), (10, .t (.v (.ptr 1 0))), (12, .t (.v (.ptr 2 0))), (38, lA 3 (List.map e_Net a1.Nets)), (39, iA (a1.Nets.length : Int)), (40, iA (i9 : Int)), (49, lA 2 (List.map e_Pin x11.Pins)), (50, iA (x11.Pins.length : Int)), (51, iA (i16 : Int))]
noncomputable def nl_Islands_H1 (a1 : Netlist) (a2 : List ByteArray) (i9 : Nat) (x11 : Net) (i16 : Nat) (y17 : List Int) : Hp := [(0, .row 3 1 (List.map e_i64 y17)), (1, .cells 185 [.rt 0]), (2, .cells 64 [.c (sC x11.Name), .c (.sl 2 (List.map e_Pin x11.Pins)), .c (.sl 1 (List.map e_str x11.Ports))])]
noncomputable def nl_Islands_B1 (a1 : Netlist) (a2 : List ByteArray) (i9 : Nat) (x11 : Net) (s : List Int) : Oc := .ex 2 [(2, lA 1 (List.map e_str a2)), (4, .t (.v (.c (.ptr (e_Netlist a1))))), (10, .t (.v (.ptr 1 0))), (38, lA 3 (List.map e_Net a1.Nets)), (39, iA (a1.Nets.length : Int)), (40, iA (i9 : Int))] [(0, .row 3 1 (List.map e_i64 s)), (1, .cells 185 [.rt 0])]
noncomputable def nl_Islands_b1 (a1 : Netlist) (a2 : List ByteArray) (i9 : Nat) (x11 : Net) (i16 : Nat) (y17 : List Int) : Option (Stp (List Int) (List (List ByteArray) × Int)) :=
 bnd (atI x11.Pins (i16 : Int)) fun x18 =>
 bnd (nl_partAt a1.Parts x18.Part) fun r20 =>
 bnd (atI x11.Pins 0) fun x22 =>
 bnd (nl_partAt a1.Parts x22.Part) fun r24 =>
 bnd (nl_Union_Join (⟨y17⟩ : Union) r20 r24) fun r26 =>
 some (.go r26.up)
theorem nl_Islands_b1_r (a1 : Netlist) (a2 : List ByteArray) (i9 : Nat) (x11 : Net) (i16 : Nat) (y17 : List Int) (o : Stp (List Int) (List (List ByteArray) × Int)) (hi : i16 < x11.Pins.length) (h : nl_Islands_b1 a1 a2 i9 x11 i16 y17 = some o) :
    Runs PG 101 0 nl_Islands_c1 (nl_Islands_F1 a1 a2 i9 x11 i16 y17) (nl_Islands_H1 a1 a2 i9 x11 i16 y17) (stpOc (fun s' => .nor (nl_Islands_F1 a1 a2 i9 x11 (i16 + 1) s') (nl_Islands_H1 a1 a2 i9 x11 (i16 + 1) s')) (nl_Islands_B1 a1 a2 i9 x11) nl_Islands_R o) := by
  unfold nl_Islands_b1 at h
  refine Runs.len (s := 49) (sz := 2) (xs := List.map e_Pin x11.Pins) (by kernel_rfl) fun hl => ?_
  have hM : x11.Pins.length ≤ lim := len_of hl
  obtain ⟨x18, h19, h⟩ := bnd_e h
  obtain ⟨r20, h21, h⟩ := bnd_e h
  obtain ⟨x22, h23, h⟩ := bnd_e h
  obtain ⟨r24, h25, h⟩ := bnd_e h
  obtain ⟨r26, h27, h⟩ := bnd_e h
  have h := Option.some.inj h
  subst h
  exact Runs.path XTok PGmix [.r [], .b true, .r [.el (e_Pin x18), .id 3], .d [([], []), ([], []), ([], []), ([], []), ([3], []), ([], [.val (iA r20)]), ([], []), ([], []), ([], []), ([2], []), ([], [.el (e_Pin x22)]), ([], []), ([], []), ([], [.val (iA r24)]), ([1, 0], [.call [(0, 1), (1, 0)] [.v (.ptr 0 0), iT r20, iT r24] [(0, .cells 185 [.rt 1]), (1, .row 3 1 (List.map e_i64 y17))] (.tup []) [(0, .cells 185 [.rt 1]), (1, .row 3 1 (List.map e_i64 r26.up))]])], .r [.eq 70 (iA ((i16 + 1 : Nat) : Int))]] [] (an (lt_true hi) (an (idx_ok e_Pin h19) (an (nl_partAt_ok a1.Parts x18.Part r20 h21) (an (idx_ok e_Pin h23) (an (nl_partAt_ok a1.Parts x22.Part r24 h25) (an (an (nl_Union_Join_ok (⟨y17⟩ : Union) r20 r24 r26 h27) (an (Eq.refl ([.v (.ptr 1 0), iT r20, iT r24] : List TV)) (Eq.refl (renH (asg [(0, 1), (1, 0)]) [(0, .cells 185 [.rt 1]), (1, .row 3 1 (List.map e_i64 y17))])))) (wrap_eq hi hM))))))) (by kernel_rfl)
theorem nl_Islands_b1_e (a1 : Netlist) (a2 : List ByteArray) (i9 : Nat) (x11 : Net) (y17 : List Int) : Runs PG 101 0 nl_Islands_c1 (nl_Islands_F1 a1 a2 i9 x11 (x11.Pins.length) y17) (nl_Islands_H1 a1 a2 i9 x11 (x11.Pins.length) y17) (nl_Islands_B1 a1 a2 i9 x11 y17) := by
  exact Runs.path XTok PGmix [.r [], .b false] [] (lt_false (x11.Pins.length)) (by kernel_rfl)
theorem nl_Islands_l1 (a1 : Netlist) (a2 : List ByteArray) (i9 : Nat) (x11 : Net) (y17 : List Int) (r : Fin' (List Int) (List (List ByteArray) × Int)) (h : forN (fun i16 s => nl_Islands_b1 a1 a2 i9 x11 i16 s) (x11.Pins.length) 0 y17 = some r) : Runs PG 101 0 (cL (cR (cR (cR (cL (cL (cR (cR nl_Islands_c0)))))))) (nl_Islands_F1 a1 a2 i9 x11 0 y17) (nl_Islands_H1 a1 a2 i9 x11 0 y17) (finOc (nl_Islands_B1 a1 a2 i9 x11) nl_Islands_R r) :=
  Runs.loop' (by kernel_rfl) (forN_rounds (σ := (List Int)) (ρ := (List (List ByteArray) × Int)) (body := fun i16 s => nl_Islands_b1 a1 a2 i9 x11 i16 s) (F := fun i16 s => nl_Islands_F1 a1 a2 i9 x11 i16 s) (H := fun i16 s => nl_Islands_H1 a1 a2 i9 x11 i16 s) (B := nl_Islands_B1 a1 a2 i9 x11) (R := nl_Islands_R) (M := x11.Pins.length) (fun _ => rfl) (fun _ => rfl) (fun s => nl_Islands_b1_e a1 a2 i9 x11 s) (fun i s o hi h => nl_Islands_b1_r a1 a2 i9 x11 i s o hi h) _ 0 _ r (Nat.zero_add _) h)
noncomputable def nl_Islands_F0 (a1 : Netlist) (a2 : List ByteArray) (i9 : Nat) (y10 : List Int) : Fr := [(2, lA 1 (List.map e_str a2)), (4, .t (.v (.c (.ptr (e_Netlist a1))))), (10, .t (.v (.ptr 1 0))), (38, lA 3 (List.map e_Net a1.Nets)), (39, iA (a1.Nets.length : Int)), (40, iA (i9 : Int))]
noncomputable def nl_Islands_H0 (a1 : Netlist) (a2 : List ByteArray) (i9 : Nat) (y10 : List Int) : Hp := [(0, .row 3 1 (List.map e_i64 y10)), (1, .cells 185 [.rt 0])]
noncomputable def nl_Islands_B0 (a1 : Netlist) (a2 : List ByteArray) (s : List Int) : Oc := .ex 0 [(4, .t (.v (.c (.ptr (e_Netlist a1))))), (10, .t (.v (.ptr 1 0)))] [(0, .row 3 1 (List.map e_i64 s)), (1, .cells 185 [.rt 0])]
noncomputable def nl_Islands_b0 (a1 : Netlist) (a2 : List ByteArray) (i9 : Nat) (y10 : List Int) : Option (Stp (List Int) (List (List ByteArray) × Int)) :=
 bnd (atI a1.Nets (i9 : Int)) fun x11 =>
 bnd (nl_has a2 x11.Name) fun r13 =>
 cnd r13 (some (.go y10)) (aft1 (forN (fun i16 s => nl_Islands_b1 a1 a2 i9 x11 i16 s) (x11.Pins.length) 0 y10) (fun u28 =>
 some (.go u28))
 (fun r30 =>
 some (.ret r30)))
theorem nl_Islands_b0_r (a1 : Netlist) (a2 : List ByteArray) (i9 : Nat) (y10 : List Int) (o : Stp (List Int) (List (List ByteArray) × Int)) (hi : i9 < a1.Nets.length) (h : nl_Islands_b0 a1 a2 i9 y10 = some o) :
    Runs PG 101 0 nl_Islands_c0 (nl_Islands_F0 a1 a2 i9 y10) (nl_Islands_H0 a1 a2 i9 y10) (stpOc (fun s' => .nor (nl_Islands_F0 a1 a2 (i9 + 1) s') (nl_Islands_H0 a1 a2 (i9 + 1) s')) (nl_Islands_B0 a1 a2) nl_Islands_R o) := by
  unfold nl_Islands_b0 at h
  refine Runs.len (s := 38) (sz := 3) (xs := List.map e_Net a1.Nets) (by kernel_rfl) fun hl => ?_
  have hM : a1.Nets.length ≤ lim := len_of hl
  obtain ⟨x11, h12, h⟩ := bnd_e h
  obtain ⟨r13, h14, h⟩ := bnd_e h
  rcases cnd_e h with ⟨h15, h⟩ | ⟨h15, h⟩
  · have h := Option.some.inj h
    subst h
    exact Runs.path XTok PGmix [.r [], .b true, .r [.el (e_Net x11), .id 2], .r [.val (bA r13)], .b true, .r [.eq 71 (iA ((i9 + 1 : Nat) : Int))]] [] (an (lt_true hi) (an (idx_ok e_Net h12) (an (nl_has_ok a2 x11.Name r13 h14) (an h15 (wrap_eq hi hM))))) (by kernel_rfl)
  · rcases aft1_e h with ⟨u28, h29, h⟩ | ⟨r30, h29, h⟩
    · have h := Option.some.inj h
      subst h
      exact Runs.path XTok PGmix [.r [], .b true, .r [.el (e_Net x11), .id 2], .r [.val (bA r13)], .b false, .r [.eq 50 (iA (x11.Pins.length : Int))], .s (nl_Islands_F1 a1 a2 i9 x11 0 y10) (nl_Islands_H1 a1 a2 i9 x11 0 y10) [] (nl_Islands_B1 a1 a2 i9 x11 u28), .r [.eq 71 (iA ((i9 + 1 : Nat) : Int))]] [] (an (lt_true hi) (an (idx_ok e_Net h12) (an (nl_has_ok a2 x11.Name r13 h14) (an h15 (an (leni_eq e_Pin x11.Pins) (an (nl_Islands_l1 a1 a2 i9 x11 y10 (.fin u28) h29) (wrap_eq hi hM))))))) (by kernel_rfl)
    · have h := Option.some.inj h
      subst h
      exact Runs.path XTok PGmix [.r [], .b true, .r [.el (e_Net x11), .id 2], .r [.val (bA r13)], .b false, .r [.eq 50 (iA (x11.Pins.length : Int))], .s (nl_Islands_F1 a1 a2 i9 x11 0 y10) (nl_Islands_H1 a1 a2 i9 x11 0 y10) [] (nl_Islands_R r30)] [] (an (lt_true hi) (an (idx_ok e_Net h12) (an (nl_has_ok a2 x11.Name r13 h14) (an h15 (an (leni_eq e_Pin x11.Pins) (nl_Islands_l1 a1 a2 i9 x11 y10 (.ret r30) h29)))))) (by kernel_rfl)
theorem nl_Islands_b0_e (a1 : Netlist) (a2 : List ByteArray) (y10 : List Int) : Runs PG 101 0 nl_Islands_c0 (nl_Islands_F0 a1 a2 (a1.Nets.length) y10) (nl_Islands_H0 a1 a2 (a1.Nets.length) y10) (nl_Islands_B0 a1 a2 y10) := by
  exact Runs.path XTok PGmix [.r [], .b false] [] (lt_false (a1.Nets.length)) (by kernel_rfl)
theorem nl_Islands_l0 (a1 : Netlist) (a2 : List ByteArray) (y10 : List Int) (r : Fin' (List Int) (List (List ByteArray) × Int)) (h : forN (fun i9 s => nl_Islands_b0 a1 a2 i9 s) (a1.Nets.length) 0 y10 = some r) : Runs PG 101 0 (cL (cR (cL (cR (cR (cR (cR nl_Islands_c))))))) (nl_Islands_F0 a1 a2 0 y10) (nl_Islands_H0 a1 a2 0 y10) (finOc (nl_Islands_B0 a1 a2) nl_Islands_R r) :=
  Runs.loop' (by kernel_rfl) (forN_rounds (σ := (List Int)) (ρ := (List (List ByteArray) × Int)) (body := fun i9 s => nl_Islands_b0 a1 a2 i9 s) (F := fun i9 s => nl_Islands_F0 a1 a2 i9 s) (H := fun i9 s => nl_Islands_H0 a1 a2 i9 s) (B := nl_Islands_B0 a1 a2) (R := nl_Islands_R) (M := a1.Nets.length) (fun _ => rfl) (fun _ => rfl) (fun s => nl_Islands_b0_e a1 a2 s) (fun i s o hi h => nl_Islands_b0_r a1 a2 i s o hi h) _ 0 _ r (Nat.zero_add _) h)
noncomputable def nl_Islands_c2 : Code := cL (cL (cR (cL (cR (cR (cR (cR (cR (cR nl_Islands_c)))))))))
noncomputable def nl_Islands_c3 : Code := cL (cL (cR (cL (cR (cR (cL (cL (cR (cR nl_Islands_c2)))))))))
noncomputable def nl_Islands_F3 (a1 : Netlist) (r34 : List (List Int) × Union) (i36 : Nat) (y37 : List (List ByteArray)) (x38 : List Int) (i40 : Nat) (y41 : List ByteArray) : Fr := [(4, .t (.v (.c (.ptr (e_Netlist a1))))), (15, .t (.v (.rt 2))), (18, .t (.v (.rt 3))), (73, lA 1 (List.map e_sl_i64 r34.1)), (74, iA (r34.1.length : Int)), (75, iA (i36 : Int)), (79, lA 1 (List.map e_i64 x38)), (80, iA (x38.length : Int)), (81, iA (i40 : Int))]
noncomputable def nl_Islands_H3 (a1 : Netlist) (r34 : List (List Int) × Union) (i36 : Nat) (y37 : List (List ByteArray)) (x38 : List Int) (i40 : Nat) (y41 : List ByteArray) : Hp := [(2, .row 55 1 (List.map e_sl_str y37)), (3, .row 9 1 (List.map e_str y41))]
noncomputable def nl_Islands_B3 (a1 : Netlist) (r34 : List (List Int) × Union) (i36 : Nat) (y37 : List (List ByteArray)) (x38 : List Int) (s : List ByteArray) : Oc := .ex 6 [(4, .t (.v (.c (.ptr (e_Netlist a1))))), (15, .t (.v (.rt 2))), (18, .t (.v (.rt 3))), (73, lA 1 (List.map e_sl_i64 r34.1)), (74, iA (r34.1.length : Int)), (75, iA (i36 : Int))] [(2, .row 55 1 (List.map e_sl_str y37)), (3, .row 9 1 (List.map e_str s))]
noncomputable def nl_Islands_b3 (a1 : Netlist) (r34 : List (List Int) × Union) (i36 : Nat) (y37 : List (List ByteArray)) (x38 : List Int) (i40 : Nat) (y41 : List ByteArray) : Option (Stp (List ByteArray) (List (List ByteArray) × Int)) :=
 bnd (atI x38 (i40 : Int)) fun x42 =>
 bnd (atI a1.Parts x42) fun x44 =>
 grd (y41.length + [x44.Name].length ≤ lim) <|
 some (.go (y41 ++ [x44.Name]))
theorem nl_Islands_b3_r (a1 : Netlist) (r34 : List (List Int) × Union) (i36 : Nat) (y37 : List (List ByteArray)) (x38 : List Int) (i40 : Nat) (y41 : List ByteArray) (o : Stp (List ByteArray) (List (List ByteArray) × Int)) (hi : i40 < x38.length) (h : nl_Islands_b3 a1 r34 i36 y37 x38 i40 y41 = some o) :
    Runs PG 101 0 nl_Islands_c3 (nl_Islands_F3 a1 r34 i36 y37 x38 i40 y41) (nl_Islands_H3 a1 r34 i36 y37 x38 i40 y41) (stpOc (fun s' => .nor (nl_Islands_F3 a1 r34 i36 y37 x38 (i40 + 1) s') (nl_Islands_H3 a1 r34 i36 y37 x38 (i40 + 1) s')) (nl_Islands_B3 a1 r34 i36 y37 x38) nl_Islands_R o) := by
  unfold nl_Islands_b3 at h
  refine Runs.len (s := 79) (sz := 1) (xs := List.map e_i64 x38) (by kernel_rfl) fun hl => ?_
  have hM : x38.length ≤ lim := len_of hl
  obtain ⟨x42, h43, h⟩ := bnd_e h
  obtain ⟨x44, h45, h⟩ := bnd_e h
  obtain ⟨h46, h⟩ := grd_e h
  have h := Option.some.inj h
  subst h
  exact Runs.path XTok PGmix [.r [], .b true, .r [.el [iC x42]], .r [.el (e_Part x44), .id 4, .row (List.map e_str [x44.Name]), .id 5, .row (List.map e_str (y41 ++ [x44.Name]))], .r [.eq 94 (iA ((i40 + 1 : Nat) : Int))]] [(3, 5)] (an (lt_true hi) (an (idx_ok e_i64 h43) (an (idx_ok e_Part h45) (an (Eq.refl (List.flatten (List.map e_str [x44.Name]))) (an (app_ok e_str h46) (wrap_eq hi hM)))))) (by kernel_rfl)
theorem nl_Islands_b3_e (a1 : Netlist) (r34 : List (List Int) × Union) (i36 : Nat) (y37 : List (List ByteArray)) (x38 : List Int) (y41 : List ByteArray) : Runs PG 101 0 nl_Islands_c3 (nl_Islands_F3 a1 r34 i36 y37 x38 (x38.length) y41) (nl_Islands_H3 a1 r34 i36 y37 x38 (x38.length) y41) (nl_Islands_B3 a1 r34 i36 y37 x38 y41) := by
  exact Runs.path XTok PGmix [.r [], .b false] [] (lt_false (x38.length)) (by kernel_rfl)
theorem nl_Islands_l3 (a1 : Netlist) (r34 : List (List Int) × Union) (i36 : Nat) (y37 : List (List ByteArray)) (x38 : List Int) (y41 : List ByteArray) (r : Fin' (List ByteArray) (List (List ByteArray) × Int)) (h : forN (fun i40 s => nl_Islands_b3 a1 r34 i36 y37 x38 i40 s) (x38.length) 0 y41 = some r) : Runs PG 101 0 (cL (cR (cL (cR (cR (cL (cL (cR (cR nl_Islands_c2))))))))) (nl_Islands_F3 a1 r34 i36 y37 x38 0 y41) (nl_Islands_H3 a1 r34 i36 y37 x38 0 y41) (finOc (nl_Islands_B3 a1 r34 i36 y37 x38) nl_Islands_R r) :=
  Runs.loop' (by kernel_rfl) (forN_rounds (σ := (List ByteArray)) (ρ := (List (List ByteArray) × Int)) (body := fun i40 s => nl_Islands_b3 a1 r34 i36 y37 x38 i40 s) (F := fun i40 s => nl_Islands_F3 a1 r34 i36 y37 x38 i40 s) (H := fun i40 s => nl_Islands_H3 a1 r34 i36 y37 x38 i40 s) (B := nl_Islands_B3 a1 r34 i36 y37 x38) (R := nl_Islands_R) (M := x38.length) (fun _ => rfl) (fun _ => rfl) (fun s => nl_Islands_b3_e a1 r34 i36 y37 x38 s) (fun i s o hi h => nl_Islands_b3_r a1 r34 i36 y37 x38 i s o hi h) _ 0 _ r (Nat.zero_add _) h)
noncomputable def nl_Islands_F2 (a1 : Netlist) (r34 : List (List Int) × Union) (i36 : Nat) (y37 : List (List ByteArray)) : Fr := [(4, .t (.v (.c (.ptr (e_Netlist a1))))), (15, .t (.v (.rt 2))), (73, lA 1 (List.map e_sl_i64 r34.1)), (74, iA (r34.1.length : Int)), (75, iA (i36 : Int))]
noncomputable def nl_Islands_H2 (a1 : Netlist) (r34 : List (List Int) × Union) (i36 : Nat) (y37 : List (List ByteArray)) : Hp := [(2, .row 55 1 (List.map e_sl_str y37))]
noncomputable def nl_Islands_B2 (a1 : Netlist) (r34 : List (List Int) × Union) (s : List (List ByteArray)) : Oc := .ex 4 [(15, .t (.v (.rt 2)))] [(2, .row 55 1 (List.map e_sl_str s))]
noncomputable def nl_Islands_b2 (a1 : Netlist) (r34 : List (List Int) × Union) (i36 : Nat) (y37 : List (List ByteArray)) : Option (Stp (List (List ByteArray)) (List (List ByteArray) × Int)) :=
 bnd (atI r34.1 (i36 : Int)) fun x38 =>
 aft1 (forN (fun i40 s => nl_Islands_b3 a1 r34 i36 y37 x38 i40 s) (x38.length) 0 []) (fun u47 =>
 grd (y37.length + [u47].length ≤ lim) <|
 some (.go (y37 ++ [u47])))
 (fun r49 =>
 some (.ret r49))
theorem nl_Islands_b2_r (a1 : Netlist) (r34 : List (List Int) × Union) (i36 : Nat) (y37 : List (List ByteArray)) (o : Stp (List (List ByteArray)) (List (List ByteArray) × Int)) (hi : i36 < r34.1.length) (h : nl_Islands_b2 a1 r34 i36 y37 = some o) :
    Runs PG 101 0 nl_Islands_c2 (nl_Islands_F2 a1 r34 i36 y37) (nl_Islands_H2 a1 r34 i36 y37) (stpOc (fun s' => .nor (nl_Islands_F2 a1 r34 (i36 + 1) s') (nl_Islands_H2 a1 r34 (i36 + 1) s')) (nl_Islands_B2 a1 r34) nl_Islands_R o) := by
  unfold nl_Islands_b2 at h
  refine Runs.len (s := 73) (sz := 1) (xs := List.map e_sl_i64 r34.1) (by kernel_rfl) fun hl => ?_
  have hM : r34.1.length ≤ lim := len_of hl
  obtain ⟨x38, h39, h⟩ := bnd_e h
  rcases aft1_e h with ⟨u47, h48, h⟩ | ⟨r49, h48, h⟩
  · obtain ⟨h50, h⟩ := grd_e h
    have h := Option.some.inj h
    subst h
    exact Runs.path XTok PGmix [.r [], .b true, .r [.el [.sl 1 (List.map e_i64 x38)]], .r [.mk 3 9 1], .r [.eq 80 (iA (x38.length : Int))], .s (nl_Islands_F3 a1 r34 i36 y37 x38 0 []) (nl_Islands_H3 a1 r34 i36 y37 x38 0 []) [] (nl_Islands_B3 a1 r34 i36 y37 x38 u47), .r [.fz 3, .id 3, .row (List.map e_sl_str [u47]), .id 4, .row (List.map e_sl_str (y37 ++ [u47]))], .r [.eq 99 (iA ((i36 + 1 : Nat) : Int))]] [(2, 4)] (an (lt_true hi) (an (idx_ok e_sl_i64 h39) (an (leni_eq e_i64 x38) (an (nl_Islands_l3 a1 r34 i36 y37 x38 [] (.fin u47) h48) (an (Eq.refl (List.flatten (List.map e_sl_str [u47]))) (an (app_ok e_sl_str h50) (wrap_eq hi hM))))))) (by kernel_rfl)
  · have h := Option.some.inj h
    subst h
    exact Runs.path XTok PGmix [.r [], .b true, .r [.el [.sl 1 (List.map e_i64 x38)]], .r [.mk 3 9 1], .r [.eq 80 (iA (x38.length : Int))], .s (nl_Islands_F3 a1 r34 i36 y37 x38 0 []) (nl_Islands_H3 a1 r34 i36 y37 x38 0 []) [] (nl_Islands_R r49)] [] (an (lt_true hi) (an (idx_ok e_sl_i64 h39) (an (leni_eq e_i64 x38) (nl_Islands_l3 a1 r34 i36 y37 x38 [] (.ret r49) h48)))) (by kernel_rfl)
theorem nl_Islands_b2_e (a1 : Netlist) (r34 : List (List Int) × Union) (y37 : List (List ByteArray)) : Runs PG 101 0 nl_Islands_c2 (nl_Islands_F2 a1 r34 (r34.1.length) y37) (nl_Islands_H2 a1 r34 (r34.1.length) y37) (nl_Islands_B2 a1 r34 y37) := by
  exact Runs.path XTok PGmix [.r [], .b false] [] (lt_false (r34.1.length)) (by kernel_rfl)
theorem nl_Islands_l2 (a1 : Netlist) (r34 : List (List Int) × Union) (y37 : List (List ByteArray)) (r : Fin' (List (List ByteArray)) (List (List ByteArray) × Int)) (h : forN (fun i36 s => nl_Islands_b2 a1 r34 i36 s) (r34.1.length) 0 y37 = some r) : Runs PG 101 0 (cL (cR (cL (cR (cR (cR (cR (cR (cR nl_Islands_c))))))))) (nl_Islands_F2 a1 r34 0 y37) (nl_Islands_H2 a1 r34 0 y37) (finOc (nl_Islands_B2 a1 r34) nl_Islands_R r) :=
  Runs.loop' (by kernel_rfl) (forN_rounds (σ := (List (List ByteArray))) (ρ := (List (List ByteArray) × Int)) (body := fun i36 s => nl_Islands_b2 a1 r34 i36 s) (F := fun i36 s => nl_Islands_F2 a1 r34 i36 s) (H := fun i36 s => nl_Islands_H2 a1 r34 i36 s) (B := nl_Islands_B2 a1 r34) (R := nl_Islands_R) (M := r34.1.length) (fun _ => rfl) (fun _ => rfl) (fun s => nl_Islands_b2_e a1 r34 s) (fun i s o hi h => nl_Islands_b2_r a1 r34 i s o hi h) _ 0 _ r (Nat.zero_add _) h)
noncomputable def nl_Islands (a0 : List PartType) (a1 : Netlist) (a2 : List ByteArray) : Option (List (List ByteArray) × Int) :=
 bnd (nl_CheckList a0 a1) fun r1 =>
 cnd (r1 != 0) (some ([], r1)) (bnd (nl_checkNames a2 1000 (fun z0 => nl_Islands_1 z0 a1)) fun r4 =>
 cnd (r4 != 0) (some ([], r4)) (bnd (nl_NewUnion (a1.Parts.length : Int)) fun r7 =>
 aft1 (forN (fun i9 s => nl_Islands_b0 a1 a2 i9 s) (a1.Nets.length) 0 r7.up) (fun u31 =>
 bnd (nl_Union_Sets (⟨u31⟩ : Union)) fun r34 =>
 aft1 (forN (fun i36 s => nl_Islands_b2 a1 r34 i36 s) (r34.1.length) 0 []) (fun u51 =>
 some (u51, 0))
 (fun r53 =>
 some r53))
 (fun r33 =>
 some r33)))
theorem nl_Islands_ok (a0 : List PartType) (a1 : Netlist) (a2 : List ByteArray) (r : List (List ByteArray) × Int) (h : nl_Islands a0 a1 a2 = some r) : Spec PG 35 [lT 2 (List.map e_PartType a0), gT (e_Netlist a1), lT 1 (List.map e_str a2)] [] (.tup [lT 1 (List.map e_sl_str r.1), iT r.2]) [] := by
  unfold nl_Islands at h
  obtain ⟨r1, h2, h⟩ := bnd_e h
  rcases cnd_e h with ⟨h3, h⟩ | ⟨h3, h⟩
  · have h := Option.some.inj h
    subst h
    exact Spec.path XTok PGmix nl_Islands_fn 0 [.r [.id 0, .nl 1], .r [.val (iA r1)], .r [], .b true, .r [.nl 1]] (an (nl_CheckList_ok a0 a1 r1 h2) h3) (by kernel_rfl)
  · obtain ⟨r4, h5, h⟩ := bnd_e h
    rcases cnd_e h with ⟨h6, h⟩ | ⟨h6, h⟩
    · have h := Option.some.inj h
      subst h
      exact Spec.path XTok PGmix nl_Islands_fn 0 [.r [.id 0, .nl 1], .r [.val (iA r1)], .r [], .b false, .fb 0, .r [.val (iA r4)], .r [], .b true, .r [.nl 1]] (an (nl_CheckList_ok a0 a1 r1 h2) (an h3 (an (nl_checkNames_ok a2 1000 94 [.ptr (e_Netlist a1)] (fun z0 => nl_Islands_1 z0 a1) (fun z0 r h => nl_Islands_1_ok z0 a1 r h) r4 h5) h6))) (by kernel_rfl)
    · obtain ⟨r7, h8, h⟩ := bnd_e h
      rcases aft1_e h with ⟨u31, h32, h⟩ | ⟨r33, h32, h⟩
      · obtain ⟨r34, h35, h⟩ := bnd_e h
        rcases aft1_e h with ⟨u51, h52, h⟩ | ⟨r53, h52, h⟩
        · have h := Option.some.inj h
          subst h
          exact Spec.path XTok PGmix nl_Islands_fn 0 [.r [.id 0, .nl 1], .r [.val (iA r1)], .r [], .b false, .fb 0, .r [.val (iA r4)], .r [], .b false, .r [.eq 35 (iA (a1.Parts.length : Int)), .call [(0, 1), (1, 0)] [iT (a1.Parts.length : Int)] [] (.t (.v (.ptr 0 0))) [(1, .row 3 1 (List.map e_i64 r7.up)), (0, .cells 185 [.rt 1])]], .r [.eq 39 (iA (a1.Nets.length : Int))], .s (nl_Islands_F0 a1 a2 0 r7.up) (nl_Islands_H0 a1 a2 0 r7.up) [] (nl_Islands_B0 a1 a2 u31), .r [.mk 2 55 1], .r [.call [(0, 1), (1, 0)] [.v (.ptr 0 0)] [(0, .cells 185 [.rt 1]), (1, .row 3 1 (List.map e_i64 u31))] (lA 1 (List.map e_sl_i64 r34.1)) [(0, .cells 185 [.rt 1]), (1, .row 3 1 (List.map e_i64 r34.2.up))], .eq 74 (iA (r34.1.length : Int))], .s (nl_Islands_F2 a1 r34 0 []) (nl_Islands_H2 a1 r34 0 []) [] (nl_Islands_B2 a1 r34 u51), .r [], .f 2] (an (nl_CheckList_ok a0 a1 r1 h2) (an h3 (an (nl_checkNames_ok a2 1000 94 [.ptr (e_Netlist a1)] (fun z0 => nl_Islands_1 z0 a1) (fun z0 r h => nl_Islands_1_ok z0 a1 r h) r4 h5) (an h6 (an (leni_eq e_Part a1.Parts) (an (an (nl_NewUnion_ok (a1.Parts.length : Int) r7 h8) (an (Eq.refl ([iT (a1.Parts.length : Int)] : List TV)) (Eq.refl (renH (asg [(0, 1), (1, 0)]) [])))) (an (leni_eq e_Net a1.Nets) (an (nl_Islands_l0 a1 a2 r7.up (.fin u31) h32) (an (an (nl_Union_Sets_ok (⟨u31⟩ : Union) r34 h35) (an (Eq.refl ([.v (.ptr 1 0)] : List TV)) (Eq.refl (renH (asg [(0, 1), (1, 0)]) [(0, .cells 185 [.rt 1]), (1, .row 3 1 (List.map e_i64 u31))])))) (an (leni_eq e_sl_i64 r34.1) (nl_Islands_l2 a1 r34 [] (.fin u51) h52))))))))))) (by kernel_rfl)
        · have h := Option.some.inj h
          subst h
          exact Spec.path XTok PGmix nl_Islands_fn 0 [.r [.id 0, .nl 1], .r [.val (iA r1)], .r [], .b false, .fb 0, .r [.val (iA r4)], .r [], .b false, .r [.eq 35 (iA (a1.Parts.length : Int)), .call [(0, 1), (1, 0)] [iT (a1.Parts.length : Int)] [] (.t (.v (.ptr 0 0))) [(1, .row 3 1 (List.map e_i64 r7.up)), (0, .cells 185 [.rt 1])]], .r [.eq 39 (iA (a1.Nets.length : Int))], .s (nl_Islands_F0 a1 a2 0 r7.up) (nl_Islands_H0 a1 a2 0 r7.up) [] (nl_Islands_B0 a1 a2 u31), .r [.mk 2 55 1], .r [.call [(0, 1), (1, 0)] [.v (.ptr 0 0)] [(0, .cells 185 [.rt 1]), (1, .row 3 1 (List.map e_i64 u31))] (lA 1 (List.map e_sl_i64 r34.1)) [(0, .cells 185 [.rt 1]), (1, .row 3 1 (List.map e_i64 r34.2.up))], .eq 74 (iA (r34.1.length : Int))], .s (nl_Islands_F2 a1 r34 0 []) (nl_Islands_H2 a1 r34 0 []) [] (nl_Islands_R r53)] (an (nl_CheckList_ok a0 a1 r1 h2) (an h3 (an (nl_checkNames_ok a2 1000 94 [.ptr (e_Netlist a1)] (fun z0 => nl_Islands_1 z0 a1) (fun z0 r h => nl_Islands_1_ok z0 a1 r h) r4 h5) (an h6 (an (leni_eq e_Part a1.Parts) (an (an (nl_NewUnion_ok (a1.Parts.length : Int) r7 h8) (an (Eq.refl ([iT (a1.Parts.length : Int)] : List TV)) (Eq.refl (renH (asg [(0, 1), (1, 0)]) [])))) (an (leni_eq e_Net a1.Nets) (an (nl_Islands_l0 a1 a2 r7.up (.fin u31) h32) (an (an (nl_Union_Sets_ok (⟨u31⟩ : Union) r34 h35) (an (Eq.refl ([.v (.ptr 1 0)] : List TV)) (Eq.refl (renH (asg [(0, 1), (1, 0)]) [(0, .cells 185 [.rt 1]), (1, .row 3 1 (List.map e_i64 u31))])))) (an (leni_eq e_sl_i64 r34.1) (nl_Islands_l2 a1 r34 [] (.ret r53) h52))))))))))) (by kernel_rfl)
      · have h := Option.some.inj h
        subst h
        exact Spec.path XTok PGmix nl_Islands_fn 0 [.r [.id 0, .nl 1], .r [.val (iA r1)], .r [], .b false, .fb 0, .r [.val (iA r4)], .r [], .b false, .r [.eq 35 (iA (a1.Parts.length : Int)), .call [(0, 1), (1, 0)] [iT (a1.Parts.length : Int)] [] (.t (.v (.ptr 0 0))) [(1, .row 3 1 (List.map e_i64 r7.up)), (0, .cells 185 [.rt 1])]], .r [.eq 39 (iA (a1.Nets.length : Int))], .s (nl_Islands_F0 a1 a2 0 r7.up) (nl_Islands_H0 a1 a2 0 r7.up) [] (nl_Islands_R r33)] (an (nl_CheckList_ok a0 a1 r1 h2) (an h3 (an (nl_checkNames_ok a2 1000 94 [.ptr (e_Netlist a1)] (fun z0 => nl_Islands_1 z0 a1) (fun z0 r h => nl_Islands_1_ok z0 a1 r h) r4 h5) (an h6 (an (leni_eq e_Part a1.Parts) (an (an (nl_NewUnion_ok (a1.Parts.length : Int) r7 h8) (an (Eq.refl ([iT (a1.Parts.length : Int)] : List TV)) (Eq.refl (renH (asg [(0, 1), (1, 0)]) [])))) (an (leni_eq e_Net a1.Nets) (nl_Islands_l0 a1 a2 r7.up (.ret r33) h32)))))))) (by kernel_rfl)

noncomputable def slices_Grow_string_string_c : Code := (Go.Proofs.Tryd.f101.body).getD .skip
theorem slices_Grow_string_string_fn : FnOk PG 101 slices_Grow_string_string_c 27 [.tmp 4] := ⟨⟨Go.Proofs.Tryd.f101, by kernel_rfl, by kernel_rfl, by kernel_rfl, by kernel_rfl, by kernel_rfl⟩⟩
noncomputable def slices_Grow_string_string (a1 : Int) : Option (List ByteArray) :=
 bnd0 (cnd (decide (a1 < 0)) (none) (some ())) <|
 bnd1 (cnd (decide ((w64 (a1 - (w64 (0 - 0)))) > 0)) (grd (0 = (0 : Int) ∧ 0 = (0 : Int)) <|
 grd ((0 : Int) ≤ w64 (a1 - (w64 (0 - 0))) ∧ w64 (a1 - (w64 (0 - 0))) ≤ (lim : Int)) <|
 grd ((0 : Int) ≤ (0 : Int) ∧ (0 : Int) ≤ (0 : Int) ∧ (0 : Int) ≤ ((List.replicate (Int.toNat (w64 (a1 - (w64 (0 - 0))))) ((⟨#[]⟩ : ByteArray) : ByteArray)).length : Int)) <|
 some ((List.replicate (Int.toNat (w64 (a1 - (w64 (0 - 0))))) ((⟨#[]⟩ : ByteArray) : ByteArray)).take (((0 : Int) - (0 : Int)).toNat))) (some [])) fun v5 =>
 some v5
theorem slices_Grow_string_string_ok (a1 : Int) (r : List ByteArray) (h : slices_Grow_string_string a1 = some r) : Spec PG 101 [.v (.c (.nil)), iT a1] [] (.t (.v (.rt 0))) [(0, .row 9 1 (List.map e_str r))] := by
  unfold slices_Grow_string_string at h
  obtain ⟨h1, h⟩ := bnd0_e h
  let q4_f : Fr := [(0, .t (.v (.c (.nil)))), (1, iA a1), (6, bA (decide (a1 < 0)))]
  let q4_g : Hp := []
  let q4_f' : Fr := [(0, .t (.v (.c (.nil)))), (1, iA a1)]
  let q4_g' : Hp := []
  have R2 : Runs PG 27 0 (cR (cL (cR slices_Grow_string_string_c))) q4_f q4_g (.nor q4_f' q4_g') := by
    rcases cnd_e h1 with ⟨h3, h1⟩ | ⟨h3, h1⟩
    · cases h1
    · exact Runs.path XTok PGmix [.b false] [] h3 (by kernel_rfl)
  obtain ⟨v5, h6, h⟩ := bnd1_e h
  let q12_f : Fr := [(0, .t (.v (.c (.nil)))), (1, iA (w64 (a1 - (w64 (0 - 0))))), (16, bA (decide ((w64 (a1 - (w64 (0 - 0)))) > 0)))]
  let q12_g : Hp := []
  let q12_f' : Fr := [(0, .t (.v (.rt 1)))]
  let q12_g' : Hp := [(1, .row 9 1 (List.map e_str v5))]
  have R7 : Runs PG 27 0 (cR (cR (cL (cR (cR slices_Grow_string_string_c))))) q12_f q12_g (.nor q12_f' q12_g') := by
    rcases cnd_e h6 with ⟨h8, h6⟩ | ⟨h8, h6⟩
    · obtain ⟨h9, h6⟩ := grd_e h6
      obtain ⟨h10, h6⟩ := grd_e h6
      obtain ⟨h11, h6⟩ := grd_e h6
      have h6 := Option.some.inj h6
      subst h6
      exact Runs.path XTok PGmix [.b true, .r [.id 0, .row (List.map e_str (List.replicate (Int.toNat (w64 (a1 - (w64 (0 - 0))))) ((⟨#[]⟩ : ByteArray) : ByteArray))), .el (e_str (⟨#[]⟩ : ByteArray))], .h 0 1 (List.map e_str ((List.replicate (Int.toNat (w64 (a1 - (w64 (0 - 0))))) ((⟨#[]⟩ : ByteArray) : ByteArray)).take (((0 : Int) - (0 : Int)).toNat)))] [] (an h8 (an trivial (an h9 (an (app0_ok e_str (⟨#[]⟩ : ByteArray) h10) (an (cut_lh e_str h11) (take_ok e_str (List.replicate (Int.toNat (w64 (a1 - (w64 (0 - 0))))) ((⟨#[]⟩ : ByteArray) : ByteArray)) (((0 : Int) - (0 : Int)).toNat))))))) (by kernel_rfl)
    · have h6 := Option.some.inj h6
      subst h6
      exact Runs.path XTok PGmix [.b false, .os 0 0 9 1] [(1, 0)] h8 (by kernel_rfl)
  have h := Option.some.inj h
  subst h
  exact Spec.path XTok PGmix slices_Grow_string_string_fn 0 [.r [.nl 1], .r [], .s q4_f q4_g [] (.nor q4_f' q4_g'), .r [], .r [], .s q12_f q12_g [] (.nor q12_f' q12_g'), .r [], .w [(4, .t (.v (.rt 0)))] [(0, .row 9 1 (List.map e_str v5))] [(0, 1)]] (an R2 (an trivial R7)) (by kernel_rfl)

noncomputable def slices_Concat_string_string_c : Code := (Go.Proofs.Tryd.f38.body).getD .skip
theorem slices_Concat_string_string_fn : FnOk PG 38 slices_Concat_string_string_c 36 [.tmp 2] := ⟨⟨Go.Proofs.Tryd.f38, by kernel_rfl, by kernel_rfl, by kernel_rfl, by kernel_rfl, by kernel_rfl⟩⟩
noncomputable def slices_Concat_string_string_c0 : Code := cL (cL (cR (cL (cR (cR slices_Concat_string_string_c)))))
noncomputable def slices_Concat_string_string_R (r : List ByteArray) : Oc := .ret [(2, .t (.v (.rt 0)))] [(0, .row 9 1 (List.map e_str r))]
noncomputable def slices_Concat_string_string_F0 (a0 : List (List ByteArray)) (i1 : Nat) (y2 : Int) : Fr := [(0, lA 1 (List.map e_sl_str a0)), (3, iA y2), (9, lA 1 (List.map e_sl_str a0)), (10, iA (a0.length : Int)), (11, iA (i1 : Int))]
noncomputable def slices_Concat_string_string_H0 (a0 : List (List ByteArray)) (i1 : Nat) (y2 : Int) : Hp := []
noncomputable def slices_Concat_string_string_B0 (a0 : List (List ByteArray)) (s : Int) : Oc := .ex 0 [(0, lA 1 (List.map e_sl_str a0)), (3, iA s)] []
noncomputable def slices_Concat_string_string_b0 (a0 : List (List ByteArray)) (i1 : Nat) (y2 : Int) : Option (Stp Int (List ByteArray)) :=
 bnd (atI a0 (i1 : Int)) fun x3 =>
 bnd0 (cnd (decide ((w64 (y2 + (x3.length : Int))) < 0)) (none) (some ())) <|
 some (.go (w64 (y2 + (x3.length : Int))))
theorem slices_Concat_string_string_b0_r (a0 : List (List ByteArray)) (i1 : Nat) (y2 : Int) (o : Stp Int (List ByteArray)) (hi : i1 < a0.length) (h : slices_Concat_string_string_b0 a0 i1 y2 = some o) :
    Runs PG 36 0 slices_Concat_string_string_c0 (slices_Concat_string_string_F0 a0 i1 y2) (slices_Concat_string_string_H0 a0 i1 y2) (stpOc (fun s' => .nor (slices_Concat_string_string_F0 a0 (i1 + 1) s') (slices_Concat_string_string_H0 a0 (i1 + 1) s')) (slices_Concat_string_string_B0 a0) slices_Concat_string_string_R o) := by
  unfold slices_Concat_string_string_b0 at h
  refine Runs.len (s := 9) (sz := 1) (xs := List.map e_sl_str a0) (by kernel_rfl) fun hl => ?_
  have hM : a0.length ≤ lim := len_of hl
  obtain ⟨x3, h4, h⟩ := bnd_e h
  obtain ⟨h5, h⟩ := bnd0_e h
  let q8_f : Fr := [(0, lA 1 (List.map e_sl_str a0)), (3, iA (w64 (y2 + (x3.length : Int)))), (9, lA 1 (List.map e_sl_str a0)), (10, iA (a0.length : Int)), (11, iA (i1 : Int)), (20, bA (decide ((w64 (y2 + (x3.length : Int))) < 0)))]
  let q8_g : Hp := []
  let q8_f' : Fr := [(0, lA 1 (List.map e_sl_str a0)), (3, iA (w64 (y2 + (x3.length : Int)))), (9, lA 1 (List.map e_sl_str a0)), (10, iA (a0.length : Int)), (11, iA (i1 : Int))]
  let q8_g' : Hp := []
  have R6 : Runs PG 36 0 (cR (cR (cR (cL (cL (cR (cR slices_Concat_string_string_c0))))))) q8_f q8_g (.nor q8_f' q8_g') := by
    rcases cnd_e h5 with ⟨h7, h5⟩ | ⟨h7, h5⟩
    · cases h5
    · exact Runs.path XTok PGmix [.b false] [] h7 (by kernel_rfl)
  have h := Option.some.inj h
  subst h
  exact Runs.path XTok PGmix [.r [], .b true, .r [.el [.sl 1 (List.map e_str x3)]], .r [.eq 17 (iA (x3.length : Int))], .r [], .s q8_f q8_g [] (.nor q8_f' q8_g'), .r [.eq 22 (iA ((i1 + 1 : Nat) : Int))]] [] (an (lt_true hi) (an (idx_ok e_sl_str h4) (an (leni_eq e_str x3) (an R6 (wrap_eq hi hM))))) (by kernel_rfl)
theorem slices_Concat_string_string_b0_e (a0 : List (List ByteArray)) (y2 : Int) : Runs PG 36 0 slices_Concat_string_string_c0 (slices_Concat_string_string_F0 a0 (a0.length) y2) (slices_Concat_string_string_H0 a0 (a0.length) y2) (slices_Concat_string_string_B0 a0 y2) := by
  exact Runs.path XTok PGmix [.r [], .b false] [] (lt_false (a0.length)) (by kernel_rfl)
theorem slices_Concat_string_string_l0 (a0 : List (List ByteArray)) (y2 : Int) (r : Fin' Int (List ByteArray)) (h : forN (fun i1 s => slices_Concat_string_string_b0 a0 i1 s) (a0.length) 0 y2 = some r) : Runs PG 36 0 (cL (cR (cL (cR (cR slices_Concat_string_string_c))))) (slices_Concat_string_string_F0 a0 0 y2) (slices_Concat_string_string_H0 a0 0 y2) (finOc (slices_Concat_string_string_B0 a0) slices_Concat_string_string_R r) :=
  Runs.loop' (by kernel_rfl) (forN_rounds (σ := Int) (ρ := (List ByteArray)) (body := fun i1 s => slices_Concat_string_string_b0 a0 i1 s) (F := fun i1 s => slices_Concat_string_string_F0 a0 i1 s) (H := fun i1 s => slices_Concat_string_string_H0 a0 i1 s) (B := slices_Concat_string_string_B0 a0) (R := slices_Concat_string_string_R) (M := a0.length) (fun _ => rfl) (fun _ => rfl) (fun s => slices_Concat_string_string_b0_e a0 s) (fun i s o hi h => slices_Concat_string_string_b0_r a0 i s o hi h) _ 0 _ r (Nat.zero_add _) h)
noncomputable def slices_Concat_string_string_c1 : Code := cL (cL (cR (cL (cR (cR (cR (cR slices_Concat_string_string_c)))))))
noncomputable def slices_Concat_string_string_F1 (a0 : List (List ByteArray)) (i14 : Nat) (y15 : List ByteArray) : Fr := [(6, .t (.v (.rt 0))), (25, lA 1 (List.map e_sl_str a0)), (26, iA (a0.length : Int)), (27, iA (i14 : Int))]
noncomputable def slices_Concat_string_string_H1 (a0 : List (List ByteArray)) (i14 : Nat) (y15 : List ByteArray) : Hp := [(0, .row 9 1 (List.map e_str y15))]
noncomputable def slices_Concat_string_string_B1 (a0 : List (List ByteArray)) (s : List ByteArray) : Oc := .ex 2 [(6, .t (.v (.rt 0)))] [(0, .row 9 1 (List.map e_str s))]
noncomputable def slices_Concat_string_string_b1 (a0 : List (List ByteArray)) (i14 : Nat) (y15 : List ByteArray) : Option (Stp (List ByteArray) (List ByteArray)) :=
 bnd (atI a0 (i14 : Int)) fun x16 =>
 grd (y15.length + x16.length ≤ lim) <|
 some (.go (y15 ++ x16))
theorem slices_Concat_string_string_b1_r (a0 : List (List ByteArray)) (i14 : Nat) (y15 : List ByteArray) (o : Stp (List ByteArray) (List ByteArray)) (hi : i14 < a0.length) (h : slices_Concat_string_string_b1 a0 i14 y15 = some o) :
    Runs PG 36 0 slices_Concat_string_string_c1 (slices_Concat_string_string_F1 a0 i14 y15) (slices_Concat_string_string_H1 a0 i14 y15) (stpOc (fun s' => .nor (slices_Concat_string_string_F1 a0 (i14 + 1) s') (slices_Concat_string_string_H1 a0 (i14 + 1) s')) (slices_Concat_string_string_B1 a0) slices_Concat_string_string_R o) := by
  unfold slices_Concat_string_string_b1 at h
  refine Runs.len (s := 25) (sz := 1) (xs := List.map e_sl_str a0) (by kernel_rfl) fun hl => ?_
  have hM : a0.length ≤ lim := len_of hl
  obtain ⟨x16, h17, h⟩ := bnd_e h
  obtain ⟨h18, h⟩ := grd_e h
  have h := Option.some.inj h
  subst h
  exact Runs.path XTok PGmix [.r [], .b true, .r [.el [.sl 1 (List.map e_str x16)]], .r [.id 1, .row (List.map e_str (y15 ++ x16))], .r [.eq 34 (iA ((i14 + 1 : Nat) : Int))]] [(0, 1)] (an (lt_true hi) (an (idx_ok e_sl_str h17) (an (app_ok e_str h18) (wrap_eq hi hM)))) (by kernel_rfl)
theorem slices_Concat_string_string_b1_e (a0 : List (List ByteArray)) (y15 : List ByteArray) : Runs PG 36 0 slices_Concat_string_string_c1 (slices_Concat_string_string_F1 a0 (a0.length) y15) (slices_Concat_string_string_H1 a0 (a0.length) y15) (slices_Concat_string_string_B1 a0 y15) := by
  exact Runs.path XTok PGmix [.r [], .b false] [] (lt_false (a0.length)) (by kernel_rfl)
theorem slices_Concat_string_string_l1 (a0 : List (List ByteArray)) (y15 : List ByteArray) (r : Fin' (List ByteArray) (List ByteArray)) (h : forN (fun i14 s => slices_Concat_string_string_b1 a0 i14 s) (a0.length) 0 y15 = some r) : Runs PG 36 0 (cL (cR (cL (cR (cR (cR (cR slices_Concat_string_string_c))))))) (slices_Concat_string_string_F1 a0 0 y15) (slices_Concat_string_string_H1 a0 0 y15) (finOc (slices_Concat_string_string_B1 a0) slices_Concat_string_string_R r) :=
  Runs.loop' (by kernel_rfl) (forN_rounds (σ := (List ByteArray)) (ρ := (List ByteArray)) (body := fun i14 s => slices_Concat_string_string_b1 a0 i14 s) (F := fun i14 s => slices_Concat_string_string_F1 a0 i14 s) (H := fun i14 s => slices_Concat_string_string_H1 a0 i14 s) (B := slices_Concat_string_string_B1 a0) (R := slices_Concat_string_string_R) (M := a0.length) (fun _ => rfl) (fun _ => rfl) (fun s => slices_Concat_string_string_b1_e a0 s) (fun i s o hi h => slices_Concat_string_string_b1_r a0 i s o hi h) _ 0 _ r (Nat.zero_add _) h)
noncomputable def slices_Concat_string_string (a0 : List (List ByteArray)) : Option (List ByteArray) :=
 aft1 (forN (fun i1 s => slices_Concat_string_string_b0 a0 i1 s) (a0.length) 0 0) (fun u9 =>
 bnd (slices_Grow_string_string u9) fun r12 =>
 aft1 (forN (fun i14 s => slices_Concat_string_string_b1 a0 i14 s) (a0.length) 0 r12) (fun u19 =>
 some u19)
 (fun r21 =>
 some r21))
 (fun r11 =>
 some r11)
theorem slices_Concat_string_string_ok (a0 : List (List ByteArray)) (r : List ByteArray) (h : slices_Concat_string_string a0 = some r) : Spec PG 38 [lT 1 (List.map e_sl_str a0)] [] (.t (.v (.rt 0))) [(0, .row 9 1 (List.map e_str r))] := by
  unfold slices_Concat_string_string at h
  rcases aft1_e h with ⟨u9, h10, h⟩ | ⟨r11, h10, h⟩
  · obtain ⟨r12, h13, h⟩ := bnd_e h
    rcases aft1_e h with ⟨u19, h20, h⟩ | ⟨r21, h20, h⟩
    · have h := Option.some.inj h
      subst h
      exact Spec.path XTok PGmix slices_Concat_string_string_fn 0 [.r [.nl 1], .r [], .r [.eq 10 (iA (a0.length : Int))], .s (slices_Concat_string_string_F0 a0 0 0) (slices_Concat_string_string_H0 a0 0 0) [] (slices_Concat_string_string_B0 a0 u9), .r [.call [(0, 0)] [.v (.c (.nil)), iT u9] [] (.t (.v (.rt 0))) [(0, .row 9 1 (List.map e_str r12))]], .r [.eq 26 (iA (a0.length : Int))], .s (slices_Concat_string_string_F1 a0 0 r12) (slices_Concat_string_string_H1 a0 0 r12) [] (slices_Concat_string_string_B1 a0 u19), .r []] (an (leni_eq e_sl_str a0) (an (slices_Concat_string_string_l0 a0 0 (.fin u9) h10) (an (an (slices_Grow_string_string_ok u9 r12 h13) (an (Eq.refl ([.v (.c (.nil)), iT u9] : List TV)) (Eq.refl (renH (asg [(0, 0)]) [])))) (an (leni_eq e_sl_str a0) (slices_Concat_string_string_l1 a0 r12 (.fin u19) h20))))) (by kernel_rfl)
    · have h := Option.some.inj h
      subst h
      exact Spec.path XTok PGmix slices_Concat_string_string_fn 0 [.r [.nl 1], .r [], .r [.eq 10 (iA (a0.length : Int))], .s (slices_Concat_string_string_F0 a0 0 0) (slices_Concat_string_string_H0 a0 0 0) [] (slices_Concat_string_string_B0 a0 u9), .r [.call [(0, 0)] [.v (.c (.nil)), iT u9] [] (.t (.v (.rt 0))) [(0, .row 9 1 (List.map e_str r12))]], .r [.eq 26 (iA (a0.length : Int))], .s (slices_Concat_string_string_F1 a0 0 r12) (slices_Concat_string_string_H1 a0 0 r12) [] (slices_Concat_string_string_R r21)] (an (leni_eq e_sl_str a0) (an (slices_Concat_string_string_l0 a0 0 (.fin u9) h10) (an (an (slices_Grow_string_string_ok u9 r12 h13) (an (Eq.refl ([.v (.c (.nil)), iT u9] : List TV)) (Eq.refl (renH (asg [(0, 0)]) [])))) (an (leni_eq e_sl_str a0) (slices_Concat_string_string_l1 a0 r12 (.ret r21) h20))))) (by kernel_rfl)
  · have h := Option.some.inj h
    subst h
    exact Spec.path XTok PGmix slices_Concat_string_string_fn 0 [.r [.nl 1], .r [], .r [.eq 10 (iA (a0.length : Int))], .s (slices_Concat_string_string_F0 a0 0 0) (slices_Concat_string_string_H0 a0 0 0) [] (slices_Concat_string_string_R r11)] (an (leni_eq e_sl_str a0) (slices_Concat_string_string_l0 a0 0 (.ret r11) h10)) (by kernel_rfl)

noncomputable def law_NetlistIslandsHaveAll_c : Code := (Go.Proofs.Tryd.f11.body).getD .skip
theorem law_NetlistIslandsHaveAll_fn : FnOk PG 11 law_NetlistIslandsHaveAll_c 89 [.tmp 6] := ⟨⟨Go.Proofs.Tryd.f11, by kernel_rfl, by kernel_rfl, by kernel_rfl, by kernel_rfl, by kernel_rfl⟩⟩
noncomputable def law_NetlistIslandsHaveAll_c0 : Code := cL (cL (cR (cL (cR (cR (cR (cR (cR (cR law_NetlistIslandsHaveAll_c)))))))))
noncomputable def law_NetlistIslandsHaveAll_R (r : Bool) : Oc := .ret [(6, bA r)] []
noncomputable def law_NetlistIslandsHaveAll_F0 (a0 : List PartType) (a1 : Netlist) (r13 : List ByteArray) (i16 : Nat) : Fr := [(0, lA 2 (List.map e_PartType a0)), (4, .t (.v (.ptr 0 0))), (9, .t (.v (.rt 1))), (41, lA 2 (List.map e_Part a1.Parts)), (42, iA (a1.Parts.length : Int)), (43, iA (i16 : Int))]
noncomputable def law_NetlistIslandsHaveAll_H0 (a0 : List PartType) (a1 : Netlist) (r13 : List ByteArray) (i16 : Nat) : Hp := [(1, .row 9 1 (List.map e_str r13)), (0, .cells 26 [.c (.sl 2 (List.map e_Part a1.Parts)), .c (.sl 3 (List.map e_Net a1.Nets))])]
noncomputable def law_NetlistIslandsHaveAll_B0 (a0 : List PartType) (a1 : Netlist) (r13 : List ByteArray) (s : Unit) : Oc := .ex 0 [(0, lA 2 (List.map e_PartType a0)), (4, .t (.v (.ptr 0 0)))] [(0, .cells 26 [.c (.sl 2 (List.map e_Part a1.Parts)), .c (.sl 3 (List.map e_Net a1.Nets))])]
noncomputable def law_NetlistIslandsHaveAll_b0 (a0 : List PartType) (a1 : Netlist) (r13 : List ByteArray) (i16 : Nat) : Option (Stp Unit Bool) :=
 bnd (atI a1.Parts (i16 : Int)) fun x17 =>
 bnd (atI r13 (i16 : Int)) fun x19 =>
 cnd (sNe x19 x17.Name) (some (.ret false)) (some (.go ()))
theorem law_NetlistIslandsHaveAll_b0_r (a0 : List PartType) (a1 : Netlist) (r13 : List ByteArray) (i16 : Nat) (o : Stp Unit Bool) (hi : i16 < a1.Parts.length) (h : law_NetlistIslandsHaveAll_b0 a0 a1 r13 i16 = some o) :
    Runs PG 89 0 law_NetlistIslandsHaveAll_c0 (law_NetlistIslandsHaveAll_F0 a0 a1 r13 i16 ) (law_NetlistIslandsHaveAll_H0 a0 a1 r13 i16 ) (stpOc (fun s' => .nor (law_NetlistIslandsHaveAll_F0 a0 a1 r13 (i16 + 1) ) (law_NetlistIslandsHaveAll_H0 a0 a1 r13 (i16 + 1) )) (law_NetlistIslandsHaveAll_B0 a0 a1 r13) law_NetlistIslandsHaveAll_R o) := by
  unfold law_NetlistIslandsHaveAll_b0 at h
  refine Runs.len (s := 41) (sz := 2) (xs := List.map e_Part a1.Parts) (by kernel_rfl) fun hl => ?_
  have hM : a1.Parts.length ≤ lim := len_of hl
  obtain ⟨x17, h18, h⟩ := bnd_e h
  obtain ⟨x19, h20, h⟩ := bnd_e h
  rcases cnd_e h with ⟨h21, h⟩ | ⟨h21, h⟩
  · have h := Option.some.inj h
    subst h
    exact Runs.path XTok PGmix [.r [], .b true, .r [.el (e_Part x17), .id 2], .d [([], []), ([], []), ([1], []), ([1], [.el [sC x19]]), ([], []), ([2], []), ([], [])], .b true, .r []] [] (an (lt_true hi) (an (idx_ok e_Part h18) (an (idx_lt e_str h20) (an (idx_el e_str h20) h21)))) (by kernel_rfl)
  · have h := Option.some.inj h
    subst h
    exact Runs.path XTok PGmix [.r [], .b true, .r [.el (e_Part x17), .id 2], .d [([], []), ([], []), ([1], []), ([1], [.el [sC x19]]), ([], []), ([2], []), ([], [])], .b false, .r [.eq 55 (iA ((i16 + 1 : Nat) : Int))]] [] (an (lt_true hi) (an (idx_ok e_Part h18) (an (idx_lt e_str h20) (an (idx_el e_str h20) (an h21 (wrap_eq hi hM)))))) (by kernel_rfl)
theorem law_NetlistIslandsHaveAll_b0_e (a0 : List PartType) (a1 : Netlist) (r13 : List ByteArray) : Runs PG 89 0 law_NetlistIslandsHaveAll_c0 (law_NetlistIslandsHaveAll_F0 a0 a1 r13 (a1.Parts.length) ) (law_NetlistIslandsHaveAll_H0 a0 a1 r13 (a1.Parts.length) ) (law_NetlistIslandsHaveAll_B0 a0 a1 r13 ()) := by
  exact Runs.path XTok PGmix [.r [], .b false] [] (lt_false (a1.Parts.length)) (by kernel_rfl)
theorem law_NetlistIslandsHaveAll_l0 (a0 : List PartType) (a1 : Netlist) (r13 : List ByteArray) (r : Fin' Unit Bool) (h : forN (fun i16 s => law_NetlistIslandsHaveAll_b0 a0 a1 r13 i16 ) (a1.Parts.length) 0 () = some r) : Runs PG 89 0 (cL (cR (cL (cR (cR (cR (cR (cR (cR law_NetlistIslandsHaveAll_c))))))))) (law_NetlistIslandsHaveAll_F0 a0 a1 r13 0 ) (law_NetlistIslandsHaveAll_H0 a0 a1 r13 0 ) (finOc (law_NetlistIslandsHaveAll_B0 a0 a1 r13) law_NetlistIslandsHaveAll_R r) :=
  Runs.loop' (by kernel_rfl) (forN_rounds (σ := Unit) (ρ := Bool) (body := fun i16 s => law_NetlistIslandsHaveAll_b0 a0 a1 r13 i16 ) (F := fun i16 s => law_NetlistIslandsHaveAll_F0 a0 a1 r13 i16 ) (H := fun i16 s => law_NetlistIslandsHaveAll_H0 a0 a1 r13 i16 ) (B := law_NetlistIslandsHaveAll_B0 a0 a1 r13) (R := law_NetlistIslandsHaveAll_R) (M := a1.Parts.length) (fun _ => rfl) (fun _ => rfl) (fun s => law_NetlistIslandsHaveAll_b0_e a0 a1 r13 ) (fun i s o hi h => law_NetlistIslandsHaveAll_b0_r a0 a1 r13 i o hi h) _ 0 _ r (Nat.zero_add _) h)
noncomputable def law_NetlistIslandsHaveAll_c1 : Code := cL (cL (cR (cL (cR (cR (cR (cR (cR (cR (cR (cR law_NetlistIslandsHaveAll_c)))))))))))
noncomputable def law_NetlistIslandsHaveAll_F1 (a0 : List PartType) (a1 : Netlist) (i24 : Nat) (y25 : List ByteArray) : Fr := [(0, lA 2 (List.map e_PartType a0)), (4, .t (.v (.ptr 0 0))), (12, .t (.v (.rt 1))), (57, lA 3 (List.map e_Net a1.Nets)), (58, iA (a1.Nets.length : Int)), (59, iA (i24 : Int))]
noncomputable def law_NetlistIslandsHaveAll_H1 (a0 : List PartType) (a1 : Netlist) (i24 : Nat) (y25 : List ByteArray) : Hp := [(0, .cells 26 [.c (.sl 2 (List.map e_Part a1.Parts)), .c (.sl 3 (List.map e_Net a1.Nets))]), (1, .row 9 1 (List.map e_str y25))]
noncomputable def law_NetlistIslandsHaveAll_B1 (a0 : List PartType) (a1 : Netlist) (s : List ByteArray) : Oc := .ex 2 [(0, lA 2 (List.map e_PartType a0)), (4, .t (.v (.ptr 0 0))), (12, .t (.v (.rt 1)))] [(0, .cells 26 [.c (.sl 2 (List.map e_Part a1.Parts)), .c (.sl 3 (List.map e_Net a1.Nets))]), (1, .row 9 1 (List.map e_str s))]
noncomputable def law_NetlistIslandsHaveAll_b1 (a0 : List PartType) (a1 : Netlist) (i24 : Nat) (y25 : List ByteArray) : Option (Stp (List ByteArray) Bool) :=
 bnd (atI a1.Nets (i24 : Int)) fun x26 =>
 grd (y25.length + [x26.Name].length ≤ lim) <|
 some (.go (y25 ++ [x26.Name]))
theorem law_NetlistIslandsHaveAll_b1_r (a0 : List PartType) (a1 : Netlist) (i24 : Nat) (y25 : List ByteArray) (o : Stp (List ByteArray) Bool) (hi : i24 < a1.Nets.length) (h : law_NetlistIslandsHaveAll_b1 a0 a1 i24 y25 = some o) :
    Runs PG 89 0 law_NetlistIslandsHaveAll_c1 (law_NetlistIslandsHaveAll_F1 a0 a1 i24 y25) (law_NetlistIslandsHaveAll_H1 a0 a1 i24 y25) (stpOc (fun s' => .nor (law_NetlistIslandsHaveAll_F1 a0 a1 (i24 + 1) s') (law_NetlistIslandsHaveAll_H1 a0 a1 (i24 + 1) s')) (law_NetlistIslandsHaveAll_B1 a0 a1) law_NetlistIslandsHaveAll_R o) := by
  unfold law_NetlistIslandsHaveAll_b1 at h
  refine Runs.len (s := 57) (sz := 3) (xs := List.map e_Net a1.Nets) (by kernel_rfl) fun hl => ?_
  have hM : a1.Nets.length ≤ lim := len_of hl
  obtain ⟨x26, h27, h⟩ := bnd_e h
  obtain ⟨h28, h⟩ := grd_e h
  have h := Option.some.inj h
  subst h
  exact Runs.path XTok PGmix [.r [], .b true, .r [.el (e_Net x26), .id 2], .r [.id 3, .row (List.map e_str [x26.Name]), .id 4, .row (List.map e_str (y25 ++ [x26.Name]))], .r [.eq 68 (iA ((i24 + 1 : Nat) : Int))]] [(1, 4)] (an (lt_true hi) (an (idx_ok e_Net h27) (an (Eq.refl (List.flatten (List.map e_str [x26.Name]))) (an (app_ok e_str h28) (wrap_eq hi hM))))) (by kernel_rfl)
theorem law_NetlistIslandsHaveAll_b1_e (a0 : List PartType) (a1 : Netlist) (y25 : List ByteArray) : Runs PG 89 0 law_NetlistIslandsHaveAll_c1 (law_NetlistIslandsHaveAll_F1 a0 a1 (a1.Nets.length) y25) (law_NetlistIslandsHaveAll_H1 a0 a1 (a1.Nets.length) y25) (law_NetlistIslandsHaveAll_B1 a0 a1 y25) := by
  exact Runs.path XTok PGmix [.r [], .b false] [] (lt_false (a1.Nets.length)) (by kernel_rfl)
theorem law_NetlistIslandsHaveAll_l1 (a0 : List PartType) (a1 : Netlist) (y25 : List ByteArray) (r : Fin' (List ByteArray) Bool) (h : forN (fun i24 s => law_NetlistIslandsHaveAll_b1 a0 a1 i24 s) (a1.Nets.length) 0 y25 = some r) : Runs PG 89 0 (cL (cR (cL (cR (cR (cR (cR (cR (cR (cR (cR law_NetlistIslandsHaveAll_c))))))))))) (law_NetlistIslandsHaveAll_F1 a0 a1 0 y25) (law_NetlistIslandsHaveAll_H1 a0 a1 0 y25) (finOc (law_NetlistIslandsHaveAll_B1 a0 a1) law_NetlistIslandsHaveAll_R r) :=
  Runs.loop' (by kernel_rfl) (forN_rounds (σ := (List ByteArray)) (ρ := Bool) (body := fun i24 s => law_NetlistIslandsHaveAll_b1 a0 a1 i24 s) (F := fun i24 s => law_NetlistIslandsHaveAll_F1 a0 a1 i24 s) (H := fun i24 s => law_NetlistIslandsHaveAll_H1 a0 a1 i24 s) (B := law_NetlistIslandsHaveAll_B1 a0 a1) (R := law_NetlistIslandsHaveAll_R) (M := a1.Nets.length) (fun _ => rfl) (fun _ => rfl) (fun s => law_NetlistIslandsHaveAll_b1_e a0 a1 s) (fun i s o hi h => law_NetlistIslandsHaveAll_b1_r a0 a1 i s o hi h) _ 0 _ r (Nat.zero_add _) h)
noncomputable def law_NetlistIslandsHaveAll (a0 : List PartType) (a1 : Netlist) (a2 : List ByteArray) : Option Bool :=
 bnd (nl_Islands a0 a1 a2) fun r1 =>
 cnd (r1.2 != 0) (bnd1 (cnd ((r1.1.length : Int) == 0) (bnd (law_awake ) fun r8 =>
 some r8) (some false)) fun v4 =>
 some v4) (bnd (slices_Concat_string_string r1.1) fun r11 =>
 bnd (h_Sort_string r11) fun r13 =>
 cnd ((r13.length : Int) != (a1.Parts.length : Int)) (some false) (aft0 (forN (fun i16 s => law_NetlistIslandsHaveAll_b0 a0 a1 r13 i16 ) (a1.Parts.length) 0 ()) (
 aft1 (forN (fun i24 s => law_NetlistIslandsHaveAll_b1 a0 a1 i24 s) (a1.Nets.length) 0 []) (fun u29 =>
 bnd (nl_Islands a0 a1 u29) fun r32 =>
 bnd1 (cnd (r32.2 == 0) (cnd ((r32.1.length : Int) == (a1.Parts.length : Int)) (bnd (law_awake ) fun r39 =>
 some r39) (some false)) (some false)) fun v34 =>
 some v34)
 (fun r31 =>
 some r31))
 (fun r23 =>
 some r23)))
theorem law_NetlistIslandsHaveAll_ok (a0 : List PartType) (a1 : Netlist) (a2 : List ByteArray) (r : Bool) (h : law_NetlistIslandsHaveAll a0 a1 a2 = some r) : Spec PG 11 [lT 2 (List.map e_PartType a0), gT (e_Netlist a1), lT 1 (List.map e_str a2)] [] (bA r) [] := by
  unfold law_NetlistIslandsHaveAll at h
  obtain ⟨r1, h2, h⟩ := bnd_e h
  rcases cnd_e h with ⟨h3, h⟩ | ⟨h3, h⟩
  · obtain ⟨v4, h5, h⟩ := bnd1_e h
    let q10_f : Fr := [(7, lA 1 (List.map e_sl_str r1.1))]
    let q10_g : Hp := []
    let q10_f' : Fr := [(6, bA v4)]
    let q10_g' : Hp := []
    have R6 : Runs PG 89 0 (cL (cL (cR (cL (cR (cR law_NetlistIslandsHaveAll_c)))))) q10_f q10_g (.nor q10_f' q10_g') := by
      rcases cnd_e h5 with ⟨h7, h5⟩ | ⟨h7, h5⟩
      · obtain ⟨r8, h9, h5⟩ := bnd_e h5
        have h5 := Option.some.inj h5
        subst h5
        exact Runs.path XTok PGmix [.r [.eq 25 (iA (r1.1.length : Int)), .b true, .val (bA r8), .b true]] [] (an (leni_eq e_sl_str r1.1) (an h7 (an (law_awake_ok r8 h9) h7))) (by kernel_rfl)
      · have h5 := Option.some.inj h5
        subst h5
        exact Runs.path XTok PGmix [.r [.eq 25 (iA (r1.1.length : Int)), .b false, .b false]] [] (an (leni_eq e_sl_str r1.1) (an h7 h7)) (by kernel_rfl)
    have h := Option.some.inj h
    subst h
    exact Spec.path XTok PGmix law_NetlistIslandsHaveAll_fn 0 [.r [.id 0], .r [.val (.tup [lT 1 (List.map e_sl_str r1.1), iT r1.2])], .r [], .b true, .s q10_f q10_g [] (.nor q10_f' q10_g')] (an (nl_Islands_ok a0 a1 a2 r1 h2) (an h3 R6)) (by kernel_rfl)
  · obtain ⟨r11, h12, h⟩ := bnd_e h
    obtain ⟨r13, h14, h⟩ := bnd_e h
    rcases cnd_e h with ⟨h15, h⟩ | ⟨h15, h⟩
    · have h := Option.some.inj h
      subst h
      exact Spec.path XTok PGmix law_NetlistIslandsHaveAll_fn 0 [.r [.id 0], .r [.val (.tup [lT 1 (List.map e_sl_str r1.1), iT r1.2])], .r [], .b false, .r [.call [(0, 1)] [lT 1 (List.map e_sl_str r1.1)] [] (.t (.v (.rt 0))) [(0, .row 9 1 (List.map e_str r11))]], .r [.call [(0, 1)] [.v (.rt 0)] [(0, .row 9 1 (List.map e_str r11))] (.tup []) [(0, .row 9 1 (List.map e_str r13))]], .r [.eq 35 (iA (r13.length : Int)), .eq 38 (iA (a1.Parts.length : Int))], .b true, .r []] (an (nl_Islands_ok a0 a1 a2 r1 h2) (an h3 (an (an (slices_Concat_string_string_ok r1.1 r11 h12) (an (Eq.refl ([lT 1 (List.map e_sl_str r1.1)] : List TV)) (Eq.refl (renH (asg [(0, 1)]) [])))) (an (an (h_Sort_string_ok r11 r13 h14) (an (Eq.refl ([.v (.rt 1)] : List TV)) (Eq.refl (renH (asg [(0, 1)]) [(0, .row 9 1 (List.map e_str r11))])))) (an (leni_eq e_str r13) (an (leni_eq e_Part a1.Parts) h15)))))) (by kernel_rfl)
    · rcases aft0_e h with ⟨h22, h⟩ | ⟨r23, h22, h⟩
      · rcases aft1_e h with ⟨u29, h30, h⟩ | ⟨r31, h30, h⟩
        · obtain ⟨r32, h33, h⟩ := bnd_e h
          obtain ⟨v34, h35, h⟩ := bnd1_e h
          let q41_f : Fr := [(4, .t (.v (.ptr 0 0))), (7, lA 1 (List.map e_sl_str r32.1)), (8, iA r32.2)]
          let q41_g : Hp := [(0, .cells 26 [.c (.sl 2 (List.map e_Part a1.Parts)), .c (.sl 3 (List.map e_Net a1.Nets))])]
          let q41_f' : Fr := [(6, bA v34)]
          let q41_g' : Hp := []
          have R36 : Runs PG 89 0 (cL (cR (cR (cR (cR (cR (cR (cR (cR (cR (cR law_NetlistIslandsHaveAll_c))))))))))) q41_f q41_g (.nor q41_f' q41_g') := by
            rcases cnd_e h35 with ⟨h37, h35⟩ | ⟨h37, h35⟩
            · rcases cnd_e h35 with ⟨h38, h35⟩ | ⟨h38, h35⟩
              · obtain ⟨r39, h40, h35⟩ := bnd_e h35
                have h35 := Option.some.inj h35
                subst h35
                exact Runs.path XTok PGmix [.r [.b true, .b true, .eq 80 (iA (r32.1.length : Int)), .b true, .b true, .b true, .eq 83 (iA (a1.Parts.length : Int)), .b true, .b true, .b true, .val (bA r39), .b true]] [] (an h37 (an h37 (an (leni_eq e_sl_str r32.1) (an h37 (an h37 (an h37 (an (leni_eq e_Part a1.Parts) (an h37 (an h37 (an h38 (an (law_awake_ok r39 h40) h38))))))))))) (by kernel_rfl)
              · have h35 := Option.some.inj h35
                subst h35
                exact Runs.path XTok PGmix [.r [.b true, .b true, .eq 80 (iA (r32.1.length : Int)), .b true, .b true, .b true, .eq 83 (iA (a1.Parts.length : Int)), .b true, .b true, .b false, .b false]] [] (an h37 (an h37 (an (leni_eq e_sl_str r32.1) (an h37 (an h37 (an h37 (an (leni_eq e_Part a1.Parts) (an h37 (an h37 (an h38 h38)))))))))) (by kernel_rfl)
            · have h35 := Option.some.inj h35
              subst h35
              exact Runs.path XTok PGmix [.r [.b false, .b false, .b false, .b false, .b false, .b false, .b false, .b false, .b false]] [] (an h37 (an h37 (an h37 (an h37 (an h37 (an h37 (an h37 (an (Eq.refl false) (Eq.refl false))))))))) (by kernel_rfl)
          have h := Option.some.inj h
          subst h
          exact Spec.path XTok PGmix law_NetlistIslandsHaveAll_fn 0 [.r [.id 0], .r [.val (.tup [lT 1 (List.map e_sl_str r1.1), iT r1.2])], .r [], .b false, .r [.call [(0, 1)] [lT 1 (List.map e_sl_str r1.1)] [] (.t (.v (.rt 0))) [(0, .row 9 1 (List.map e_str r11))]], .r [.call [(0, 1)] [.v (.rt 0)] [(0, .row 9 1 (List.map e_str r11))] (.tup []) [(0, .row 9 1 (List.map e_str r13))]], .r [.eq 35 (iA (r13.length : Int)), .eq 38 (iA (a1.Parts.length : Int))], .b false, .r [.eq 42 (iA (a1.Parts.length : Int))], .s (law_NetlistIslandsHaveAll_F0 a0 a1 r13 0 ) (law_NetlistIslandsHaveAll_H0 a0 a1 r13 0 ) [] (law_NetlistIslandsHaveAll_B0 a0 a1 r13 ()), .r [.mk 1 9 1], .r [.eq 58 (iA (a1.Nets.length : Int))], .s (law_NetlistIslandsHaveAll_F1 a0 a1 0 []) (law_NetlistIslandsHaveAll_H1 a0 a1 0 []) [] (law_NetlistIslandsHaveAll_B1 a0 a1 u29), .r [.fz 1, .val (.tup [lT 1 (List.map e_sl_str r32.1), iT r32.2])], .s q41_f q41_g [] (.nor q41_f' q41_g')] (an (nl_Islands_ok a0 a1 a2 r1 h2) (an h3 (an (an (slices_Concat_string_string_ok r1.1 r11 h12) (an (Eq.refl ([lT 1 (List.map e_sl_str r1.1)] : List TV)) (Eq.refl (renH (asg [(0, 1)]) [])))) (an (an (h_Sort_string_ok r11 r13 h14) (an (Eq.refl ([.v (.rt 1)] : List TV)) (Eq.refl (renH (asg [(0, 1)]) [(0, .row 9 1 (List.map e_str r11))])))) (an (leni_eq e_str r13) (an (leni_eq e_Part a1.Parts) (an h15 (an (leni_eq e_Part a1.Parts) (an (law_NetlistIslandsHaveAll_l0 a0 a1 r13 (.fin ()) h22) (an (leni_eq e_Net a1.Nets) (an (law_NetlistIslandsHaveAll_l1 a0 a1 [] (.fin u29) h30) (an (nl_Islands_ok a0 a1 u29 r32 h33) R36)))))))))))) (by kernel_rfl)
        · have h := Option.some.inj h
          subst h
          exact Spec.path XTok PGmix law_NetlistIslandsHaveAll_fn 0 [.r [.id 0], .r [.val (.tup [lT 1 (List.map e_sl_str r1.1), iT r1.2])], .r [], .b false, .r [.call [(0, 1)] [lT 1 (List.map e_sl_str r1.1)] [] (.t (.v (.rt 0))) [(0, .row 9 1 (List.map e_str r11))]], .r [.call [(0, 1)] [.v (.rt 0)] [(0, .row 9 1 (List.map e_str r11))] (.tup []) [(0, .row 9 1 (List.map e_str r13))]], .r [.eq 35 (iA (r13.length : Int)), .eq 38 (iA (a1.Parts.length : Int))], .b false, .r [.eq 42 (iA (a1.Parts.length : Int))], .s (law_NetlistIslandsHaveAll_F0 a0 a1 r13 0 ) (law_NetlistIslandsHaveAll_H0 a0 a1 r13 0 ) [] (law_NetlistIslandsHaveAll_B0 a0 a1 r13 ()), .r [.mk 1 9 1], .r [.eq 58 (iA (a1.Nets.length : Int))], .s (law_NetlistIslandsHaveAll_F1 a0 a1 0 []) (law_NetlistIslandsHaveAll_H1 a0 a1 0 []) [] (law_NetlistIslandsHaveAll_R r31)] (an (nl_Islands_ok a0 a1 a2 r1 h2) (an h3 (an (an (slices_Concat_string_string_ok r1.1 r11 h12) (an (Eq.refl ([lT 1 (List.map e_sl_str r1.1)] : List TV)) (Eq.refl (renH (asg [(0, 1)]) [])))) (an (an (h_Sort_string_ok r11 r13 h14) (an (Eq.refl ([.v (.rt 1)] : List TV)) (Eq.refl (renH (asg [(0, 1)]) [(0, .row 9 1 (List.map e_str r11))])))) (an (leni_eq e_str r13) (an (leni_eq e_Part a1.Parts) (an h15 (an (leni_eq e_Part a1.Parts) (an (law_NetlistIslandsHaveAll_l0 a0 a1 r13 (.fin ()) h22) (an (leni_eq e_Net a1.Nets) (law_NetlistIslandsHaveAll_l1 a0 a1 [] (.ret r31) h30))))))))))) (by kernel_rfl)
      · have h := Option.some.inj h
        subst h
        exact Spec.path XTok PGmix law_NetlistIslandsHaveAll_fn 0 [.r [.id 0], .r [.val (.tup [lT 1 (List.map e_sl_str r1.1), iT r1.2])], .r [], .b false, .r [.call [(0, 1)] [lT 1 (List.map e_sl_str r1.1)] [] (.t (.v (.rt 0))) [(0, .row 9 1 (List.map e_str r11))]], .r [.call [(0, 1)] [.v (.rt 0)] [(0, .row 9 1 (List.map e_str r11))] (.tup []) [(0, .row 9 1 (List.map e_str r13))]], .r [.eq 35 (iA (r13.length : Int)), .eq 38 (iA (a1.Parts.length : Int))], .b false, .r [.eq 42 (iA (a1.Parts.length : Int))], .s (law_NetlistIslandsHaveAll_F0 a0 a1 r13 0 ) (law_NetlistIslandsHaveAll_H0 a0 a1 r13 0 ) [] (law_NetlistIslandsHaveAll_R r23)] (an (nl_Islands_ok a0 a1 a2 r1 h2) (an h3 (an (an (slices_Concat_string_string_ok r1.1 r11 h12) (an (Eq.refl ([lT 1 (List.map e_sl_str r1.1)] : List TV)) (Eq.refl (renH (asg [(0, 1)]) [])))) (an (an (h_Sort_string_ok r11 r13 h14) (an (Eq.refl ([.v (.rt 1)] : List TV)) (Eq.refl (renH (asg [(0, 1)]) [(0, .row 9 1 (List.map e_str r11))])))) (an (leni_eq e_str r13) (an (leni_eq e_Part a1.Parts) (an h15 (an (leni_eq e_Part a1.Parts) (law_NetlistIslandsHaveAll_l0 a0 a1 r13 (.ret r23) h22))))))))) (by kernel_rfl)
end Go.Proofs.YtlbndchfmdogeaaDoor.Sym
