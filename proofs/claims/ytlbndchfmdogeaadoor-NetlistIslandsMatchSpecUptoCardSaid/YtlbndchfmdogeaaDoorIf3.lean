/- Printed by gen2.py: the plain forms of functions, and that calling them gives what these give. Conditions: none. -/
import Derived.Test.YtlbndchfmdogeaaDoorIf2
set_option linter.unusedVariables false
set_option maxHeartbeats 4000000
namespace Go.Proofs.YtlbndchfmdogeaaDoor.Sym
open Go Go.RowKit
noncomputable def nl_Islands_c : Code := (Go.Proofs.Tryd.f35.body).getD .skip
theorem nl_Islands_fn : FnOk PG 35 nl_Islands_c 101 [.tmp 6, .tmp 7] := ⟨⟨Go.Proofs.Tryd.f35, by kernel_rfl, by kernel_rfl, by kernel_rfl, by kernel_rfl, by kernel_rfl⟩⟩
noncomputable def nl_Islands_c0 : Code := cL (cL (cR (cL (cR (cR (cR (cR nl_Islands_c)))))))
noncomputable def nl_Islands_R (r : List (List ByteArray) × Int) : Oc := .ret [(6, lA 1 (List.map e_sl_str r.1)), (7, iA r.2)] []
noncomputable def nl_Islands_c1 : Code := cL (cL (cR (cR (cR (cL (cL (cR (cR nl_Islands_c0))))))))
noncomputable def nl_Islands_F1 (a1 : Netlist) (a2 : List ByteArray) (i9 : Nat) (x11 : Net) (i16 : Nat) (y17 : List Int) : Fr := [(2, lA 1 (List.map e_str a2)), (4, .t (.v (.c (.ptr (e_Netlist a1))))), (10, .t (.v (.ptr 1 0))), (12, .t (.v (.ptr 2 0))), (38, lA 3 (List.map e_Net a1.Nets)), (39, iA (a1.Nets.length : Int)), (40, iA (i9 : Int)), (49, lA 2 (List.map e_Pin x11.Pins)), (50, iA (x11.Pins.length : Int)), (51, iA (i16 : Int))]
noncomputable def nl_Islands_H1 (a1 : Netlist) (a2 : List ByteArray) (i9 : Nat) (x11 : Net) (i16 : Nat) (y17 : List Int) : Hp := [(0, .row 3 1 (List.map e_i64 y17)), (1, .cells 185 [.rt 0]), (2, .cells 64 [.c (sC x11.Name), .c (.sl 2 (List.map e_Pin x11.Pins)), .c (.sl 1 (List.map e_str x11.Ports))])]
noncomputable def nl_Islands_B1 (a1 : Netlist) (a2 : List ByteArray) (i9 : Nat) (x11 : Net) (s : List Int) : Oc := .ex 2 [(2, lA 1 (List.map e_str a2)), (4, .t (.v (.c (.ptr (e_Netlist a1))))), (10, .t (.v (.ptr 1 0))), (38, lA 3 (List.map e_Net a1.Nets)), (39, iA (a1.Nets.length : Int)), (40, iA (i9 : Int))] [(0, .row 3 1 (List.map e_i64 s)), (1, .cells 185 [.rt 0])]
noncomputable def nl_Islands_b1 (a1 : Netlist) (a2 : List ByteArray) (i9 : Nat) (x11 : Net) (i16 : Nat) (y17 : List Int) : Option (Stp (List Int) (List (List ByteArray) × Int)) :=
 bnd (atI x11.Pins (i16 : Int)) fun x18 =>
 bnd (nl_partAt a1.Parts x18.Part) fun r20 =>
 bnd (atI x11.Pins 0) fun x22 =>
 bnd (nl_partAt a1.Parts x22.Part) fun r24 =>
 bnd (nl_Union_Join (⟨y17⟩ : Union) r20 r24) fun r26 =>
 some (.go r26.up)
theorem nl_Islands_b1_r (a1 : Netlist) (a2 : List ByteArray) (i9 : Nat) (x11 : Net) (i16 : Nat) (y17 : List Int) (o : Stp (List Int) (List (List ByteArray) × Int)) (hi : i16 < x11.Pins.length) (h : nl_Islands_b1 a1 a2 i9 x11 i16 y17 = some o) :
    Runs PG 101 0 nl_Islands_c1 (nl_Islands_F1 a1 a2 i9 x11 i16 y17) (nl_Islands_H1 a1 a2 i9 x11 i16 y17) (stpOc (fun s' => .nor (nl_Islands_F1 a1 a2 i9 x11 (i16 + 1) s') (nl_Islands_H1 a1 a2 i9 x11 (i16 + 1) s')) (nl_Islands_B1 a1 a2 i9 x11) nl_Islands_R o) := by
  unfold nl_Islands_b1 at h
  refine Runs.len (s := 49) (sz := 2) (xs := List.map e_Pin x11.Pins) (by kernel_rfl) fun hl => ?_
  have hM : x11.Pins.length ≤ lim := len_of hl
  obtain ⟨x18, h19, h⟩ := bnd_e h
  obtain ⟨r20, h21, h⟩ := bnd_e h
  obtain ⟨x22, h23, h⟩ := bnd_e h
  obtain ⟨r24, h25, h⟩ := bnd_e h
  obtain ⟨r26, h27, h⟩ := bnd_e h
  have h := Option.some.inj h
  subst h
  exact Runs.path XTok PGmix [.r [], .b true, .r [.el (e_Pin x18), .id 3], .d [([], []), ([], []), ([], []), ([], []), ([3], []), ([], [.val (iA r20)]), ([], []), ([], []), ([], []), ([2], []), ([], [.el (e_Pin x22)]), ([], []), ([], []), ([], [.val (iA r24)]), ([1, 0], [.call [(0, 1), (1, 0)] [.v (.ptr 0 0), iT r20, iT r24] [(0, .cells 185 [.rt 1]), (1, .row 3 1 (List.map e_i64 y17))] (.tup []) [(0, .cells 185 [.rt 1]), (1, .row 3 1 (List.map e_i64 r26.up))]])], .r [.eq 70 (iA ((i16 + 1 : Nat) : Int))]] [] (an (lt_true hi) (an (idx_ok e_Pin h19) (an (nl_partAt_ok a1.Parts x18.Part r20 h21) (an (idx_ok e_Pin h23) (an (nl_partAt_ok a1.Parts x22.Part r24 h25) (an (an (nl_Union_Join_ok (⟨y17⟩ : Union) r20 r24 r26 h27) (an (Eq.refl ([.v (.ptr 1 0), iT r20, iT r24] : List TV)) (Eq.refl (renH (asg [(0, 1), (1, 0)]) [(0, .cells 185 [.rt 1]), (1, .row 3 1 (List.map e_i64 y17))])))) (wrap_eq hi hM))))))) (by kernel_rfl)
theorem nl_Islands_b1_e (a1 : Netlist) (a2 : List ByteArray) (i9 : Nat) (x11 : Net) (y17 : List Int) : Runs PG 101 0 nl_Islands_c1 (nl_Islands_F1 a1 a2 i9 x11 (x11.Pins.length) y17) (nl_Islands_H1 a1 a2 i9 x11 (x11.Pins.length) y17) (nl_Islands_B1 a1 a2 i9 x11 y17) := by
  exact Runs.path XTok PGmix [.r [], .b false] [] (lt_false (x11.Pins.length)) (by kernel_rfl)
theorem nl_Islands_l1 (a1 : Netlist) (a2 : List ByteArray) (i9 : Nat) (x11 : Net) (y17 : List Int) (r : Fin' (List Int) (List (List ByteArray) × Int)) (h : forN (fun i16 s => nl_Islands_b1 a1 a2 i9 x11 i16 s) (x11.Pins.length) 0 y17 = some r) : Runs PG 101 0 (cL (cR (cR (cR (cL (cL (cR (cR nl_Islands_c0)))))))) (nl_Islands_F1 a1 a2 i9 x11 0 y17) (nl_Islands_H1 a1 a2 i9 x11 0 y17) (finOc (nl_Islands_B1 a1 a2 i9 x11) nl_Islands_R r) :=
  Runs.loop' (by kernel_rfl) (forN_rounds (σ := (List Int)) (ρ := (List (List ByteArray) × Int)) (body := fun i16 s => nl_Islands_b1 a1 a2 i9 x11 i16 s) (F := fun i16 s => nl_Islands_F1 a1 a2 i9 x11 i16 s) (H := fun i16 s => nl_Islands_H1 a1 a2 i9 x11 i16 s) (B := nl_Islands_B1 a1 a2 i9 x11) (R := nl_Islands_R) (M := x11.Pins.length) (fun _ => rfl) (fun _ => rfl) (fun s => nl_Islands_b1_e a1 a2 i9 x11 s) (fun i s o hi h => nl_Islands_b1_r a1 a2 i9 x11 i s o hi h) _ 0 _ r (Nat.zero_add _) h)
noncomputable def nl_Islands_F0 (a1 : Netlist) (a2 : List ByteArray) (i9 : Nat) (y10 : List Int) : Fr := [(2, lA 1 (List.map e_str a2)), (4, .t (.v (.c (.ptr (e_Netlist a1))))), (10, .t (.v (.ptr 1 0))), (38, lA 3 (List.map e_Net a1.Nets)), (39, iA (a1.Nets.length : Int)), (40, iA (i9 : Int))]
noncomputable def nl_Islands_H0 (a1 : Netlist) (a2 : List ByteArray) (i9 : Nat) (y10 : List Int) : Hp := [(0, .row 3 1 (List.map e_i64 y10)), (1, .cells 185 [.rt 0])]
noncomputable def nl_Islands_B0 (a1 : Netlist) (a2 : List ByteArray) (s : List Int) : Oc := .ex 0 [(4, .t (.v (.c (.ptr (e_Netlist a1))))), (10, .t (.v (.ptr 1 0)))] [(0, .row 3 1 (List.map e_i64 s)), (1, .cells 185 [.rt 0])]
noncomputable def nl_Islands_b0 (a1 : Netlist) (a2 : List ByteArray) (i9 : Nat) (y10 : List Int) : Option (Stp (List Int) (List (List ByteArray) × Int)) :=
 bnd (atI a1.Nets (i9 : Int)) fun x11 =>
 bnd (nl_has a2 x11.Name) fun r13 =>
 cnd r13 (some (.go y10)) (aft1 (forN (fun i16 s => nl_Islands_b1 a1 a2 i9 x11 i16 s) (x11.Pins.length) 0 y10) (fun u28 =>
 some (.go u28))
 (fun r30 =>
 some (.ret r30)))
theorem nl_Islands_b0_r (a1 : Netlist) (a2 : List ByteArray) (i9 : Nat) (y10 : List Int) (o : Stp (List Int) (List (List ByteArray) × Int)) (hi : i9 < a1.Nets.length) (h : nl_Islands_b0 a1 a2 i9 y10 = some o) :
    Runs PG 101 0 nl_Islands_c0 (nl_Islands_F0 a1 a2 i9 y10) (nl_Islands_H0 a1 a2 i9 y10) (stpOc (fun s' => .nor (nl_Islands_F0 a1 a2 (i9 + 1) s') (nl_Islands_H0 a1 a2 (i9 + 1) s')) (nl_Islands_B0 a1 a2) nl_Islands_R o) := by
  unfold nl_Islands_b0 at h
  refine Runs.len (s := 38) (sz := 3) (xs := List.map e_Net a1.Nets) (by kernel_rfl) fun hl => ?_
  have hM : a1.Nets.length ≤ lim := len_of hl
  obtain ⟨x11, h12, h⟩ := bnd_e h
  obtain ⟨r13, h14, h⟩ := bnd_e h
  rcases cnd_e h with ⟨h15, h⟩ | ⟨h15, h⟩
  · have h := Option.some.inj h
    subst h
    exact Runs.path XTok PGmix [.r [], .b true, .r [.el (e_Net x11), .id 2], .r [.val (bA r13)], .b true, .r [.eq 71 (iA ((i9 + 1 : Nat) : Int))]] [] (an (lt_true hi) (an (idx_ok e_Net h12) (an (nl_has_ok a2 x11.Name r13 h14) (an h15 (wrap_eq hi hM))))) (by kernel_rfl)
  · rcases aft1_e h with ⟨u28, h29, h⟩ | ⟨r30, h29, h⟩
    · have h := Option.some.inj h
      subst h
      exact Runs.path XTok PGmix [.r [], .b true, .r [.el (e_Net x11), .id 2], .r [.val (bA r13)], .b false, .r [.eq 50 (iA (x11.Pins.length : Int))], .s (nl_Islands_F1 a1 a2 i9 x11 0 y10) (nl_Islands_H1 a1 a2 i9 x11 0 y10) [] (nl_Islands_B1 a1 a2 i9 x11 u28), .r [.eq 71 (iA ((i9 + 1 : Nat) : Int))]] [] (an (lt_true hi) (an (idx_ok e_Net h12) (an (nl_has_ok a2 x11.Name r13 h14) (an h15 (an (leni_eq e_Pin x11.Pins) (an (nl_Islands_l1 a1 a2 i9 x11 y10 (.fin u28) h29) (wrap_eq hi hM))))))) (by kernel_rfl)
    · have h := Option.some.inj h
      subst h
      exact Runs.path XTok PGmix [.r [], .b true, .r [.el (e_Net x11), .id 2], .r [.val (bA r13)], .b false, .r [.eq 50 (iA (x11.Pins.length : Int))], .s (nl_Islands_F1 a1 a2 i9 x11 0 y10) (nl_Islands_H1 a1 a2 i9 x11 0 y10) [] (nl_Islands_R r30)] [] (an (lt_true hi) (an (idx_ok e_Net h12) (an (nl_has_ok a2 x11.Name r13 h14) (an h15 (an (leni_eq e_Pin x11.Pins) (nl_Islands_l1 a1 a2 i9 x11 y10 (.ret r30) h29)))))) (by kernel_rfl)
theorem nl_Islands_b0_e (a1 : Netlist) (a2 : List ByteArray) (y10 : List Int) : Runs PG 101 0 nl_Islands_c0 (nl_Islands_F0 a1 a2 (a1.Nets.length) y10) (nl_Islands_H0 a1 a2 (a1.Nets.length) y10) (nl_Islands_B0 a1 a2 y10) := by
  exact Runs.path XTok PGmix [.r [], .b false] [] (lt_false (a1.Nets.length)) (by kernel_rfl)
theorem nl_Islands_l0 (a1 : Netlist) (a2 : List ByteArray) (y10 : List Int) (r : Fin' (List Int) (List (List ByteArray) × Int)) (h : forN (fun i9 s => nl_Islands_b0 a1 a2 i9 s) (a1.Nets.length) 0 y10 = some r) : Runs PG 101 0 (cL (cR (cL (cR (cR (cR (cR nl_Islands_c))))))) (nl_Islands_F0 a1 a2 0 y10) (nl_Islands_H0 a1 a2 0 y10) (finOc (nl_Islands_B0 a1 a2) nl_Islands_R r) :=
  Runs.loop' (by kernel_rfl) (forN_rounds (σ := (List Int)) (ρ := (List (List ByteArray) × Int)) (body := fun i9 s => nl_Islands_b0 a1 a2 i9 s) (F := fun i9 s => nl_Islands_F0 a1 a2 i9 s) (H := fun i9 s => nl_Islands_H0 a1 a2 i9 s) (B := nl_Islands_B0 a1 a2) (R := nl_Islands_R) (M := a1.Nets.length) (fun _ => rfl) (fun _ => rfl) (fun s => nl_Islands_b0_e a1 a2 s) (fun i s o hi h => nl_Islands_b0_r a1 a2 i s o hi h) _ 0 _ r (Nat.zero_add _) h)
noncomputable def nl_Islands_c2 : Code := cL (cL (cR (cL (cR (cR (cR (cR (cR (cR nl_Islands_c)))))))))
noncomputable def nl_Islands_c3 : Code := cL (cL (cR (cL (cR (cR (cL (cL (cR (cR nl_Islands_c2)))))))))
noncomputable def nl_Islands_F3 (a1 : Netlist) (r34 : List (List Int) × Union) (i36 : Nat) (y37 : List (List ByteArray)) (x38 : List Int) (i40 : Nat) (y41 : List ByteArray) : Fr := [(4, .t (.v (.c (.ptr (e_Netlist a1))))), (15, .t (.v (.rt 2))), (18, .t (.v (.rt 3))), (73, lA 1 (List.map e_sl_i64 r34.1)), (74, iA (r34.1.length : Int)), (75, iA (i36 : Int)), (79, lA 1 (List.map e_i64 x38)), (80, iA (x38.length : Int)), (81, iA (i40 : Int))]
noncomputable def nl_Islands_H3 (a1 : Netlist) (r34 : List (List Int) × Union) (i36 : Nat) (y37 : List (List ByteArray)) (x38 : List Int) (i40 : Nat) (y41 : List ByteArray) : Hp := [(2, .row 55 1 (List.map e_sl_str y37)), (3, .row 9 1 (List.map e_str y41))]
noncomputable def nl_Islands_B3 (a1 : Netlist) (r34 : List (List Int) × Union) (i36 : Nat) (y37 : List (List ByteArray)) (x38 : List Int) (s : List ByteArray) : Oc := .ex 6 [(4, .t (.v (.c (.ptr (e_Netlist a1))))), (15, .t (.v (.rt 2))), (18, .t (.v (.rt 3))), (73, lA 1 (List.map e_sl_i64 r34.1)), (74, iA (r34.1.length : Int)), (75, iA (i36 : Int))] [(2, .row 55 1 (List.map e_sl_str y37)), (3, .row 9 1 (List.map e_str s))]
noncomputable def nl_Islands_b3 (a1 : Netlist) (r34 : List (List Int) × Union) (i36 : Nat) (y37 : List (List ByteArray)) (x38 : List Int) (i40 : Nat) (y41 : List ByteArray) : Option (Stp (List ByteArray) (List (List ByteArray) × Int)) :=
 bnd (atI x38 (i40 : Int)) fun x42 =>
 bnd (atI a1.Parts x42) fun x44 =>
 grd (y41.length + [x44.Name].length ≤ lim) <|
 some (.go (y41 ++ [x44.Name]))
theorem nl_Islands_b3_r (a1 : Netlist) (r34 : List (List Int) × Union) (i36 : Nat) (y37 : List (List ByteArray)) (x38 : List Int) (i40 : Nat) (y41 : List ByteArray) (o : Stp (List ByteArray) (List (List ByteArray) × Int)) (hi : i40 < x38.length) (h : nl_Islands_b3 a1 r34 i36 y37 x38 i40 y41 = some o) :
    Runs PG 101 0 nl_Islands_c3 (nl_Islands_F3 a1 r34 i36 y37 x38 i40 y41) (nl_Islands_H3 a1 r34 i36 y37 x38 i40 y41) (stpOc (fun s' => .nor (nl_Islands_F3 a1 r34 i36 y37 x38 (i40 + 1) s') (nl_Islands_H3 a1 r34 i36 y37 x38 (i40 + 1) s')) (nl_Islands_B3 a1 r34 i36 y37 x38) nl_Islands_R o) := by
  unfold nl_Islands_b3 at h
  refine Runs.len (s := 79) (sz := 1) (xs := List.map e_i64 x38) (by kernel_rfl) fun hl => ?_
  have hM : x38.length ≤ lim := len_of hl
  obtain ⟨x42, h43, h⟩ := bnd_e h
  obtain ⟨x44, h45, h⟩ := bnd_e h
  obtain ⟨h46, h⟩ := grd_e h
  have h := Option.some.inj h
  subst h
  exact Runs.path XTok PGmix [.r [], .b true, .r [.el [iC x42]], .r [.el (e_Part x44), .id 4, .row (List.map e_str [x44.Name]), .id 5, .row (List.map e_str (y41 ++ [x44.Name]))], .r [.eq 94 (iA ((i40 + 1 : Nat) : Int))]] [(3, 5)] (an (lt_true hi) (an (idx_ok e_i64 h43) (an (idx_ok e_Part h45) (an (Eq.refl (List.flatten (List.map e_str [x44.Name]))) (an (app_ok e_str h46) (wrap_eq hi hM)))))) (by kernel_rfl)
theorem nl_Islands_b3_e (a1 : Netlist) (r34 : List (List Int) × Union) (i36 : Nat) (y37 : List (List ByteArray)) (x38 : List Int) (y41 : List ByteArray) : Runs PG 101 0 nl_Islands_c3 (nl_Islands_F3 a1 r34 i36 y37 x38 (x38.length) y41) (nl_Islands_H3 a1 r34 i36 y37 x38 (x38.length) y41) (nl_Islands_B3 a1 r34 i36 y37 x38 y41) := by
  exact Runs.path XTok PGmix [.r [], .b false] [] (lt_false (x38.length)) (by kernel_rfl)
theorem nl_Islands_l3 (a1 : Netlist) (r34 : List (List Int) × Union) (i36 : Nat) (y37 : List (List ByteArray)) (x38 : List Int) (y41 : List ByteArray) (r : Fin' (List ByteArray) (List (List ByteArray) × Int)) (h : forN (fun i40 s => nl_Islands_b3 a1 r34 i36 y37 x38 i40 s) (x38.length) 0 y41 = some r) : Runs PG 101 0 (cL (cR (cL (cR (cR (cL (cL (cR (cR nl_Islands_c2))))))))) (nl_Islands_F3 a1 r34 i36 y37 x38 0 y41) (nl_Islands_H3 a1 r34 i36 y37 x38 0 y41) (finOc (nl_Islands_B3 a1 r34 i36 y37 x38) nl_Islands_R r) :=
  Runs.loop' (by kernel_rfl) (forN_rounds (σ := (List ByteArray)) (ρ := (List (List ByteArray) × Int)) (body := fun i40 s => nl_Islands_b3 a1 r34 i36 y37 x38 i40 s) (F := fun i40 s => nl_Islands_F3 a1 r34 i36 y37 x38 i40 s) (H := fun i40 s => nl_Islands_H3 a1 r34 i36 y37 x38 i40 s) (B := nl_Islands_B3 a1 r34 i36 y37 x38) (R := nl_Islands_R) (M := x38.length) (fun _ => rfl) (fun _ => rfl) (fun s => nl_Islands_b3_e a1 r34 i36 y37 x38 s) (fun i s o hi h => nl_Islands_b3_r a1 r34 i36 y37 x38 i s o hi h) _ 0 _ r (Nat.zero_add _) h)
noncomputable def nl_Islands_F2 (a1 : Netlist) (r34 : List (List Int) × Union) (i36 : Nat) (y37 : List (List ByteArray)) : Fr := [(4, .t (.v (.c (.ptr (e_Netlist a1))))), (15, .t (.v (.rt 2))), (73, lA 1 (List.map e_sl_i64 r34.1)), (74, iA (r34.1.length : Int)), (75, iA (i36 : Int))]
noncomputable def nl_Islands_H2 (a1 : Netlist) (r34 : List (List Int) × Union) (i36 : Nat) (y37 : List (List ByteArray)) : Hp := [(2, .row 55 1 (List.map e_sl_str y37))]
noncomputable def nl_Islands_B2 (a1 : Netlist) (r34 : List (List Int) × Union) (s : List (List ByteArray)) : Oc := .ex 4 [(15, .t (.v (.rt 2)))] [(2, .row 55 1 (List.map e_sl_str s))]
noncomputable def nl_Islands_b2 (a1 : Netlist) (r34 : List (List Int) × Union) (i36 : Nat) (y37 : List (List ByteArray)) : Option (Stp (List (List ByteArray)) (List (List ByteArray) × Int)) :=
 bnd (atI r34.1 (i36 : Int)) fun x38 =>
 aft1 (forN (fun i40 s => nl_Islands_b3 a1 r34 i36 y37 x38 i40 s) (x38.length) 0 []) (fun u47 =>
 grd (y37.length + [u47].length ≤ lim) <|
 some (.go (y37 ++ [u47])))
 (fun r49 =>
 some (.ret r49))
theorem nl_Islands_b2_r (a1 : Netlist) (r34 : List (List Int) × Union) (i36 : Nat) (y37 : List (List ByteArray)) (o : Stp (List (List ByteArray)) (List (List ByteArray) × Int)) (hi : i36 < r34.1.length) (h : nl_Islands_b2 a1 r34 i36 y37 = some o) :
    Runs PG 101 0 nl_Islands_c2 (nl_Islands_F2 a1 r34 i36 y37) (nl_Islands_H2 a1 r34 i36 y37) (stpOc (fun s' => .nor (nl_Islands_F2 a1 r34 (i36 + 1) s') (nl_Islands_H2 a1 r34 (i36 + 1) s')) (nl_Islands_B2 a1 r34) nl_Islands_R o) := by
  unfold nl_Islands_b2 at h
  refine Runs.len (s := 73) (sz := 1) (xs := List.map e_sl_i64 r34.1) (by kernel_rfl) fun hl => ?_
  have hM : r34.1.length ≤ lim := len_of hl
  obtain ⟨x38, h39, h⟩ := bnd_e h
  rcases aft1_e h with ⟨u47, h48, h⟩ | ⟨r49, h48, h⟩
  · obtain ⟨h50, h⟩ := grd_e h
    have h := Option.some.inj h
    subst h
    exact Runs.path XTok PGmix [.r [], .b true, .r [.el [.sl 1 (List.map e_i64 x38)]], .r [.mk 3 9 1], .r [.eq 80 (iA (x38.length : Int))], .s (nl_Islands_F3 a1 r34 i36 y37 x38 0 []) (nl_Islands_H3 a1 r34 i36 y37 x38 0 []) [] (nl_Islands_B3 a1 r34 i36 y37 x38 u47), .r [.fz 3, .id 3, .row (List.map e_sl_str [u47]), .id 4, .row (List.map e_sl_str (y37 ++ [u47]))], .r [.eq 99 (iA ((i36 + 1 : Nat) : Int))]] [(2, 4)] (an (lt_true hi) (an (idx_ok e_sl_i64 h39) (an (leni_eq e_i64 x38) (an (nl_Islands_l3 a1 r34 i36 y37 x38 [] (.fin u47) h48) (an (Eq.refl (List.flatten (List.map e_sl_str [u47]))) (an (app_ok e_sl_str h50) (wrap_eq hi hM))))))) (by kernel_rfl)
  · have h := Option.some.inj h
    subst h
    exact Runs.path XTok PGmix [.r [], .b true, .r [.el [.sl 1 (List.map e_i64 x38)]], .r [.mk 3 9 1], .r [.eq 80 (iA (x38.length : Int))], .s (nl_Islands_F3 a1 r34 i36 y37 x38 0 []) (nl_Islands_H3 a1 r34 i36 y37 x38 0 []) [] (nl_Islands_R r49)] [] (an (lt_true hi) (an (idx_ok e_sl_i64 h39) (an (leni_eq e_i64 x38) (nl_Islands_l3 a1 r34 i36 y37 x38 [] (.ret r49) h48)))) (by kernel_rfl)
theorem nl_Islands_b2_e (a1 : Netlist) (r34 : List (List Int) × Union) (y37 : List (List ByteArray)) : Runs PG 101 0 nl_Islands_c2 (nl_Islands_F2 a1 r34 (r34.1.length) y37) (nl_Islands_H2 a1 r34 (r34.1.length) y37) (nl_Islands_B2 a1 r34 y37) := by
  exact Runs.path XTok PGmix [.r [], .b false] [] (lt_false (r34.1.length)) (by kernel_rfl)
theorem nl_Islands_l2 (a1 : Netlist) (r34 : List (List Int) × Union) (y37 : List (List ByteArray)) (r : Fin' (List (List ByteArray)) (List (List ByteArray) × Int)) (h : forN (fun i36 s => nl_Islands_b2 a1 r34 i36 s) (r34.1.length) 0 y37 = some r) : Runs PG 101 0 (cL (cR (cL (cR (cR (cR (cR (cR (cR nl_Islands_c))))))))) (nl_Islands_F2 a1 r34 0 y37) (nl_Islands_H2 a1 r34 0 y37) (finOc (nl_Islands_B2 a1 r34) nl_Islands_R r) :=
  Runs.loop' (by kernel_rfl) (forN_rounds (σ := (List (List ByteArray))) (ρ := (List (List ByteArray) × Int)) (body := fun i36 s => nl_Islands_b2 a1 r34 i36 s) (F := fun i36 s => nl_Islands_F2 a1 r34 i36 s) (H := fun i36 s => nl_Islands_H2 a1 r34 i36 s) (B := nl_Islands_B2 a1 r34) (R := nl_Islands_R) (M := r34.1.length) (fun _ => rfl) (fun _ => rfl) (fun s => nl_Islands_b2_e a1 r34 s) (fun i s o hi h => nl_Islands_b2_r a1 r34 i s o hi h) _ 0 _ r (Nat.zero_add _) h)
noncomputable def nl_Islands (a0 : List PartType) (a1 : Netlist) (a2 : List ByteArray) : Option (List (List ByteArray) × Int) :=
 bnd (nl_CheckList a0 a1) fun r1 =>
 cnd (r1 != 0) (some ([], r1)) (bnd (nl_checkNames a2 1000 (fun z0 => nl_Islands_1 z0 a1)) fun r4 =>
 cnd (r4 != 0) (some ([], r4)) (bnd (nl_NewUnion (a1.Parts.length : Int)) fun r7 =>
 aft1 (forN (fun i9 s => nl_Islands_b0 a1 a2 i9 s) (a1.Nets.length) 0 r7.up) (fun u31 =>
 bnd (nl_Union_Sets (⟨u31⟩ : Union)) fun r34 =>
 aft1 (forN (fun i36 s => nl_Islands_b2 a1 r34 i36 s) (r34.1.length) 0 []) (fun u51 =>
 some (u51, 0))
 (fun r53 =>
 some r53))
 (fun r33 =>
 some r33)))
theorem nl_Islands_ok (a0 : List PartType) (a1 : Netlist) (a2 : List ByteArray) (r : List (List ByteArray) × Int) (h : nl_Islands a0 a1 a2 = some r) : Spec PG 35 [lT 2 (List.map e_PartType a0), gT (e_Netlist a1), lT 1 (List.map e_str a2)] [] (.tup [lT 1 (List.map e_sl_str r.1), iT r.2]) [] := by
  unfold nl_Islands at h
  obtain ⟨r1, h2, h⟩ := bnd_e h
  rcases cnd_e h with ⟨h3, h⟩ | ⟨h3, h⟩
  · have h := Option.some.inj h
    subst h
    exact Spec.path XTok PGmix nl_Islands_fn 0 [.r [.id 0, .nl 1], .r [.val (iA r1)], .r [], .b true, .r [.nl 1]] (an (nl_CheckList_ok a0 a1 r1 h2) h3) (by kernel_rfl)
  · obtain ⟨r4, h5, h⟩ := bnd_e h
    rcases cnd_e h with ⟨h6, h⟩ | ⟨h6, h⟩
    · have h := Option.some.inj h
      subst h
      exact Spec.path XTok PGmix nl_Islands_fn 0 [.r [.id 0, .nl 1], .r [.val (iA r1)], .r [], .b false, .fb 0, .r [.val (iA r4)], .r [], .b true, .r [.nl 1]] (an (nl_CheckList_ok a0 a1 r1 h2) (an h3 (an (nl_checkNames_ok a2 1000 94 [.ptr (e_Netlist a1)] (fun z0 => nl_Islands_1 z0 a1) (fun z0 r h => nl_Islands_1_ok z0 a1 r h) r4 h5) h6))) (by kernel_rfl)
    · obtain ⟨r7, h8, h⟩ := bnd_e h
      rcases aft1_e h with ⟨u31, h32, h⟩ | ⟨r33, h32, h⟩
      · obtain ⟨r34, h35, h⟩ := bnd_e h
        rcases aft1_e h with ⟨u51, h52, h⟩ | ⟨r53, h52, h⟩
        · have h := Option.some.inj h
          subst h
          exact Spec.path XTok PGmix nl_Islands_fn 0 [.r [.id 0, .nl 1], .r [.val (iA r1)], .r [], .b false, .fb 0, .r [.val (iA r4)], .r [], .b false, .r [.eq 35 (iA (a1.Parts.length : Int)), .call [(0, 1), (1, 0)] [iT (a1.Parts.length : Int)] [] (.t (.v (.ptr 0 0))) [(1, .row 3 1 (List.map e_i64 r7.up)), (0, .cells 185 [.rt 1])]], .r [.eq 39 (iA (a1.Nets.length : Int))], .s (nl_Islands_F0 a1 a2 0 r7.up) (nl_Islands_H0 a1 a2 0 r7.up) [] (nl_Islands_B0 a1 a2 u31), .r [.mk 2 55 1], .r [.call [(0, 1), (1, 0)] [.v (.ptr 0 0)] [(0, .cells 185 [.rt 1]), (1, .row 3 1 (List.map e_i64 u31))] (lA 1 (List.map e_sl_i64 r34.1)) [(0, .cells 185 [.rt 1]), (1, .row 3 1 (List.map e_i64 r34.2.up))], .eq 74 (iA (r34.1.length : Int))], .s (nl_Islands_F2 a1 r34 0 []) (nl_Islands_H2 a1 r34 0 []) [] (nl_Islands_B2 a1 r34 u51), .r [], .f 2] (an (nl_CheckList_ok a0 a1 r1 h2) (an h3 (an (nl_checkNames_ok a2 1000 94 [.ptr (e_Netlist a1)] (fun z0 => nl_Islands_1 z0 a1) (fun z0 r h => nl_Islands_1_ok z0 a1 r h) r4 h5) (an h6 (an (leni_eq e_Part a1.Parts) (an (an (nl_NewUnion_ok (a1.Parts.length : Int) r7 h8) (an (Eq.refl ([iT (a1.Parts.length : Int)] : List TV)) (Eq.refl (renH (asg [(0, 1), (1, 0)]) [])))) (an (leni_eq e_Net a1.Nets) (an (nl_Islands_l0 a1 a2 r7.up (.fin u31) h32) (an (an (nl_Union_Sets_ok (⟨u31⟩ : Union) r34 h35) (an (Eq.refl ([.v (.ptr 1 0)] : List TV)) (Eq.refl (renH (asg [(0, 1), (1, 0)]) [(0, .cells 185 [.rt 1]), (1, .row 3 1 (List.map e_i64 u31))])))) (an (leni_eq e_sl_i64 r34.1) (nl_Islands_l2 a1 r34 [] (.fin u51) h52))))))))))) (by kernel_rfl)
        · have h := Option.some.inj h
          subst h
          exact Spec.path XTok PGmix nl_Islands_fn 0 [.r [.id 0, .nl 1], .r [.val (iA r1)], .r [], .b false, .fb 0, .r [.val (iA r4)], .r [], .b false, .r [.eq 35 (iA (a1.Parts.length : Int)), .call [(0, 1), (1, 0)] [iT (a1.Parts.length : Int)] [] (.t (.v (.ptr 0 0))) [(1, .row 3 1 (List.map e_i64 r7.up)), (0, .cells 185 [.rt 1])]], .r [.eq 39 (iA (a1.Nets.length : Int))], .s (nl_Islands_F0 a1 a2 0 r7.up) (nl_Islands_H0 a1 a2 0 r7.up) [] (nl_Islands_B0 a1 a2 u31), .r [.mk 2 55 1], .r [.call [(0, 1), (1, 0)] [.v (.ptr 0 0)] [(0, .cells 185 [.rt 1]), (1, .row 3 1 (List.map e_i64 u31))] (lA 1 (List.map e_sl_i64 r34.1)) [(0, .cells 185 [.rt 1]), (1, .row 3 1 (List.map e_i64 r34.2.up))], .eq 74 (iA (r34.1.length : Int))], .s (nl_Islands_F2 a1 r34 0 []) (nl_Islands_H2 a1 r34 0 []) [] (nl_Islands_R r53)] (an (nl_CheckList_ok a0 a1 r1 h2) (an h3 (an (nl_checkNames_ok a2 1000 94 [.ptr (e_Netlist a1)] (fun z0 => nl_Islands_1 z0 a1) (fun z0 r h => nl_Islands_1_ok z0 a1 r h) r4 h5) (an h6 (an (leni_eq e_Part a1.Parts) (an (an (nl_NewUnion_ok (a1.Parts.length : Int) r7 h8) (an (Eq.refl ([iT (a1.Parts.length : Int)] : List TV)) (Eq.refl (renH (asg [(0, 1), (1, 0)]) [])))) (an (leni_eq e_Net a1.Nets) (an (nl_Islands_l0 a1 a2 r7.up (.fin u31) h32) (an (an (nl_Union_Sets_ok (⟨u31⟩ : Union) r34 h35) (an (Eq.refl ([.v (.ptr 1 0)] : List TV)) (Eq.refl (renH (asg [(0, 1), (1, 0)]) [(0, .cells 185 [.rt 1]), (1, .row 3 1 (List.map e_i64 u31))])))) (an (leni_eq e_sl_i64 r34.1) (nl_Islands_l2 a1 r34 [] (.ret r53) h52))))))))))) (by kernel_rfl)
      · have h := Option.some.inj h
        subst h
        exact Spec.path XTok PGmix nl_Islands_fn 0 [.r [.id 0, .nl 1], .r [.val (iA r1)], .r [], .b false, .fb 0, .r [.val (iA r4)], .r [], .b false, .r [.eq 35 (iA (a1.Parts.length : Int)), .call [(0, 1), (1, 0)] [iT (a1.Parts.length : Int)] [] (.t (.v (.ptr 0 0))) [(1, .row 3 1 (List.map e_i64 r7.up)), (0, .cells 185 [.rt 1])]], .r [.eq 39 (iA (a1.Nets.length : Int))], .s (nl_Islands_F0 a1 a2 0 r7.up) (nl_Islands_H0 a1 a2 0 r7.up) [] (nl_Islands_R r33)] (an (nl_CheckList_ok a0 a1 r1 h2) (an h3 (an (nl_checkNames_ok a2 1000 94 [.ptr (e_Netlist a1)] (fun z0 => nl_Islands_1 z0 a1) (fun z0 r h => nl_Islands_1_ok z0 a1 r h) r4 h5) (an h6 (an (leni_eq e_Part a1.Parts) (an (an (nl_NewUnion_ok (a1.Parts.length : Int) r7 h8) (an (Eq.refl ([iT (a1.Parts.length : Int)] : List TV)) (Eq.refl (renH (asg [(0, 1), (1, 0)]) [])))) (an (leni_eq e_Net a1.Nets) (nl_Islands_l0 a1 a2 r7.up (.ret r33) h32)))))))) (by kernel_rfl)

noncomputable def ref_netNamed_c : Code := (Go.Proofs.Tryd.f142.body).getD .skip
theorem ref_netNamed_fn : FnOk PG 142 ref_netNamed_c 21 [.tmp 4] := ⟨⟨Go.Proofs.Tryd.f142, by kernel_rfl, by kernel_rfl, by kernel_rfl, by kernel_rfl, by kernel_rfl⟩⟩
noncomputable def ref_netNamed_c0 : Code := cL (cL (cR (cL (cR ref_netNamed_c))))
noncomputable def ref_netNamed_R (r : Int) : Oc := .ret [(4, iA r)] []
noncomputable def ref_netNamed_F0 (a0 : Netlist) (a1 : ByteArray) (i1 : Nat) : Fr := [(1, sA a1), (8, lA 3 (List.map e_Net a0.Nets)), (9, iA (a0.Nets.length : Int)), (10, iA (i1 : Int))]
noncomputable def ref_netNamed_H0 (a0 : Netlist) (a1 : ByteArray) (i1 : Nat) : Hp := []
noncomputable def ref_netNamed_B0 (a0 : Netlist) (a1 : ByteArray) (s : Unit) : Oc := .ex 0 [] []
noncomputable def ref_netNamed_b0 (a0 : Netlist) (a1 : ByteArray) (i1 : Nat) : Option (Stp Unit Int) :=
 bnd (atI a0.Nets (i1 : Int)) fun x2 =>
 cnd (sEq x2.Name a1) (some (.ret (i1 : Int))) (some (.go ()))
theorem ref_netNamed_b0_r (a0 : Netlist) (a1 : ByteArray) (i1 : Nat) (o : Stp Unit Int) (hi : i1 < a0.Nets.length) (h : ref_netNamed_b0 a0 a1 i1 = some o) :
    Runs PG 21 0 ref_netNamed_c0 (ref_netNamed_F0 a0 a1 i1 ) (ref_netNamed_H0 a0 a1 i1 ) (stpOc (fun s' => .nor (ref_netNamed_F0 a0 a1 (i1 + 1) ) (ref_netNamed_H0 a0 a1 (i1 + 1) )) (ref_netNamed_B0 a0 a1) ref_netNamed_R o) := by
  unfold ref_netNamed_b0 at h
  refine Runs.len (s := 8) (sz := 3) (xs := List.map e_Net a0.Nets) (by kernel_rfl) fun hl => ?_
  have hM : a0.Nets.length ≤ lim := len_of hl
  obtain ⟨x2, h3, h⟩ := bnd_e h
  rcases cnd_e h with ⟨h4, h⟩ | ⟨h4, h⟩
  · have h := Option.some.inj h
    subst h
    exact Runs.path XTok PGmix [.r [], .b true, .r [.el (e_Net x2), .id 0], .r [], .b true, .r []] [] (an (lt_true hi) (an (idx_ok e_Net h3) h4)) (by kernel_rfl)
  · have h := Option.some.inj h
    subst h
    exact Runs.path XTok PGmix [.r [], .b true, .r [.el (e_Net x2), .id 0], .r [], .b false, .r [.eq 20 (iA ((i1 + 1 : Nat) : Int))]] [] (an (lt_true hi) (an (idx_ok e_Net h3) (an h4 (wrap_eq hi hM)))) (by kernel_rfl)
theorem ref_netNamed_b0_e (a0 : Netlist) (a1 : ByteArray) : Runs PG 21 0 ref_netNamed_c0 (ref_netNamed_F0 a0 a1 (a0.Nets.length) ) (ref_netNamed_H0 a0 a1 (a0.Nets.length) ) (ref_netNamed_B0 a0 a1 ()) := by
  exact Runs.path XTok PGmix [.r [], .b false] [] (lt_false (a0.Nets.length)) (by kernel_rfl)
theorem ref_netNamed_l0 (a0 : Netlist) (a1 : ByteArray) (r : Fin' Unit Int) (h : forN (fun i1 s => ref_netNamed_b0 a0 a1 i1 ) (a0.Nets.length) 0 () = some r) : Runs PG 21 0 (cL (cR (cL (cR ref_netNamed_c)))) (ref_netNamed_F0 a0 a1 0 ) (ref_netNamed_H0 a0 a1 0 ) (finOc (ref_netNamed_B0 a0 a1) ref_netNamed_R r) :=
  Runs.loop' (by kernel_rfl) (forN_rounds (σ := Unit) (ρ := Int) (body := fun i1 s => ref_netNamed_b0 a0 a1 i1 ) (F := fun i1 s => ref_netNamed_F0 a0 a1 i1 ) (H := fun i1 s => ref_netNamed_H0 a0 a1 i1 ) (B := ref_netNamed_B0 a0 a1) (R := ref_netNamed_R) (M := a0.Nets.length) (fun _ => rfl) (fun _ => rfl) (fun s => ref_netNamed_b0_e a0 a1 ) (fun i s o hi h => ref_netNamed_b0_r a0 a1 i o hi h) _ 0 _ r (Nat.zero_add _) h)
noncomputable def ref_netNamed (a0 : Netlist) (a1 : ByteArray) : Option Int :=
 aft0 (forN (fun i1 s => ref_netNamed_b0 a0 a1 i1 ) (a0.Nets.length) 0 ()) (
 some (-1))
 (fun r6 =>
 some r6)
theorem ref_netNamed_ok (a0 : Netlist) (a1 : ByteArray) (r : Int) (h : ref_netNamed a0 a1 = some r) : Spec PG 142 [gT (e_Netlist a0), sT a1] [] (iA r) [] := by
  unfold ref_netNamed at h
  rcases aft0_e h with ⟨h5, h⟩ | ⟨r6, h5, h⟩
  · have h := Option.some.inj h
    subst h
    exact Spec.path XTok PGmix ref_netNamed_fn 0 [.r [.id 0], .r [.eq 9 (iA (a0.Nets.length : Int))], .s (ref_netNamed_F0 a0 a1 0 ) (ref_netNamed_H0 a0 a1 0 ) [] (ref_netNamed_B0 a0 a1 ()), .r []] (an (leni_eq e_Net a0.Nets) (ref_netNamed_l0 a0 a1 (.fin ()) h5)) (by kernel_rfl)
  · have h := Option.some.inj h
    subst h
    exact Spec.path XTok PGmix ref_netNamed_fn 0 [.r [.id 0], .r [.eq 9 (iA (a0.Nets.length : Int))], .s (ref_netNamed_F0 a0 a1 0 ) (ref_netNamed_H0 a0 a1 0 ) [] (ref_netNamed_R r6)] (an (leni_eq e_Net a0.Nets) (ref_netNamed_l0 a0 a1 (.ret r6) h5)) (by kernel_rfl)

noncomputable def ref_checkNetNames_c : Code := (Go.Proofs.Tryd.f99.body).getD .skip
theorem ref_checkNetNames_fn : FnOk PG 99 ref_checkNetNames_c 33 [.tmp 4] := ⟨⟨Go.Proofs.Tryd.f99, by kernel_rfl, by kernel_rfl, by kernel_rfl, by kernel_rfl, by kernel_rfl⟩⟩
noncomputable def ref_checkNetNames_c0 : Code := cL (cL (cR (cL (cR (cR ref_checkNetNames_c)))))
noncomputable def ref_checkNetNames_R (r : Int) : Oc := .ret [(4, iA r)] []
noncomputable def ref_checkNetNames_F0 (a0 : Netlist) (a1 : List ByteArray) (i2 : Nat) : Fr := [(1, lA 1 (List.map e_str a1)), (2, .t (.v (.ptr 0 0))), (10, lA 1 (List.map e_str a1)), (11, iA (a1.length : Int)), (12, iA (i2 : Int))]
noncomputable def ref_checkNetNames_H0 (a0 : Netlist) (a1 : List ByteArray) (i2 : Nat) : Hp := [(0, .cells 26 [.c (.sl 2 (List.map e_Part a0.Parts)), .c (.sl 3 (List.map e_Net a0.Nets))])]
noncomputable def ref_checkNetNames_B0 (a0 : Netlist) (a1 : List ByteArray) (s : Unit) : Oc := .ex 0 [] []
noncomputable def ref_checkNetNames_b0 (a0 : Netlist) (a1 : List ByteArray) (i2 : Nat) : Option (Stp Unit Int) :=
 bnd (atI a1 (i2 : Int)) fun x3 =>
 bnd (ref_netNamed a0 x3) fun r5 =>
 cnd (decide (r5 < 0)) (some (.ret 9)) (bnd1 (cnd (decide ((i2 : Int) > 0)) (bnd (atI a1 (w64 ((i2 : Int) - 1))) fun x12 =>
 some (sLe x3 x12)) (some false)) fun v8 =>
 cnd v8 (some (.ret 8)) (some (.go ())))
theorem ref_checkNetNames_b0_r (a0 : Netlist) (a1 : List ByteArray) (i2 : Nat) (o : Stp Unit Int) (hi : i2 < a1.length) (h : ref_checkNetNames_b0 a0 a1 i2 = some o) :
    Runs PG 33 0 ref_checkNetNames_c0 (ref_checkNetNames_F0 a0 a1 i2 ) (ref_checkNetNames_H0 a0 a1 i2 ) (stpOc (fun s' => .nor (ref_checkNetNames_F0 a0 a1 (i2 + 1) ) (ref_checkNetNames_H0 a0 a1 (i2 + 1) )) (ref_checkNetNames_B0 a0 a1) ref_checkNetNames_R o) := by
  unfold ref_checkNetNames_b0 at h
  refine Runs.len (s := 10) (sz := 1) (xs := List.map e_str a1) (by kernel_rfl) fun hl => ?_
  have hM : a1.length ≤ lim := len_of hl
  obtain ⟨x3, h4, h⟩ := bnd_e h
  obtain ⟨r5, h6, h⟩ := bnd_e h
  rcases cnd_e h with ⟨h7, h⟩ | ⟨h7, h⟩
  · have h := Option.some.inj h
    subst h
    exact Runs.path XTok PGmix [.r [], .b true, .r [.el [sC x3]], .r [.val (iA r5)], .b true, .r []] [] (an (lt_true hi) (an (idx_ok e_str h4) (an (ref_netNamed_ok a0 x3 r5 h6) h7))) (by kernel_rfl)
  · obtain ⟨v8, h9, h⟩ := bnd1_e h
    let q14_f : Fr := [(1, lA 1 (List.map e_str a1)), (2, .t (.v (.ptr 0 0))), (5, iA (i2 : Int)), (6, sA x3), (10, lA 1 (List.map e_str a1)), (11, iA (a1.length : Int)), (12, iA (i2 : Int))]
    let q14_g : Hp := [(0, .cells 26 [.c (.sl 2 (List.map e_Part a0.Parts)), .c (.sl 3 (List.map e_Net a0.Nets))])]
    let q14_f' : Fr := [(1, lA 1 (List.map e_str a1)), (2, .t (.v (.ptr 0 0))), (10, lA 1 (List.map e_str a1)), (11, iA (a1.length : Int)), (12, iA (i2 : Int)), (31, bA v8)]
    let q14_g' : Hp := [(0, .cells 26 [.c (.sl 2 (List.map e_Part a0.Parts)), .c (.sl 3 (List.map e_Net a0.Nets))])]
    have R10 : Runs PG 33 0 (cL (cR (cR (cL (cL (cR (cR ref_checkNetNames_c0))))))) q14_f q14_g (.nor q14_f' q14_g') := by
      rcases cnd_e h9 with ⟨h11, h9⟩ | ⟨h11, h9⟩
      · obtain ⟨x12, h13, h9⟩ := bnd_e h9
        have h9 := Option.some.inj h9
        subst h9
        exact Runs.path XTok PGmix [.r [.b true, .b true, .b true, .b true, .b true, .el [sC x12], .b true, .b true, .b true]] [] (an h11 (an h11 (an h11 (an h11 (an h11 (an (idx_ok e_str h13) (an h11 (an h11 h11)))))))) (by kernel_rfl)
      · have h9 := Option.some.inj h9
        subst h9
        exact Runs.path XTok PGmix [.r [.b false, .b false, .b false, .b false, .b false, .b false, .b false, .b false]] [] (an h11 (an h11 (an h11 (an h11 (an h11 (an h11 (an h11 h11))))))) (by kernel_rfl)
    rcases cnd_e h with ⟨h15, h⟩ | ⟨h15, h⟩
    · have h := Option.some.inj h
      subst h
      exact Runs.path XTok PGmix [.r [], .b true, .r [.el [sC x3]], .r [.val (iA r5)], .b false, .s q14_f q14_g [] (.nor q14_f' q14_g'), .b true, .r []] [] (an (lt_true hi) (an (idx_ok e_str h4) (an (ref_netNamed_ok a0 x3 r5 h6) (an h7 (an R10 h15))))) (by kernel_rfl)
    · have h := Option.some.inj h
      subst h
      exact Runs.path XTok PGmix [.r [], .b true, .r [.el [sC x3]], .r [.val (iA r5)], .b false, .s q14_f q14_g [] (.nor q14_f' q14_g'), .b false, .r [.eq 32 (iA ((i2 + 1 : Nat) : Int))]] [] (an (lt_true hi) (an (idx_ok e_str h4) (an (ref_netNamed_ok a0 x3 r5 h6) (an h7 (an R10 (an h15 (wrap_eq hi hM))))))) (by kernel_rfl)
theorem ref_checkNetNames_b0_e (a0 : Netlist) (a1 : List ByteArray) : Runs PG 33 0 ref_checkNetNames_c0 (ref_checkNetNames_F0 a0 a1 (a1.length) ) (ref_checkNetNames_H0 a0 a1 (a1.length) ) (ref_checkNetNames_B0 a0 a1 ()) := by
  exact Runs.path XTok PGmix [.r [], .b false] [] (lt_false (a1.length)) (by kernel_rfl)
theorem ref_checkNetNames_l0 (a0 : Netlist) (a1 : List ByteArray) (r : Fin' Unit Int) (h : forN (fun i2 s => ref_checkNetNames_b0 a0 a1 i2 ) (a1.length) 0 () = some r) : Runs PG 33 0 (cL (cR (cL (cR (cR ref_checkNetNames_c))))) (ref_checkNetNames_F0 a0 a1 0 ) (ref_checkNetNames_H0 a0 a1 0 ) (finOc (ref_checkNetNames_B0 a0 a1) ref_checkNetNames_R r) :=
  Runs.loop' (by kernel_rfl) (forN_rounds (σ := Unit) (ρ := Int) (body := fun i2 s => ref_checkNetNames_b0 a0 a1 i2 ) (F := fun i2 s => ref_checkNetNames_F0 a0 a1 i2 ) (H := fun i2 s => ref_checkNetNames_H0 a0 a1 i2 ) (B := ref_checkNetNames_B0 a0 a1) (R := ref_checkNetNames_R) (M := a1.length) (fun _ => rfl) (fun _ => rfl) (fun s => ref_checkNetNames_b0_e a0 a1 ) (fun i s o hi h => ref_checkNetNames_b0_r a0 a1 i o hi h) _ 0 _ r (Nat.zero_add _) h)
noncomputable def ref_checkNetNames (a0 : Netlist) (a1 : List ByteArray) : Option Int :=
 cnd (decide ((a1.length : Int) > 1000)) (some 2) (aft0 (forN (fun i2 s => ref_checkNetNames_b0 a0 a1 i2 ) (a1.length) 0 ()) (
 some 0)
 (fun r17 =>
 some r17))
theorem ref_checkNetNames_ok (a0 : Netlist) (a1 : List ByteArray) (r : Int) (h : ref_checkNetNames a0 a1 = some r) : Spec PG 99 [gT (e_Netlist a0), lT 1 (List.map e_str a1)] [] (iA r) [] := by
  unfold ref_checkNetNames at h
  rcases cnd_e h with ⟨h1, h⟩ | ⟨h1, h⟩
  · have h := Option.some.inj h
    subst h
    exact Spec.path XTok PGmix ref_checkNetNames_fn 0 [.r [.id 0], .r [.eq 8 (iA (a1.length : Int))], .b true, .r []] (an (leni_eq e_str a1) h1) (by kernel_rfl)
  · rcases aft0_e h with ⟨h16, h⟩ | ⟨r17, h16, h⟩
    · have h := Option.some.inj h
      subst h
      exact Spec.path XTok PGmix ref_checkNetNames_fn 0 [.r [.id 0], .r [.eq 8 (iA (a1.length : Int))], .b false, .r [.eq 11 (iA (a1.length : Int))], .s (ref_checkNetNames_F0 a0 a1 0 ) (ref_checkNetNames_H0 a0 a1 0 ) [] (ref_checkNetNames_B0 a0 a1 ()), .r []] (an (leni_eq e_str a1) (an h1 (an (leni_eq e_str a1) (ref_checkNetNames_l0 a0 a1 (.fin ()) h16)))) (by kernel_rfl)
    · have h := Option.some.inj h
      subst h
      exact Spec.path XTok PGmix ref_checkNetNames_fn 0 [.r [.id 0], .r [.eq 8 (iA (a1.length : Int))], .b false, .r [.eq 11 (iA (a1.length : Int))], .s (ref_checkNetNames_F0 a0 a1 0 ) (ref_checkNetNames_H0 a0 a1 0 ) [] (ref_checkNetNames_R r17)] (an (leni_eq e_str a1) (an h1 (an (leni_eq e_str a1) (ref_checkNetNames_l0 a0 a1 (.ret r17) h16)))) (by kernel_rfl)

noncomputable def slices_Index_string_string_c : Code := (Go.Proofs.Tryd.f135.body).getD .skip
theorem slices_Index_string_string_fn : FnOk PG 135 slices_Index_string_string_c 19 [.tmp 4] := ⟨⟨Go.Proofs.Tryd.f135, by kernel_rfl, by kernel_rfl, by kernel_rfl, by kernel_rfl, by kernel_rfl⟩⟩
noncomputable def slices_Index_string_string_c0 : Code := cL (cL (cR (cL (cR slices_Index_string_string_c))))
noncomputable def slices_Index_string_string_R (r : Int) : Oc := .ret [(4, iA r)] []
noncomputable def slices_Index_string_string_F0 (a0 : List ByteArray) (a1 : ByteArray) (i1 : Nat) : Fr := [(0, lA 1 (List.map e_str a0)), (1, sA a1), (6, lA 1 (List.map e_str a0)), (7, iA (a0.length : Int)), (8, iA (i1 : Int))]
noncomputable def slices_Index_string_string_H0 (a0 : List ByteArray) (a1 : ByteArray) (i1 : Nat) : Hp := []
noncomputable def slices_Index_string_string_B0 (a0 : List ByteArray) (a1 : ByteArray) (s : Unit) : Oc := .ex 0 [] []
noncomputable def slices_Index_string_string_b0 (a0 : List ByteArray) (a1 : ByteArray) (i1 : Nat) : Option (Stp Unit Int) :=
 bnd (atI a0 (i1 : Int)) fun x2 =>
 cnd (sEq a1 x2) (some (.ret (i1 : Int))) (some (.go ()))
theorem slices_Index_string_string_b0_r (a0 : List ByteArray) (a1 : ByteArray) (i1 : Nat) (o : Stp Unit Int) (hi : i1 < a0.length) (h : slices_Index_string_string_b0 a0 a1 i1 = some o) :
    Runs PG 19 0 slices_Index_string_string_c0 (slices_Index_string_string_F0 a0 a1 i1 ) (slices_Index_string_string_H0 a0 a1 i1 ) (stpOc (fun s' => .nor (slices_Index_string_string_F0 a0 a1 (i1 + 1) ) (slices_Index_string_string_H0 a0 a1 (i1 + 1) )) (slices_Index_string_string_B0 a0 a1) slices_Index_string_string_R o) := by
  unfold slices_Index_string_string_b0 at h
  refine Runs.len (s := 6) (sz := 1) (xs := List.map e_str a0) (by kernel_rfl) fun hl => ?_
  have hM : a0.length ≤ lim := len_of hl
  obtain ⟨x2, h3, h⟩ := bnd_e h
  rcases cnd_e h with ⟨h4, h⟩ | ⟨h4, h⟩
  · have h := Option.some.inj h
    subst h
    exact Runs.path XTok PGmix [.r [], .b true, .r [], .r [.el [sC x2]], .b true, .r []] [] (an (lt_true hi) (an (idx_ok e_str h3) h4)) (by kernel_rfl)
  · have h := Option.some.inj h
    subst h
    exact Runs.path XTok PGmix [.r [], .b true, .r [], .r [.el [sC x2]], .b false, .r [.eq 18 (iA ((i1 + 1 : Nat) : Int))]] [] (an (lt_true hi) (an (idx_ok e_str h3) (an h4 (wrap_eq hi hM)))) (by kernel_rfl)
theorem slices_Index_string_string_b0_e (a0 : List ByteArray) (a1 : ByteArray) : Runs PG 19 0 slices_Index_string_string_c0 (slices_Index_string_string_F0 a0 a1 (a0.length) ) (slices_Index_string_string_H0 a0 a1 (a0.length) ) (slices_Index_string_string_B0 a0 a1 ()) := by
  exact Runs.path XTok PGmix [.r [], .b false] [] (lt_false (a0.length)) (by kernel_rfl)
theorem slices_Index_string_string_l0 (a0 : List ByteArray) (a1 : ByteArray) (r : Fin' Unit Int) (h : forN (fun i1 s => slices_Index_string_string_b0 a0 a1 i1 ) (a0.length) 0 () = some r) : Runs PG 19 0 (cL (cR (cL (cR slices_Index_string_string_c)))) (slices_Index_string_string_F0 a0 a1 0 ) (slices_Index_string_string_H0 a0 a1 0 ) (finOc (slices_Index_string_string_B0 a0 a1) slices_Index_string_string_R r) :=
  Runs.loop' (by kernel_rfl) (forN_rounds (σ := Unit) (ρ := Int) (body := fun i1 s => slices_Index_string_string_b0 a0 a1 i1 ) (F := fun i1 s => slices_Index_string_string_F0 a0 a1 i1 ) (H := fun i1 s => slices_Index_string_string_H0 a0 a1 i1 ) (B := slices_Index_string_string_B0 a0 a1) (R := slices_Index_string_string_R) (M := a0.length) (fun _ => rfl) (fun _ => rfl) (fun s => slices_Index_string_string_b0_e a0 a1 ) (fun i s o hi h => slices_Index_string_string_b0_r a0 a1 i o hi h) _ 0 _ r (Nat.zero_add _) h)
noncomputable def slices_Index_string_string (a0 : List ByteArray) (a1 : ByteArray) : Option Int :=
 aft0 (forN (fun i1 s => slices_Index_string_string_b0 a0 a1 i1 ) (a0.length) 0 ()) (
 some (-1))
 (fun r6 =>
 some r6)
theorem slices_Index_string_string_ok (a0 : List ByteArray) (a1 : ByteArray) (r : Int) (h : slices_Index_string_string a0 a1 = some r) : Spec PG 135 [lT 1 (List.map e_str a0), sT a1] [] (iA r) [] := by
  unfold slices_Index_string_string at h
  rcases aft0_e h with ⟨h5, h⟩ | ⟨r6, h5, h⟩
  · have h := Option.some.inj h
    subst h
    exact Spec.path XTok PGmix slices_Index_string_string_fn 0 [.r [], .r [.eq 7 (iA (a0.length : Int))], .s (slices_Index_string_string_F0 a0 a1 0 ) (slices_Index_string_string_H0 a0 a1 0 ) [] (slices_Index_string_string_B0 a0 a1 ()), .r []] (an (leni_eq e_str a0) (slices_Index_string_string_l0 a0 a1 (.fin ()) h5)) (by kernel_rfl)
  · have h := Option.some.inj h
    subst h
    exact Spec.path XTok PGmix slices_Index_string_string_fn 0 [.r [], .r [.eq 7 (iA (a0.length : Int))], .s (slices_Index_string_string_F0 a0 a1 0 ) (slices_Index_string_string_H0 a0 a1 0 ) [] (slices_Index_string_string_R r6)] (an (leni_eq e_str a0) (slices_Index_string_string_l0 a0 a1 (.ret r6) h5)) (by kernel_rfl)

noncomputable def slices_Contains_string_string_c : Code := (Go.Proofs.Tryd.f89.body).getD .skip
theorem slices_Contains_string_string_fn : FnOk PG 89 slices_Contains_string_string_c 9 [.tmp 4] := ⟨⟨Go.Proofs.Tryd.f89, by kernel_rfl, by kernel_rfl, by kernel_rfl, by kernel_rfl, by kernel_rfl⟩⟩
noncomputable def slices_Contains_string_string (a0 : List ByteArray) (a1 : ByteArray) : Option Bool :=
 bnd (slices_Index_string_string a0 a1) fun r1 =>
 some (decide (r1 ≥ 0))
theorem slices_Contains_string_string_ok (a0 : List ByteArray) (a1 : ByteArray) (r : Bool) (h : slices_Contains_string_string a0 a1 = some r) : Spec PG 89 [lT 1 (List.map e_str a0), sT a1] [] (bA r) [] := by
  unfold slices_Contains_string_string at h
  obtain ⟨r1, h2, h⟩ := bnd_e h
  have h := Option.some.inj h
  subst h
  exact Spec.path XTok PGmix slices_Contains_string_string_fn 0 [.r [], .r [.val (iA r1)]] (slices_Index_string_string_ok a0 a1 r1 h2) (by kernel_rfl)

noncomputable def ref_island_c : Code := (Go.Proofs.Tryd.f100.body).getD .skip
theorem ref_island_fn : FnOk PG 100 ref_island_c 97 [.tmp 6] := ⟨⟨Go.Proofs.Tryd.f100, by kernel_rfl, by kernel_rfl, by kernel_rfl, by kernel_rfl, by kernel_rfl⟩⟩
noncomputable def ref_island_c0 : Code := cL (cL (cR (cL (cR (cR (cR ref_island_c))))))
noncomputable def ref_island_R (r : List Int) : Oc := .ret [(6, lA 1 (List.map e_i64 r))] []
noncomputable def ref_island_c1 : Code := cL (cL (cR (cR (cL (cR ref_island_c0)))))
noncomputable def ref_island_c2 : Code := cL (cL (cR (cL (cR (cR (cR (cL (cL (cR (cR ref_island_c1))))))))))
noncomputable def ref_island_F2 (a0 : Netlist) (a1 : List ByteArray) (i7 : Nat) (y8 : Bool) (y9 : List Bool) (x10 : Net) (i15 : Nat) (y16 : Bool) : Fr := [(1, lA 1 (List.map e_str a1)), (3, .t (.v (.ptr 0 0))), (7, .t (.v (.rt 1))), (8, bA y8), (10, .t (.v (.ptr 2 0))), (11, bA y16), (29, lA 3 (List.map e_Net a0.Nets)), (30, iA (a0.Nets.length : Int)), (31, iA (i7 : Int)), (40, lA 2 (List.map e_Pin x10.Pins)), (41, iA (x10.Pins.length : Int)), (42, iA (i15 : Int))]
noncomputable def ref_island_H2 (a0 : Netlist) (a1 : List ByteArray) (i7 : Nat) (y8 : Bool) (y9 : List Bool) (x10 : Net) (i15 : Nat) (y16 : Bool) : Hp := [(0, .cells 26 [.c (.sl 2 (List.map e_Part a0.Parts)), .c (.sl 3 (List.map e_Net a0.Nets))]), (1, .row 4 1 (List.map e_bool y9)), (2, .cells 64 [.c (sC x10.Name), .c (.sl 2 (List.map e_Pin x10.Pins)), .c (.sl 1 (List.map e_str x10.Ports))])]
noncomputable def ref_island_B2 (a0 : Netlist) (a1 : List ByteArray) (i7 : Nat) (y8 : Bool) (y9 : List Bool) (x10 : Net) (s : Bool) : Oc := .ex 4 [(1, lA 1 (List.map e_str a1)), (3, .t (.v (.ptr 0 0))), (7, .t (.v (.rt 1))), (8, bA y8), (10, .t (.v (.ptr 2 0))), (11, bA s), (29, lA 3 (List.map e_Net a0.Nets)), (30, iA (a0.Nets.length : Int)), (31, iA (i7 : Int))] [(0, .cells 26 [.c (.sl 2 (List.map e_Part a0.Parts)), .c (.sl 3 (List.map e_Net a0.Nets))]), (1, .row 4 1 (List.map e_bool y9)), (2, .cells 64 [.c (sC x10.Name), .c (.sl 2 (List.map e_Pin x10.Pins)), .c (.sl 1 (List.map e_str x10.Ports))])]
noncomputable def ref_island_b2 (a0 : Netlist) (a1 : List ByteArray) (i7 : Nat) (y8 : Bool) (y9 : List Bool) (x10 : Net) (i15 : Nat) (y16 : Bool) : Option (Stp Bool (List Int)) :=
 bnd (atI x10.Pins (i15 : Int)) fun x17 =>
 bnd1 (cnd y16 (some true) (bnd (ref_partOf a0.Parts x17.Part) fun r23 =>
 bnd (atI y9 r23) fun x25 =>
 some x25)) fun v19 =>
 some (.go v19)
theorem ref_island_b2_r (a0 : Netlist) (a1 : List ByteArray) (i7 : Nat) (y8 : Bool) (y9 : List Bool) (x10 : Net) (i15 : Nat) (y16 : Bool) (o : Stp Bool (List Int)) (hi : i15 < x10.Pins.length) (h : ref_island_b2 a0 a1 i7 y8 y9 x10 i15 y16 = some o) :
    Runs PG 97 0 ref_island_c2 (ref_island_F2 a0 a1 i7 y8 y9 x10 i15 y16) (ref_island_H2 a0 a1 i7 y8 y9 x10 i15 y16) (stpOc (fun s' => .nor (ref_island_F2 a0 a1 i7 y8 y9 x10 (i15 + 1) s') (ref_island_H2 a0 a1 i7 y8 y9 x10 (i15 + 1) s')) (ref_island_B2 a0 a1 i7 y8 y9 x10) ref_island_R o) := by
  unfold ref_island_b2 at h
  refine Runs.len (s := 40) (sz := 2) (xs := List.map e_Pin x10.Pins) (by kernel_rfl) fun hl => ?_
  have hM : x10.Pins.length ≤ lim := len_of hl
  obtain ⟨x17, h18, h⟩ := bnd_e h
  obtain ⟨v19, h20, h⟩ := bnd1_e h
  let q27_f : Fr := [(1, lA 1 (List.map e_str a1)), (3, .t (.v (.ptr 0 0))), (7, .t (.v (.rt 1))), (8, bA y8), (10, .t (.v (.ptr 2 0))), (11, bA y16), (13, .t (.v (.ptr 3 0))), (29, lA 3 (List.map e_Net a0.Nets)), (30, iA (a0.Nets.length : Int)), (31, iA (i7 : Int)), (40, lA 2 (List.map e_Pin x10.Pins)), (41, iA (x10.Pins.length : Int)), (42, iA (i15 : Int))]
  let q27_g : Hp := [(0, .cells 26 [.c (.sl 2 (List.map e_Part a0.Parts)), .c (.sl 3 (List.map e_Net a0.Nets))]), (1, .row 4 1 (List.map e_bool y9)), (2, .cells 64 [.c (sC x10.Name), .c (.sl 2 (List.map e_Pin x10.Pins)), .c (.sl 1 (List.map e_str x10.Ports))]), (3, .cells 28 [.c (sC x17.Part), .c (sC x17.Pin)])]
  let q27_f' : Fr := [(1, lA 1 (List.map e_str a1)), (3, .t (.v (.ptr 0 0))), (7, .t (.v (.rt 1))), (8, bA y8), (10, .t (.v (.ptr 2 0))), (11, bA v19), (29, lA 3 (List.map e_Net a0.Nets)), (30, iA (a0.Nets.length : Int)), (31, iA (i7 : Int)), (40, lA 2 (List.map e_Pin x10.Pins)), (41, iA (x10.Pins.length : Int)), (42, iA (i15 : Int))]
  let q27_g' : Hp := [(0, .cells 26 [.c (.sl 2 (List.map e_Part a0.Parts)), .c (.sl 3 (List.map e_Net a0.Nets))]), (1, .row 4 1 (List.map e_bool y9)), (2, .cells 64 [.c (sC x10.Name), .c (.sl 2 (List.map e_Pin x10.Pins)), .c (.sl 1 (List.map e_str x10.Ports))])]
  have R21 : Runs PG 97 0 (cR (cL (cL (cR (cR ref_island_c2))))) q27_f q27_g (.nor q27_f' q27_g') := by
    rcases cnd_e h20 with ⟨h22, h20⟩ | ⟨h22, h20⟩
    · have h20 := Option.some.inj h20
      subst h20
      exact Runs.path XTok PGmix [.r [.b true, .b true, .b true, .b true, .b true, .b true, .b true, .b true, .b true]] [] (an h22 (an h22 (an h22 (an h22 (an h22 (an h22 (an h22 (an h22 h22)))))))) (by kernel_rfl)
    · obtain ⟨r23, h24, h20⟩ := bnd_e h20
      obtain ⟨x25, h26, h20⟩ := bnd_e h20
      have h20 := Option.some.inj h20
      subst h20
      exact Runs.path XTok PGmix [.r [.b false, .b false, .b false, .b false, .b false, .b false, .val (iA r23), .b false, .b false, .el [bC x25], .b false]] [] (an h22 (an h22 (an h22 (an h22 (an h22 (an h22 (an (ref_partOf_ok a0.Parts x17.Part r23 h24) (an h22 (an (idx_lt e_bool h26) (an h22 (an (idx_el e_bool h26) h22))))))))))) (by kernel_rfl)
  have h := Option.some.inj h
  subst h
  exact Runs.path XTok PGmix [.r [], .b true, .r [.el (e_Pin x17), .id 3], .s q27_f q27_g [] (.nor q27_f' q27_g'), .r [.eq 57 (iA ((i15 + 1 : Nat) : Int))]] [] (an (lt_true hi) (an (idx_ok e_Pin h18) (an R21 (wrap_eq hi hM)))) (by kernel_rfl)
theorem ref_island_b2_e (a0 : Netlist) (a1 : List ByteArray) (i7 : Nat) (y8 : Bool) (y9 : List Bool) (x10 : Net) (y16 : Bool) : Runs PG 97 0 ref_island_c2 (ref_island_F2 a0 a1 i7 y8 y9 x10 (x10.Pins.length) y16) (ref_island_H2 a0 a1 i7 y8 y9 x10 (x10.Pins.length) y16) (ref_island_B2 a0 a1 i7 y8 y9 x10 y16) := by
  exact Runs.path XTok PGmix [.r [], .b false] [] (lt_false (x10.Pins.length)) (by kernel_rfl)
theorem ref_island_l2 (a0 : Netlist) (a1 : List ByteArray) (i7 : Nat) (y8 : Bool) (y9 : List Bool) (x10 : Net) (y16 : Bool) (r : Fin' Bool (List Int)) (h : forN (fun i15 s => ref_island_b2 a0 a1 i7 y8 y9 x10 i15 s) (x10.Pins.length) 0 y16 = some r) : Runs PG 97 0 (cL (cR (cL (cR (cR (cR (cL (cL (cR (cR ref_island_c1)))))))))) (ref_island_F2 a0 a1 i7 y8 y9 x10 0 y16) (ref_island_H2 a0 a1 i7 y8 y9 x10 0 y16) (finOc (ref_island_B2 a0 a1 i7 y8 y9 x10) ref_island_R r) :=
  Runs.loop' (by kernel_rfl) (forN_rounds (σ := Bool) (ρ := (List Int)) (body := fun i15 s => ref_island_b2 a0 a1 i7 y8 y9 x10 i15 s) (F := fun i15 s => ref_island_F2 a0 a1 i7 y8 y9 x10 i15 s) (H := fun i15 s => ref_island_H2 a0 a1 i7 y8 y9 x10 i15 s) (B := ref_island_B2 a0 a1 i7 y8 y9 x10) (R := ref_island_R) (M := x10.Pins.length) (fun _ => rfl) (fun _ => rfl) (fun s => ref_island_b2_e a0 a1 i7 y8 y9 x10 s) (fun i s o hi h => ref_island_b2_r a0 a1 i7 y8 y9 x10 i s o hi h) _ 0 _ r (Nat.zero_add _) h)
noncomputable def ref_island_c3 : Code := cL (cL (cR (cR (cR (cR (cR (cL (cL (cR (cR ref_island_c1))))))))))
noncomputable def ref_island_F3 (a0 : Netlist) (a1 : List ByteArray) (i7 : Nat) (x10 : Net) (u28 : Bool) (i31 : Nat) (y32 : Bool) (y33 : List Bool) : Fr := [(1, lA 1 (List.map e_str a1)), (3, .t (.v (.ptr 0 0))), (7, .t (.v (.rt 1))), (8, bA y32), (11, bA u28), (29, lA 3 (List.map e_Net a0.Nets)), (30, iA (a0.Nets.length : Int)), (31, iA (i7 : Int)), (59, lA 2 (List.map e_Pin x10.Pins)), (60, iA (x10.Pins.length : Int)), (61, iA (i31 : Int))]
noncomputable def ref_island_H3 (a0 : Netlist) (a1 : List ByteArray) (i7 : Nat) (x10 : Net) (u28 : Bool) (i31 : Nat) (y32 : Bool) (y33 : List Bool) : Hp := [(0, .cells 26 [.c (.sl 2 (List.map e_Part a0.Parts)), .c (.sl 3 (List.map e_Net a0.Nets))]), (1, .row 4 1 (List.map e_bool y33))]
noncomputable def ref_island_B3 (a0 : Netlist) (a1 : List ByteArray) (i7 : Nat) (x10 : Net) (u28 : Bool) (s : Bool × List Bool) : Oc := .ex 6 [(1, lA 1 (List.map e_str a1)), (3, .t (.v (.ptr 0 0))), (7, .t (.v (.rt 1))), (8, bA s.1), (29, lA 3 (List.map e_Net a0.Nets)), (30, iA (a0.Nets.length : Int)), (31, iA (i7 : Int))] [(0, .cells 26 [.c (.sl 2 (List.map e_Part a0.Parts)), .c (.sl 3 (List.map e_Net a0.Nets))]), (1, .row 4 1 (List.map e_bool s.2))]
noncomputable def ref_island_b3 (a0 : Netlist) (a1 : List ByteArray) (i7 : Nat) (x10 : Net) (u28 : Bool) (i31 : Nat) (y32 : Bool) (y33 : List Bool) : Option (Stp (Bool × List Bool) (List Int)) :=
 bnd (atI x10.Pins (i31 : Int)) fun x34 =>
 bnd (ref_partOf a0.Parts x34.Part) fun r36 =>
 bnd1 (cnd u28 (bnd (atI y33 r36) fun x42 =>
 some (!x42)) (some false)) fun v38 =>
 bnd2 (cnd v38 (bnd (atI y33 r36) fun x50 =>
 some (true, y33.set (Int.toNat r36) true)) (some (y32, y33))) fun v45 v46 =>
 some (.go (v45, v46))
theorem ref_island_b3_r (a0 : Netlist) (a1 : List ByteArray) (i7 : Nat) (x10 : Net) (u28 : Bool) (i31 : Nat) (y32 : Bool) (y33 : List Bool) (o : Stp (Bool × List Bool) (List Int)) (hi : i31 < x10.Pins.length) (h : ref_island_b3 a0 a1 i7 x10 u28 i31 y32 y33 = some o) :
    Runs PG 97 0 ref_island_c3 (ref_island_F3 a0 a1 i7 x10 u28 i31 y32 y33) (ref_island_H3 a0 a1 i7 x10 u28 i31 y32 y33) (stpOc (fun s' => .nor (ref_island_F3 a0 a1 i7 x10 u28 (i31 + 1) s'.1 s'.2) (ref_island_H3 a0 a1 i7 x10 u28 (i31 + 1) s'.1 s'.2)) (ref_island_B3 a0 a1 i7 x10 u28) ref_island_R o) := by
  unfold ref_island_b3 at h
  refine Runs.len (s := 59) (sz := 2) (xs := List.map e_Pin x10.Pins) (by kernel_rfl) fun hl => ?_
  have hM : x10.Pins.length ≤ lim := len_of hl
  obtain ⟨x34, h35, h⟩ := bnd_e h
  obtain ⟨r36, h37, h⟩ := bnd_e h
  obtain ⟨v38, h39, h⟩ := bnd1_e h
  let q44_f : Fr := [(1, lA 1 (List.map e_str a1)), (3, .t (.v (.ptr 0 0))), (7, .t (.v (.rt 1))), (8, bA y32), (11, bA u28), (16, iA r36), (29, lA 3 (List.map e_Net a0.Nets)), (30, iA (a0.Nets.length : Int)), (31, iA (i7 : Int)), (59, lA 2 (List.map e_Pin x10.Pins)), (60, iA (x10.Pins.length : Int)), (61, iA (i31 : Int))]
  let q44_g : Hp := [(0, .cells 26 [.c (.sl 2 (List.map e_Part a0.Parts)), .c (.sl 3 (List.map e_Net a0.Nets))]), (1, .row 4 1 (List.map e_bool y33))]
  let q44_f' : Fr := [(1, lA 1 (List.map e_str a1)), (3, .t (.v (.ptr 0 0))), (7, .t (.v (.rt 1))), (8, bA y32), (11, bA u28), (16, iA r36), (29, lA 3 (List.map e_Net a0.Nets)), (30, iA (a0.Nets.length : Int)), (31, iA (i7 : Int)), (59, lA 2 (List.map e_Pin x10.Pins)), (60, iA (x10.Pins.length : Int)), (61, iA (i31 : Int)), (77, bA v38)]
  let q44_g' : Hp := [(0, .cells 26 [.c (.sl 2 (List.map e_Part a0.Parts)), .c (.sl 3 (List.map e_Net a0.Nets))]), (1, .row 4 1 (List.map e_bool y33))]
  have R40 : Runs PG 97 0 (cL (cR (cR (cL (cL (cR (cR ref_island_c3))))))) q44_f q44_g (.nor q44_f' q44_g') := by
    rcases cnd_e h39 with ⟨h41, h39⟩ | ⟨h41, h39⟩
    · obtain ⟨x42, h43, h39⟩ := bnd_e h39
      have h39 := Option.some.inj h39
      subst h39
      exact Runs.path XTok PGmix [.r [.b true, .b true, .b true, .b true, .el [bC x42], .b true, .b true]] [] (an h41 (an h41 (an h41 (an (idx_lt e_bool h43) (an h41 (an (idx_el e_bool h43) (an h41 h41))))))) (by kernel_rfl)
    · have h39 := Option.some.inj h39
      subst h39
      exact Runs.path XTok PGmix [.r [.b false, .b false, .b false, .b false, .b false, .b false]] [] (an h41 (an h41 (an h41 (an h41 (an h41 h41))))) (by kernel_rfl)
  obtain ⟨v45, v46, h47, h⟩ := bnd2_e h
  let q56_f : Fr := [(1, lA 1 (List.map e_str a1)), (3, .t (.v (.ptr 0 0))), (7, .t (.v (.rt 1))), (8, bA y32), (11, bA u28), (16, iA r36), (29, lA 3 (List.map e_Net a0.Nets)), (30, iA (a0.Nets.length : Int)), (31, iA (i7 : Int)), (59, lA 2 (List.map e_Pin x10.Pins)), (60, iA (x10.Pins.length : Int)), (61, iA (i31 : Int)), (77, bA v38)]
  let q56_g : Hp := [(0, .cells 26 [.c (.sl 2 (List.map e_Part a0.Parts)), .c (.sl 3 (List.map e_Net a0.Nets))]), (1, .row 4 1 (List.map e_bool y33))]
  let q56_f' : Fr := [(1, lA 1 (List.map e_str a1)), (3, .t (.v (.ptr 0 0))), (7, .t (.v (.rt 1))), (8, bA v45), (11, bA u28), (29, lA 3 (List.map e_Net a0.Nets)), (30, iA (a0.Nets.length : Int)), (31, iA (i7 : Int)), (59, lA 2 (List.map e_Pin x10.Pins)), (60, iA (x10.Pins.length : Int)), (61, iA (i31 : Int))]
  let q56_g' : Hp := [(0, .cells 26 [.c (.sl 2 (List.map e_Part a0.Parts)), .c (.sl 3 (List.map e_Net a0.Nets))]), (1, .row 4 1 (List.map e_bool v46))]
  have R48 : Runs PG 97 0 (cR (cR (cR (cL (cL (cR (cR ref_island_c3))))))) q56_f q56_g (.nor q56_f' q56_g') := by
    rcases cnd_e h47 with ⟨h49, h47⟩ | ⟨h49, h47⟩
    · obtain ⟨x50, h51, h47⟩ := bnd_e h47
      have h47 := Option.some.inj h47
      have q52 := (Prod.mk.inj h47).1
      have q53 := (Prod.mk.inj h47).2
      subst q52
      subst q53
      exact Runs.path XTok PGmix [.b true, .r [.el (e_bool x50), .row (List.map e_bool (y33.set (Int.toNat r36) true))]] [] (an h49 (an (idx_lt e_bool h51) (set_ok e_bool h51 true 0 [bC true] (by kernel_rfl)))) (by kernel_rfl)
    · have h47 := Option.some.inj h47
      have q54 := (Prod.mk.inj h47).1
      have q55 := (Prod.mk.inj h47).2
      subst q54
      subst q55
      exact Runs.path XTok PGmix [.b false] [] h49 (by kernel_rfl)
  have h := Option.some.inj h
  subst h
  exact Runs.path XTok PGmix [.r [], .b true, .r [.el (e_Pin x34), .id 2], .r [.val (iA r36)], .s q44_f q44_g [] (.nor q44_f' q44_g'), .s q56_f q56_g [] (.nor q56_f' q56_g'), .r [.eq 81 (iA ((i31 + 1 : Nat) : Int))]] [] (an (lt_true hi) (an (idx_ok e_Pin h35) (an (ref_partOf_ok a0.Parts x34.Part r36 h37) (an R40 (an R48 (wrap_eq hi hM)))))) (by kernel_rfl)
theorem ref_island_b3_e (a0 : Netlist) (a1 : List ByteArray) (i7 : Nat) (x10 : Net) (u28 : Bool) (y32 : Bool) (y33 : List Bool) : Runs PG 97 0 ref_island_c3 (ref_island_F3 a0 a1 i7 x10 u28 (x10.Pins.length) y32 y33) (ref_island_H3 a0 a1 i7 x10 u28 (x10.Pins.length) y32 y33) (ref_island_B3 a0 a1 i7 x10 u28 (y32, y33)) := by
  exact Runs.path XTok PGmix [.r [], .b false] [] (lt_false (x10.Pins.length)) (by kernel_rfl)
theorem ref_island_l3 (a0 : Netlist) (a1 : List ByteArray) (i7 : Nat) (x10 : Net) (u28 : Bool) (y32 : Bool) (y33 : List Bool) (r : Fin' (Bool × List Bool) (List Int)) (h : forN (fun i31 s => ref_island_b3 a0 a1 i7 x10 u28 i31 s.1 s.2) (x10.Pins.length) 0 (y32, y33) = some r) : Runs PG 97 0 (cL (cR (cR (cR (cR (cR (cL (cL (cR (cR ref_island_c1)))))))))) (ref_island_F3 a0 a1 i7 x10 u28 0 y32 y33) (ref_island_H3 a0 a1 i7 x10 u28 0 y32 y33) (finOc (ref_island_B3 a0 a1 i7 x10 u28) ref_island_R r) :=
  Runs.loop' (by kernel_rfl) (forN_rounds (σ := (Bool × List Bool)) (ρ := (List Int)) (body := fun i31 s => ref_island_b3 a0 a1 i7 x10 u28 i31 s.1 s.2) (F := fun i31 s => ref_island_F3 a0 a1 i7 x10 u28 i31 s.1 s.2) (H := fun i31 s => ref_island_H3 a0 a1 i7 x10 u28 i31 s.1 s.2) (B := ref_island_B3 a0 a1 i7 x10 u28) (R := ref_island_R) (M := x10.Pins.length) (fun _ => rfl) (fun _ => rfl) (fun s => ref_island_b3_e a0 a1 i7 x10 u28 s.1 s.2) (fun i s o hi h => ref_island_b3_r a0 a1 i7 x10 u28 i s.1 s.2 o hi h) _ 0 _ r (Nat.zero_add _) h)
noncomputable def ref_island_F1 (a0 : Netlist) (a1 : List ByteArray) (i7 : Nat) (y8 : Bool) (y9 : List Bool) : Fr := [(1, lA 1 (List.map e_str a1)), (3, .t (.v (.ptr 0 0))), (7, .t (.v (.rt 1))), (8, bA y8), (29, lA 3 (List.map e_Net a0.Nets)), (30, iA (a0.Nets.length : Int)), (31, iA (i7 : Int))]
noncomputable def ref_island_H1 (a0 : Netlist) (a1 : List ByteArray) (i7 : Nat) (y8 : Bool) (y9 : List Bool) : Hp := [(0, .cells 26 [.c (.sl 2 (List.map e_Part a0.Parts)), .c (.sl 3 (List.map e_Net a0.Nets))]), (1, .row 4 1 (List.map e_bool y9))]
noncomputable def ref_island_B1 (a0 : Netlist) (a1 : List ByteArray) (s : Bool × List Bool) : Oc := .ex 2 [(1, lA 1 (List.map e_str a1)), (3, .t (.v (.ptr 0 0))), (7, .t (.v (.rt 1))), (8, bA s.1)] [(0, .cells 26 [.c (.sl 2 (List.map e_Part a0.Parts)), .c (.sl 3 (List.map e_Net a0.Nets))]), (1, .row 4 1 (List.map e_bool s.2))]
noncomputable def ref_island_b1 (a0 : Netlist) (a1 : List ByteArray) (i7 : Nat) (y8 : Bool) (y9 : List Bool) : Option (Stp (Bool × List Bool) (List Int)) :=
 bnd (atI a0.Nets (i7 : Int)) fun x10 =>
 bnd (slices_Contains_string_string a1 x10.Name) fun r12 =>
 cnd r12 (some (.go (y8, y9))) (aft1 (forN (fun i15 s => ref_island_b2 a0 a1 i7 y8 y9 x10 i15 s) (x10.Pins.length) 0 false) (fun u28 =>
 aft2 (forN (fun i31 s => ref_island_b3 a0 a1 i7 x10 u28 i31 s.1 s.2) (x10.Pins.length) 0 (y8, y9)) (fun u57 u58 =>
 some (.go (u57, u58)))
 (fun r60 =>
 some (.ret r60)))
 (fun r30 =>
 some (.ret r30)))
theorem ref_island_b1_r (a0 : Netlist) (a1 : List ByteArray) (i7 : Nat) (y8 : Bool) (y9 : List Bool) (o : Stp (Bool × List Bool) (List Int)) (hi : i7 < a0.Nets.length) (h : ref_island_b1 a0 a1 i7 y8 y9 = some o) :
    Runs PG 97 0 ref_island_c1 (ref_island_F1 a0 a1 i7 y8 y9) (ref_island_H1 a0 a1 i7 y8 y9) (stpOc (fun s' => .nor (ref_island_F1 a0 a1 (i7 + 1) s'.1 s'.2) (ref_island_H1 a0 a1 (i7 + 1) s'.1 s'.2)) (ref_island_B1 a0 a1) ref_island_R o) := by
  unfold ref_island_b1 at h
  refine Runs.len (s := 29) (sz := 3) (xs := List.map e_Net a0.Nets) (by kernel_rfl) fun hl => ?_
  have hM : a0.Nets.length ≤ lim := len_of hl
  obtain ⟨x10, h11, h⟩ := bnd_e h
  obtain ⟨r12, h13, h⟩ := bnd_e h
  rcases cnd_e h with ⟨h14, h⟩ | ⟨h14, h⟩
  · have h := Option.some.inj h
    subst h
    exact Runs.path XTok PGmix [.r [], .b true, .r [.el (e_Net x10), .id 2], .r [.val (bA r12)], .b true, .r [.eq 82 (iA ((i7 + 1 : Nat) : Int))]] [] (an (lt_true hi) (an (idx_ok e_Net h11) (an (slices_Contains_string_string_ok a1 x10.Name r12 h13) (an h14 (wrap_eq hi hM))))) (by kernel_rfl)
  · rcases aft1_e h with ⟨u28, h29, h⟩ | ⟨r30, h29, h⟩
    · rcases aft2_e h with ⟨u57, u58, h59, h⟩ | ⟨r60, h59, h⟩
      · have h := Option.some.inj h
        subst h
        exact Runs.path XTok PGmix [.r [], .b true, .r [.el (e_Net x10), .id 2], .r [.val (bA r12)], .b false, .r [], .r [.eq 41 (iA (x10.Pins.length : Int))], .s (ref_island_F2 a0 a1 i7 y8 y9 x10 0 false) (ref_island_H2 a0 a1 i7 y8 y9 x10 0 false) [] (ref_island_B2 a0 a1 i7 y8 y9 x10 u28), .r [.eq 60 (iA (x10.Pins.length : Int))], .s (ref_island_F3 a0 a1 i7 x10 u28 0 y8 y9) (ref_island_H3 a0 a1 i7 x10 u28 0 y8 y9) [] (ref_island_B3 a0 a1 i7 x10 u28 (u57, u58)), .r [.eq 82 (iA ((i7 + 1 : Nat) : Int))]] [] (an (lt_true hi) (an (idx_ok e_Net h11) (an (slices_Contains_string_string_ok a1 x10.Name r12 h13) (an h14 (an (leni_eq e_Pin x10.Pins) (an (ref_island_l2 a0 a1 i7 y8 y9 x10 false (.fin u28) h29) (an (leni_eq e_Pin x10.Pins) (an (ref_island_l3 a0 a1 i7 x10 u28 y8 y9 (.fin (u57, u58)) h59) (wrap_eq hi hM))))))))) (by kernel_rfl)
      · have h := Option.some.inj h
        subst h
        exact Runs.path XTok PGmix [.r [], .b true, .r [.el (e_Net x10), .id 2], .r [.val (bA r12)], .b false, .r [], .r [.eq 41 (iA (x10.Pins.length : Int))], .s (ref_island_F2 a0 a1 i7 y8 y9 x10 0 false) (ref_island_H2 a0 a1 i7 y8 y9 x10 0 false) [] (ref_island_B2 a0 a1 i7 y8 y9 x10 u28), .r [.eq 60 (iA (x10.Pins.length : Int))], .s (ref_island_F3 a0 a1 i7 x10 u28 0 y8 y9) (ref_island_H3 a0 a1 i7 x10 u28 0 y8 y9) [] (ref_island_R r60)] [] (an (lt_true hi) (an (idx_ok e_Net h11) (an (slices_Contains_string_string_ok a1 x10.Name r12 h13) (an h14 (an (leni_eq e_Pin x10.Pins) (an (ref_island_l2 a0 a1 i7 y8 y9 x10 false (.fin u28) h29) (an (leni_eq e_Pin x10.Pins) (ref_island_l3 a0 a1 i7 x10 u28 y8 y9 (.ret r60) h59)))))))) (by kernel_rfl)
    · have h := Option.some.inj h
      subst h
      exact Runs.path XTok PGmix [.r [], .b true, .r [.el (e_Net x10), .id 2], .r [.val (bA r12)], .b false, .r [], .r [.eq 41 (iA (x10.Pins.length : Int))], .s (ref_island_F2 a0 a1 i7 y8 y9 x10 0 false) (ref_island_H2 a0 a1 i7 y8 y9 x10 0 false) [] (ref_island_R r30)] [] (an (lt_true hi) (an (idx_ok e_Net h11) (an (slices_Contains_string_string_ok a1 x10.Name r12 h13) (an h14 (an (leni_eq e_Pin x10.Pins) (ref_island_l2 a0 a1 i7 y8 y9 x10 false (.ret r30) h29)))))) (by kernel_rfl)
theorem ref_island_b1_e (a0 : Netlist) (a1 : List ByteArray) (y8 : Bool) (y9 : List Bool) : Runs PG 97 0 ref_island_c1 (ref_island_F1 a0 a1 (a0.Nets.length) y8 y9) (ref_island_H1 a0 a1 (a0.Nets.length) y8 y9) (ref_island_B1 a0 a1 (y8, y9)) := by
  exact Runs.path XTok PGmix [.r [], .b false] [] (lt_false (a0.Nets.length)) (by kernel_rfl)
theorem ref_island_l1 (a0 : Netlist) (a1 : List ByteArray) (y8 : Bool) (y9 : List Bool) (r : Fin' (Bool × List Bool) (List Int)) (h : forN (fun i7 s => ref_island_b1 a0 a1 i7 s.1 s.2) (a0.Nets.length) 0 (y8, y9) = some r) : Runs PG 97 0 (cL (cR (cR (cL (cR ref_island_c0))))) (ref_island_F1 a0 a1 0 y8 y9) (ref_island_H1 a0 a1 0 y8 y9) (finOc (ref_island_B1 a0 a1) ref_island_R r) :=
  Runs.loop' (by kernel_rfl) (forN_rounds (σ := (Bool × List Bool)) (ρ := (List Int)) (body := fun i7 s => ref_island_b1 a0 a1 i7 s.1 s.2) (F := fun i7 s => ref_island_F1 a0 a1 i7 s.1 s.2) (H := fun i7 s => ref_island_H1 a0 a1 i7 s.1 s.2) (B := ref_island_B1 a0 a1) (R := ref_island_R) (M := a0.Nets.length) (fun _ => rfl) (fun _ => rfl) (fun s => ref_island_b1_e a0 a1 s.1 s.2) (fun i s o hi h => ref_island_b1_r a0 a1 i s.1 s.2 o hi h) _ 0 _ r (Nat.zero_add _) h)
noncomputable def ref_island_F0 (a0 : Netlist) (a1 : List ByteArray) (y4 : Bool) (y5 : List Bool) : Fr := [(1, lA 1 (List.map e_str a1)), (3, .t (.v (.ptr 0 0))), (7, .t (.v (.rt 1))), (8, bA y4)]
noncomputable def ref_island_H0 (a0 : Netlist) (a1 : List ByteArray) (y4 : Bool) (y5 : List Bool) : Hp := [(0, .cells 26 [.c (.sl 2 (List.map e_Part a0.Parts)), .c (.sl 3 (List.map e_Net a0.Nets))]), (1, .row 4 1 (List.map e_bool y5))]
noncomputable def ref_island_B0 (a0 : Netlist) (a1 : List ByteArray) (s : Bool × List Bool) : Oc := .ex 0 [(7, .t (.v (.rt 1)))] [(1, .row 4 1 (List.map e_bool s.2))]
noncomputable def ref_island_b0 (a0 : Netlist) (a1 : List ByteArray) (y4 : Bool) (y5 : List Bool) : Option (Stp (Bool × List Bool) (List Int)) :=
 cnd y4 (aft2 (forN (fun i7 s => ref_island_b1 a0 a1 i7 s.1 s.2) (a0.Nets.length) 0 (false, y5)) (fun u61 u62 =>
 some (.go (u61, u62)))
 (fun r64 =>
 some (.ret r64))) (some (.brk (y4, y5)))
theorem ref_island_b0_r (a0 : Netlist) (a1 : List ByteArray) (y4 : Bool) (y5 : List Bool) (o : Stp (Bool × List Bool) (List Int)) (h : ref_island_b0 a0 a1 y4 y5 = some o) :
    Runs PG 97 0 ref_island_c0 (ref_island_F0 a0 a1 y4 y5) (ref_island_H0 a0 a1 y4 y5) (stpOc (fun s' => .nor (ref_island_F0 a0 a1 s'.1 s'.2) (ref_island_H0 a0 a1 s'.1 s'.2)) (ref_island_B0 a0 a1) ref_island_R o) := by
  unfold ref_island_b0 at h
  rcases cnd_e h with ⟨h6, h⟩ | ⟨h6, h⟩
  · rcases aft2_e h with ⟨u61, u62, h63, h⟩ | ⟨r64, h63, h⟩
    · have h := Option.some.inj h
      subst h
      exact Runs.path XTok PGmix [.r [], .b true, .r [], .r [.eq 30 (iA (a0.Nets.length : Int))], .s (ref_island_F1 a0 a1 0 false y5) (ref_island_H1 a0 a1 0 false y5) [] (ref_island_B1 a0 a1 (u61, u62))] [] (an h6 (an (leni_eq e_Net a0.Nets) (ref_island_l1 a0 a1 false y5 (.fin (u61, u62)) h63))) (by kernel_rfl)
    · have h := Option.some.inj h
      subst h
      exact Runs.path XTok PGmix [.r [], .b true, .r [], .r [.eq 30 (iA (a0.Nets.length : Int))], .s (ref_island_F1 a0 a1 0 false y5) (ref_island_H1 a0 a1 0 false y5) [] (ref_island_R r64)] [] (an h6 (an (leni_eq e_Net a0.Nets) (ref_island_l1 a0 a1 false y5 (.ret r64) h63))) (by kernel_rfl)
  · have h := Option.some.inj h
    subst h
    exact Runs.path XTok PGmix [.r [], .b false] [] h6 (by kernel_rfl)
theorem ref_island_l0 (a0 : Netlist) (a1 : List ByteArray) (y4 : Bool) (y5 : List Bool) (r : Fin' (Bool × List Bool) (List Int)) (h : loop (fun s => ref_island_b0 a0 a1 s.1 s.2) (y4, y5) = some r) : Runs PG 97 0 (cL (cR (cL (cR (cR (cR ref_island_c)))))) (ref_island_F0 a0 a1 y4 y5) (ref_island_H0 a0 a1 y4 y5) (finOc (ref_island_B0 a0 a1) ref_island_R r) :=
  Runs.loop' (by kernel_rfl) (loop_rounds (σ := (Bool × List Bool)) (ρ := (List Int)) (body := fun s => ref_island_b0 a0 a1 s.1 s.2) (F := fun s => ref_island_F0 a0 a1 s.1 s.2) (H := fun s => ref_island_H0 a0 a1 s.1 s.2) (B := ref_island_B0 a0 a1) (R := ref_island_R) (fun _ => rfl) (fun _ => rfl) (fun s o h => ref_island_b0_r a0 a1 s.1 s.2 o h) h)
noncomputable def ref_island_c4 : Code := cL (cL (cR (cL (cR (cR (cR (cR (cR ref_island_c))))))))
noncomputable def ref_island_F4 (u66 : List Bool) (i69 : Nat) (y70 : List Int) : Fr := [(17, .t (.v (.rt 2))), (83, .t (.v (.rt 1))), (84, iA (u66.length : Int)), (85, iA (i69 : Int))]
noncomputable def ref_island_H4 (u66 : List Bool) (i69 : Nat) (y70 : List Int) : Hp := [(1, .row 4 1 (List.map e_bool u66)), (2, .row 3 1 (List.map e_i64 y70))]
noncomputable def ref_island_B4 (u66 : List Bool) (s : List Int) : Oc := .ex 8 [(17, .t (.v (.rt 2)))] [(2, .row 3 1 (List.map e_i64 s))]
noncomputable def ref_island_b4 (u66 : List Bool) (i69 : Nat) (y70 : List Int) : Option (Stp (List Int) (List Int)) :=
 bnd (atI u66 (i69 : Int)) fun x71 =>
 bnd1 (cnd x71 (grd (y70.length + [(i69 : Int)].length ≤ lim) <|
 some (y70 ++ [(i69 : Int)])) (some y70)) fun v73 =>
 some (.go v73)
theorem ref_island_b4_r (u66 : List Bool) (i69 : Nat) (y70 : List Int) (o : Stp (List Int) (List Int)) (hi : i69 < u66.length) (h : ref_island_b4 u66 i69 y70 = some o) :
    Runs PG 97 0 ref_island_c4 (ref_island_F4 u66 i69 y70) (ref_island_H4 u66 i69 y70) (stpOc (fun s' => .nor (ref_island_F4 u66 (i69 + 1) s') (ref_island_H4 u66 (i69 + 1) s')) (ref_island_B4 u66) ref_island_R o) := by
  unfold ref_island_b4 at h
  refine Runs.rlen (id := 1) (e := 4) (sz := 1) (xs := List.map e_bool u66) (by kernel_rfl) fun hl => ?_
  have hM : u66.length ≤ lim := len_of hl
  obtain ⟨x71, h72, h⟩ := bnd_e h
  obtain ⟨v73, h74, h⟩ := bnd1_e h
  let q78_f : Fr := [(17, .t (.v (.rt 2))), (18, iA (i69 : Int)), (83, .t (.v (.rt 1))), (84, iA (u66.length : Int)), (85, iA (i69 : Int)), (90, bA x71)]
  let q78_g : Hp := [(1, .row 4 1 (List.map e_bool u66)), (2, .row 3 1 (List.map e_i64 y70))]
  let q78_f' : Fr := [(17, .t (.v (.rt 4))), (83, .t (.v (.rt 1))), (84, iA (u66.length : Int)), (85, iA (i69 : Int))]
  let q78_g' : Hp := [(1, .row 4 1 (List.map e_bool u66)), (4, .row 3 1 (List.map e_i64 v73))]
  have R75 : Runs PG 97 0 (cR (cR (cL (cL (cR (cR ref_island_c4)))))) q78_f q78_g (.nor q78_f' q78_g') := by
    rcases cnd_e h74 with ⟨h76, h74⟩ | ⟨h76, h74⟩
    · obtain ⟨h77, h74⟩ := grd_e h74
      have h74 := Option.some.inj h74
      subst h74
      exact Runs.path XTok PGmix [.b true, .r [.id 3, .row (List.map e_i64 [(i69 : Int)]), .id 4, .row (List.map e_i64 (y70 ++ [(i69 : Int)]))]] [] (an h76 (an (Eq.refl (List.flatten (List.map e_i64 [(i69 : Int)]))) (app_ok e_i64 h77))) (by kernel_rfl)
    · have h74 := Option.some.inj h74
      subst h74
      exact Runs.path XTok PGmix [.b false] [(4, 2)] h76 (by kernel_rfl)
  have h := Option.some.inj h
  subst h
  exact Runs.path XTok PGmix [.r [], .b true, .r [.el [bC x71]], .r [], .s q78_f q78_g [] (.nor q78_f' q78_g'), .r [.eq 95 (iA ((i69 + 1 : Nat) : Int))]] [(2, 4)] (an (lt_true hi) (an (idx_lt e_bool h72) (an (idx_el e_bool h72) (an R75 (wrap_eq hi hM))))) (by kernel_rfl)
theorem ref_island_b4_e (u66 : List Bool) (y70 : List Int) : Runs PG 97 0 ref_island_c4 (ref_island_F4 u66 (u66.length) y70) (ref_island_H4 u66 (u66.length) y70) (ref_island_B4 u66 y70) := by
  exact Runs.path XTok PGmix [.r [], .b false] [] (lt_false (u66.length)) (by kernel_rfl)
theorem ref_island_l4 (u66 : List Bool) (y70 : List Int) (r : Fin' (List Int) (List Int)) (h : forN (fun i69 s => ref_island_b4 u66 i69 s) (u66.length) 0 y70 = some r) : Runs PG 97 0 (cL (cR (cL (cR (cR (cR (cR (cR ref_island_c)))))))) (ref_island_F4 u66 0 y70) (ref_island_H4 u66 0 y70) (finOc (ref_island_B4 u66) ref_island_R r) :=
  Runs.loop' (by kernel_rfl) (forN_rounds (σ := (List Int)) (ρ := (List Int)) (body := fun i69 s => ref_island_b4 u66 i69 s) (F := fun i69 s => ref_island_F4 u66 i69 s) (H := fun i69 s => ref_island_H4 u66 i69 s) (B := ref_island_B4 u66) (R := ref_island_R) (M := u66.length) (fun _ => rfl) (fun _ => rfl) (fun s => ref_island_b4_e u66 s) (fun i s o hi h => ref_island_b4_r u66 i s o hi h) _ 0 _ r (Nat.zero_add _) h)
noncomputable def ref_island (a0 : Netlist) (a1 : List ByteArray) (a2 : Int) : Option (List Int) :=
 grd ((0 : Int) ≤ (a0.Parts.length : Int) ∧ (a0.Parts.length : Int) ≤ (lim : Int)) <|
 bnd (atI (List.replicate (Int.toNat (a0.Parts.length : Int)) (false : Bool)) a2) fun x2 =>
 aft2 (loop (fun s => ref_island_b0 a0 a1 s.1 s.2) (true, (List.replicate (Int.toNat (a0.Parts.length : Int)) (false : Bool)).set (Int.toNat a2) true)) (fun u65 u66 =>
 aft1 (forN (fun i69 s => ref_island_b4 u66 i69 s) (u66.length) 0 []) (fun u79 =>
 some u79)
 (fun r81 =>
 some r81))
 (fun r68 =>
 some r68)
theorem ref_island_ok (a0 : Netlist) (a1 : List ByteArray) (a2 : Int) (r : List Int) (h : ref_island a0 a1 a2 = some r) : Spec PG 100 [gT (e_Netlist a0), lT 1 (List.map e_str a1), iT a2] [] (lA 1 (List.map e_i64 r)) [] := by
  unfold ref_island at h
  obtain ⟨h1, h⟩ := grd_e h
  obtain ⟨x2, h3, h⟩ := bnd_e h
  rcases aft2_e h with ⟨u65, u66, h67, h⟩ | ⟨r68, h67, h⟩
  · rcases aft1_e h with ⟨u79, h80, h⟩ | ⟨r81, h80, h⟩
    · have h := Option.some.inj h
      subst h
      exact Spec.path XTok PGmix ref_island_fn 0 [.r [.id 0, .nl 1], .r [.eq 22 (iA (a0.Parts.length : Int)), .id 1, .el (e_bool false), .row (List.map e_bool (List.replicate (Int.toNat (a0.Parts.length : Int)) (false : Bool)))], .r [.el (e_bool x2), .row (List.map e_bool ((List.replicate (Int.toNat (a0.Parts.length : Int)) (false : Bool)).set (Int.toNat a2) true))], .r [], .s (ref_island_F0 a0 a1 true ((List.replicate (Int.toNat (a0.Parts.length : Int)) (false : Bool)).set (Int.toNat a2) true)) (ref_island_H0 a0 a1 true ((List.replicate (Int.toNat (a0.Parts.length : Int)) (false : Bool)).set (Int.toNat a2) true)) [] (ref_island_B0 a0 a1 (u65, u66)), .r [.mk 2 3 1], .r [.eq 84 (iA (u66.length : Int))], .s (ref_island_F4 u66 0 []) (ref_island_H4 u66 0 []) [] (ref_island_B4 u66 u79), .r [], .f 2] (an (leni_eq e_Part a0.Parts) (an (mk_ok e_bool false h1) (an (idx_lt e_bool h3) (an (set_ok e_bool h3 true 0 [bC true] (by kernel_rfl)) (an (ref_island_l0 a0 a1 true ((List.replicate (Int.toNat (a0.Parts.length : Int)) (false : Bool)).set (Int.toNat a2) true) (.fin (u65, u66)) h67) (an (leni_eq e_bool u66) (ref_island_l4 u66 [] (.fin u79) h80))))))) (by kernel_rfl)
    · have h := Option.some.inj h
      subst h
      exact Spec.path XTok PGmix ref_island_fn 0 [.r [.id 0, .nl 1], .r [.eq 22 (iA (a0.Parts.length : Int)), .id 1, .el (e_bool false), .row (List.map e_bool (List.replicate (Int.toNat (a0.Parts.length : Int)) (false : Bool)))], .r [.el (e_bool x2), .row (List.map e_bool ((List.replicate (Int.toNat (a0.Parts.length : Int)) (false : Bool)).set (Int.toNat a2) true))], .r [], .s (ref_island_F0 a0 a1 true ((List.replicate (Int.toNat (a0.Parts.length : Int)) (false : Bool)).set (Int.toNat a2) true)) (ref_island_H0 a0 a1 true ((List.replicate (Int.toNat (a0.Parts.length : Int)) (false : Bool)).set (Int.toNat a2) true)) [] (ref_island_B0 a0 a1 (u65, u66)), .r [.mk 2 3 1], .r [.eq 84 (iA (u66.length : Int))], .s (ref_island_F4 u66 0 []) (ref_island_H4 u66 0 []) [] (ref_island_R r81)] (an (leni_eq e_Part a0.Parts) (an (mk_ok e_bool false h1) (an (idx_lt e_bool h3) (an (set_ok e_bool h3 true 0 [bC true] (by kernel_rfl)) (an (ref_island_l0 a0 a1 true ((List.replicate (Int.toNat (a0.Parts.length : Int)) (false : Bool)).set (Int.toNat a2) true) (.fin (u65, u66)) h67) (an (leni_eq e_bool u66) (ref_island_l4 u66 [] (.ret r81) h80))))))) (by kernel_rfl)
  · have h := Option.some.inj h
    subst h
    exact Spec.path XTok PGmix ref_island_fn 0 [.r [.id 0, .nl 1], .r [.eq 22 (iA (a0.Parts.length : Int)), .id 1, .el (e_bool false), .row (List.map e_bool (List.replicate (Int.toNat (a0.Parts.length : Int)) (false : Bool)))], .r [.el (e_bool x2), .row (List.map e_bool ((List.replicate (Int.toNat (a0.Parts.length : Int)) (false : Bool)).set (Int.toNat a2) true))], .r [], .s (ref_island_F0 a0 a1 true ((List.replicate (Int.toNat (a0.Parts.length : Int)) (false : Bool)).set (Int.toNat a2) true)) (ref_island_H0 a0 a1 true ((List.replicate (Int.toNat (a0.Parts.length : Int)) (false : Bool)).set (Int.toNat a2) true)) [] (ref_island_R r68)] (an (leni_eq e_Part a0.Parts) (an (mk_ok e_bool false h1) (an (idx_lt e_bool h3) (an (set_ok e_bool h3 true 0 [bC true] (by kernel_rfl)) (ref_island_l0 a0 a1 true ((List.replicate (Int.toNat (a0.Parts.length : Int)) (false : Bool)).set (Int.toNat a2) true) (.ret r68) h67))))) (by kernel_rfl)

noncomputable def ref_Islands_c : Code := (Go.Proofs.Tryd.f36.body).getD .skip
theorem ref_Islands_fn : FnOk PG 36 ref_Islands_c 70 [.tmp 6, .tmp 7] := ⟨⟨Go.Proofs.Tryd.f36, by kernel_rfl, by kernel_rfl, by kernel_rfl, by kernel_rfl, by kernel_rfl⟩⟩
noncomputable def ref_Islands_c0 : Code := cL (cL (cR (cL (cR (cR (cR (cR (cR ref_Islands_c))))))))
noncomputable def ref_Islands_R (r : List (List ByteArray) × Int) : Oc := .ret [(6, lA 1 (List.map e_sl_str r.1)), (7, iA r.2)] []
noncomputable def ref_Islands_c1 : Code := cL (cL (cR (cL (cR (cR (cR (cL (cL (cR (cR ref_Islands_c0))))))))))
noncomputable def ref_Islands_F1 (a1 : Netlist) (a2 : List ByteArray) (i8 : Nat) (y10 : List (List ByteArray)) (r14 : List Int) (i16 : Nat) (y17 : List Bool) (y18 : List ByteArray) : Fr := [(2, lA 1 (List.map e_str a2)), (4, .t (.v (.ptr 0 0))), (10, .t (.v (.rt 1))), (11, .t (.v (.rt 2))), (13, .t (.v (.rt 3))), (33, lA 2 (List.map e_Part a1.Parts)), (34, iA (a1.Parts.length : Int)), (35, iA (i8 : Int)), (45, lA 1 (List.map e_i64 r14)), (46, iA (r14.length : Int)), (47, iA (i16 : Int))]
noncomputable def ref_Islands_H1 (a1 : Netlist) (a2 : List ByteArray) (i8 : Nat) (y10 : List (List ByteArray)) (r14 : List Int) (i16 : Nat) (y17 : List Bool) (y18 : List ByteArray) : Hp := [(0, .cells 26 [.c (.sl 2 (List.map e_Part a1.Parts)), .c (.sl 3 (List.map e_Net a1.Nets))]), (1, .row 4 1 (List.map e_bool y17)), (2, .row 55 1 (List.map e_sl_str y10)), (3, .row 9 1 (List.map e_str y18))]
noncomputable def ref_Islands_B1 (a1 : Netlist) (a2 : List ByteArray) (i8 : Nat) (y10 : List (List ByteArray)) (r14 : List Int) (s : List Bool × List ByteArray) : Oc := .ex 2 [(2, lA 1 (List.map e_str a2)), (4, .t (.v (.ptr 0 0))), (10, .t (.v (.rt 1))), (11, .t (.v (.rt 2))), (13, .t (.v (.rt 3))), (33, lA 2 (List.map e_Part a1.Parts)), (34, iA (a1.Parts.length : Int)), (35, iA (i8 : Int))] [(0, .cells 26 [.c (.sl 2 (List.map e_Part a1.Parts)), .c (.sl 3 (List.map e_Net a1.Nets))]), (1, .row 4 1 (List.map e_bool s.1)), (2, .row 55 1 (List.map e_sl_str y10)), (3, .row 9 1 (List.map e_str s.2))]
noncomputable def ref_Islands_b1 (a1 : Netlist) (a2 : List ByteArray) (i8 : Nat) (y10 : List (List ByteArray)) (r14 : List Int) (i16 : Nat) (y17 : List Bool) (y18 : List ByteArray) : Option (Stp (List Bool × List ByteArray) (List (List ByteArray) × Int)) :=
 bnd (atI r14 (i16 : Int)) fun x19 =>
 bnd (atI y17 x19) fun x21 =>
 bnd (atI a1.Parts x19) fun x23 =>
 grd (y18.length + [x23.Name].length ≤ lim) <|
 some (.go (y17.set (Int.toNat x19) true, y18 ++ [x23.Name]))
theorem ref_Islands_b1_r (a1 : Netlist) (a2 : List ByteArray) (i8 : Nat) (y10 : List (List ByteArray)) (r14 : List Int) (i16 : Nat) (y17 : List Bool) (y18 : List ByteArray) (o : Stp (List Bool × List ByteArray) (List (List ByteArray) × Int)) (hi : i16 < r14.length) (h : ref_Islands_b1 a1 a2 i8 y10 r14 i16 y17 y18 = some o) :
    Runs PG 70 0 ref_Islands_c1 (ref_Islands_F1 a1 a2 i8 y10 r14 i16 y17 y18) (ref_Islands_H1 a1 a2 i8 y10 r14 i16 y17 y18) (stpOc (fun s' => .nor (ref_Islands_F1 a1 a2 i8 y10 r14 (i16 + 1) s'.1 s'.2) (ref_Islands_H1 a1 a2 i8 y10 r14 (i16 + 1) s'.1 s'.2)) (ref_Islands_B1 a1 a2 i8 y10 r14) ref_Islands_R o) := by
  unfold ref_Islands_b1 at h
  refine Runs.len (s := 45) (sz := 1) (xs := List.map e_i64 r14) (by kernel_rfl) fun hl => ?_
  have hM : r14.length ≤ lim := len_of hl
  obtain ⟨x19, h20, h⟩ := bnd_e h
  obtain ⟨x21, h22, h⟩ := bnd_e h
  obtain ⟨x23, h24, h⟩ := bnd_e h
  obtain ⟨h25, h⟩ := grd_e h
  have h := Option.some.inj h
  subst h
  exact Runs.path XTok PGmix [.r [], .b true, .r [.el [iC x19]], .r [.el (e_bool x21), .row (List.map e_bool (y17.set (Int.toNat x19) true))], .r [.el (e_Part x23), .id 4, .row (List.map e_str [x23.Name]), .id 5, .row (List.map e_str (y18 ++ [x23.Name]))], .r [.eq 63 (iA ((i16 + 1 : Nat) : Int))]] [(3, 5)] (an (lt_true hi) (an (idx_ok e_i64 h20) (an (idx_lt e_bool h22) (an (set_ok e_bool h22 true 0 [bC true] (by kernel_rfl)) (an (idx_ok e_Part h24) (an (Eq.refl (List.flatten (List.map e_str [x23.Name]))) (an (app_ok e_str h25) (wrap_eq hi hM)))))))) (by kernel_rfl)
theorem ref_Islands_b1_e (a1 : Netlist) (a2 : List ByteArray) (i8 : Nat) (y10 : List (List ByteArray)) (r14 : List Int) (y17 : List Bool) (y18 : List ByteArray) : Runs PG 70 0 ref_Islands_c1 (ref_Islands_F1 a1 a2 i8 y10 r14 (r14.length) y17 y18) (ref_Islands_H1 a1 a2 i8 y10 r14 (r14.length) y17 y18) (ref_Islands_B1 a1 a2 i8 y10 r14 (y17, y18)) := by
  exact Runs.path XTok PGmix [.r [], .b false] [] (lt_false (r14.length)) (by kernel_rfl)
theorem ref_Islands_l1 (a1 : Netlist) (a2 : List ByteArray) (i8 : Nat) (y10 : List (List ByteArray)) (r14 : List Int) (y17 : List Bool) (y18 : List ByteArray) (r : Fin' (List Bool × List ByteArray) (List (List ByteArray) × Int)) (h : forN (fun i16 s => ref_Islands_b1 a1 a2 i8 y10 r14 i16 s.1 s.2) (r14.length) 0 (y17, y18) = some r) : Runs PG 70 0 (cL (cR (cL (cR (cR (cR (cL (cL (cR (cR ref_Islands_c0)))))))))) (ref_Islands_F1 a1 a2 i8 y10 r14 0 y17 y18) (ref_Islands_H1 a1 a2 i8 y10 r14 0 y17 y18) (finOc (ref_Islands_B1 a1 a2 i8 y10 r14) ref_Islands_R r) :=
  Runs.loop' (by kernel_rfl) (forN_rounds (σ := (List Bool × List ByteArray)) (ρ := (List (List ByteArray) × Int)) (body := fun i16 s => ref_Islands_b1 a1 a2 i8 y10 r14 i16 s.1 s.2) (F := fun i16 s => ref_Islands_F1 a1 a2 i8 y10 r14 i16 s.1 s.2) (H := fun i16 s => ref_Islands_H1 a1 a2 i8 y10 r14 i16 s.1 s.2) (B := ref_Islands_B1 a1 a2 i8 y10 r14) (R := ref_Islands_R) (M := r14.length) (fun _ => rfl) (fun _ => rfl) (fun s => ref_Islands_b1_e a1 a2 i8 y10 r14 s.1 s.2) (fun i s o hi h => ref_Islands_b1_r a1 a2 i8 y10 r14 i s.1 s.2 o hi h) _ 0 _ r (Nat.zero_add _) h)
noncomputable def ref_Islands_F0 (a1 : Netlist) (a2 : List ByteArray) (i8 : Nat) (y9 : List Bool) (y10 : List (List ByteArray)) : Fr := [(2, lA 1 (List.map e_str a2)), (4, .t (.v (.ptr 0 0))), (10, .t (.v (.rt 1))), (11, .t (.v (.rt 2))), (33, lA 2 (List.map e_Part a1.Parts)), (34, iA (a1.Parts.length : Int)), (35, iA (i8 : Int))]
noncomputable def ref_Islands_H0 (a1 : Netlist) (a2 : List ByteArray) (i8 : Nat) (y9 : List Bool) (y10 : List (List ByteArray)) : Hp := [(0, .cells 26 [.c (.sl 2 (List.map e_Part a1.Parts)), .c (.sl 3 (List.map e_Net a1.Nets))]), (1, .row 4 1 (List.map e_bool y9)), (2, .row 55 1 (List.map e_sl_str y10))]
noncomputable def ref_Islands_B0 (a1 : Netlist) (a2 : List ByteArray) (s : List Bool × List (List ByteArray)) : Oc := .ex 0 [(11, .t (.v (.rt 2)))] [(2, .row 55 1 (List.map e_sl_str s.2))]
noncomputable def ref_Islands_b0 (a1 : Netlist) (a2 : List ByteArray) (i8 : Nat) (y9 : List Bool) (y10 : List (List ByteArray)) : Option (Stp (List Bool × List (List ByteArray)) (List (List ByteArray) × Int)) :=
 bnd (atI y9 (i8 : Int)) fun x11 =>
 cnd x11 (some (.go (y9, y10))) (bnd (ref_island a1 a2 (i8 : Int)) fun r14 =>
 aft2 (forN (fun i16 s => ref_Islands_b1 a1 a2 i8 y10 r14 i16 s.1 s.2) (r14.length) 0 (y9, [])) (fun u26 u27 =>
 grd (y10.length + [u27].length ≤ lim) <|
 some (.go (u26, y10 ++ [u27])))
 (fun r29 =>
 some (.ret r29)))
theorem ref_Islands_b0_r (a1 : Netlist) (a2 : List ByteArray) (i8 : Nat) (y9 : List Bool) (y10 : List (List ByteArray)) (o : Stp (List Bool × List (List ByteArray)) (List (List ByteArray) × Int)) (hi : i8 < a1.Parts.length) (h : ref_Islands_b0 a1 a2 i8 y9 y10 = some o) :
    Runs PG 70 0 ref_Islands_c0 (ref_Islands_F0 a1 a2 i8 y9 y10) (ref_Islands_H0 a1 a2 i8 y9 y10) (stpOc (fun s' => .nor (ref_Islands_F0 a1 a2 (i8 + 1) s'.1 s'.2) (ref_Islands_H0 a1 a2 (i8 + 1) s'.1 s'.2)) (ref_Islands_B0 a1 a2) ref_Islands_R o) := by
  unfold ref_Islands_b0 at h
  refine Runs.len (s := 33) (sz := 2) (xs := List.map e_Part a1.Parts) (by kernel_rfl) fun hl => ?_
  have hM : a1.Parts.length ≤ lim := len_of hl
  obtain ⟨x11, h12, h⟩ := bnd_e h
  rcases cnd_e h with ⟨h13, h⟩ | ⟨h13, h⟩
  · have h := Option.some.inj h
    subst h
    exact Runs.path XTok PGmix [.r [], .b true, .r [], .r [.el [bC x11]], .b true, .r [.eq 68 (iA ((i8 + 1 : Nat) : Int))]] [] (an (lt_true hi) (an (idx_lt e_bool h12) (an (idx_el e_bool h12) (an h13 (wrap_eq hi hM))))) (by kernel_rfl)
  · obtain ⟨r14, h15, h⟩ := bnd_e h
    rcases aft2_e h with ⟨u26, u27, h28, h⟩ | ⟨r29, h28, h⟩
    · obtain ⟨h30, h⟩ := grd_e h
      have h := Option.some.inj h
      subst h
      exact Runs.path XTok PGmix [.r [], .b true, .r [], .r [.el [bC x11]], .b false, .r [.mk 3 9 1], .r [.val (lA 1 (List.map e_i64 r14)), .eq 46 (iA (r14.length : Int))], .s (ref_Islands_F1 a1 a2 i8 y10 r14 0 y9 []) (ref_Islands_H1 a1 a2 i8 y10 r14 0 y9 []) [] (ref_Islands_B1 a1 a2 i8 y10 r14 (u26, u27)), .r [.fz 3, .id 3, .row (List.map e_sl_str [u27]), .id 4, .row (List.map e_sl_str (y10 ++ [u27]))], .r [.eq 68 (iA ((i8 + 1 : Nat) : Int))]] [(2, 4)] (an (lt_true hi) (an (idx_lt e_bool h12) (an (idx_el e_bool h12) (an h13 (an (ref_island_ok a1 a2 (i8 : Int) r14 h15) (an (leni_eq e_i64 r14) (an (ref_Islands_l1 a1 a2 i8 y10 r14 y9 [] (.fin (u26, u27)) h28) (an (Eq.refl (List.flatten (List.map e_sl_str [u27]))) (an (app_ok e_sl_str h30) (wrap_eq hi hM)))))))))) (by kernel_rfl)
    · have h := Option.some.inj h
      subst h
      exact Runs.path XTok PGmix [.r [], .b true, .r [], .r [.el [bC x11]], .b false, .r [.mk 3 9 1], .r [.val (lA 1 (List.map e_i64 r14)), .eq 46 (iA (r14.length : Int))], .s (ref_Islands_F1 a1 a2 i8 y10 r14 0 y9 []) (ref_Islands_H1 a1 a2 i8 y10 r14 0 y9 []) [] (ref_Islands_R r29)] [] (an (lt_true hi) (an (idx_lt e_bool h12) (an (idx_el e_bool h12) (an h13 (an (ref_island_ok a1 a2 (i8 : Int) r14 h15) (an (leni_eq e_i64 r14) (ref_Islands_l1 a1 a2 i8 y10 r14 y9 [] (.ret r29) h28))))))) (by kernel_rfl)
theorem ref_Islands_b0_e (a1 : Netlist) (a2 : List ByteArray) (y9 : List Bool) (y10 : List (List ByteArray)) : Runs PG 70 0 ref_Islands_c0 (ref_Islands_F0 a1 a2 (a1.Parts.length) y9 y10) (ref_Islands_H0 a1 a2 (a1.Parts.length) y9 y10) (ref_Islands_B0 a1 a2 (y9, y10)) := by
  exact Runs.path XTok PGmix [.r [], .b false] [] (lt_false (a1.Parts.length)) (by kernel_rfl)
theorem ref_Islands_l0 (a1 : Netlist) (a2 : List ByteArray) (y9 : List Bool) (y10 : List (List ByteArray)) (r : Fin' (List Bool × List (List ByteArray)) (List (List ByteArray) × Int)) (h : forN (fun i8 s => ref_Islands_b0 a1 a2 i8 s.1 s.2) (a1.Parts.length) 0 (y9, y10) = some r) : Runs PG 70 0 (cL (cR (cL (cR (cR (cR (cR (cR ref_Islands_c)))))))) (ref_Islands_F0 a1 a2 0 y9 y10) (ref_Islands_H0 a1 a2 0 y9 y10) (finOc (ref_Islands_B0 a1 a2) ref_Islands_R r) :=
  Runs.loop' (by kernel_rfl) (forN_rounds (σ := (List Bool × List (List ByteArray))) (ρ := (List (List ByteArray) × Int)) (body := fun i8 s => ref_Islands_b0 a1 a2 i8 s.1 s.2) (F := fun i8 s => ref_Islands_F0 a1 a2 i8 s.1 s.2) (H := fun i8 s => ref_Islands_H0 a1 a2 i8 s.1 s.2) (B := ref_Islands_B0 a1 a2) (R := ref_Islands_R) (M := a1.Parts.length) (fun _ => rfl) (fun _ => rfl) (fun s => ref_Islands_b0_e a1 a2 s.1 s.2) (fun i s o hi h => ref_Islands_b0_r a1 a2 i s.1 s.2 o hi h) _ 0 _ r (Nat.zero_add _) h)
noncomputable def ref_Islands (a0 : List PartType) (a1 : Netlist) (a2 : List ByteArray) : Option (List (List ByteArray) × Int) :=
 bnd (ref_CheckList a0 a1) fun r1 =>
 cnd (r1 != 0) (some ([], r1)) (bnd (ref_checkNetNames a1 a2) fun r4 =>
 cnd (r4 != 0) (some ([], r4)) (grd ((0 : Int) ≤ (a1.Parts.length : Int) ∧ (a1.Parts.length : Int) ≤ (lim : Int)) <|
 aft2 (forN (fun i8 s => ref_Islands_b0 a1 a2 i8 s.1 s.2) (a1.Parts.length) 0 (List.replicate (Int.toNat (a1.Parts.length : Int)) (false : Bool), [])) (fun u31 u32 =>
 some (u32, 0))
 (fun r34 =>
 some r34)))
theorem ref_Islands_ok (a0 : List PartType) (a1 : Netlist) (a2 : List ByteArray) (r : List (List ByteArray) × Int) (h : ref_Islands a0 a1 a2 = some r) : Spec PG 36 [lT 2 (List.map e_PartType a0), gT (e_Netlist a1), lT 1 (List.map e_str a2)] [] (.tup [lT 1 (List.map e_sl_str r.1), iT r.2]) [] := by
  unfold ref_Islands at h
  obtain ⟨r1, h2, h⟩ := bnd_e h
  rcases cnd_e h with ⟨h3, h⟩ | ⟨h3, h⟩
  · have h := Option.some.inj h
    subst h
    exact Spec.path XTok PGmix ref_Islands_fn 0 [.r [.id 0, .nl 1], .r [.val (iA r1)], .r [], .b true, .r [.nl 1]] (an (ref_CheckList_ok a0 a1 r1 h2) h3) (by kernel_rfl)
  · obtain ⟨r4, h5, h⟩ := bnd_e h
    rcases cnd_e h with ⟨h6, h⟩ | ⟨h6, h⟩
    · have h := Option.some.inj h
      subst h
      exact Spec.path XTok PGmix ref_Islands_fn 0 [.r [.id 0, .nl 1], .r [.val (iA r1)], .r [], .b false, .r [.val (iA r4)], .r [], .b true, .r [.nl 1]] (an (ref_CheckList_ok a0 a1 r1 h2) (an h3 (an (ref_checkNetNames_ok a1 a2 r4 h5) h6))) (by kernel_rfl)
    · obtain ⟨h7, h⟩ := grd_e h
      rcases aft2_e h with ⟨u31, u32, h33, h⟩ | ⟨r34, h33, h⟩
      · have h := Option.some.inj h
        subst h
        exact Spec.path XTok PGmix ref_Islands_fn 0 [.r [.id 0, .nl 1], .r [.val (iA r1)], .r [], .b false, .r [.val (iA r4)], .r [], .b false, .r [.eq 30 (iA (a1.Parts.length : Int)), .id 1, .el (e_bool false), .row (List.map e_bool (List.replicate (Int.toNat (a1.Parts.length : Int)) (false : Bool)))], .r [.mk 2 55 1], .r [.eq 34 (iA (a1.Parts.length : Int))], .s (ref_Islands_F0 a1 a2 0 (List.replicate (Int.toNat (a1.Parts.length : Int)) (false : Bool)) []) (ref_Islands_H0 a1 a2 0 (List.replicate (Int.toNat (a1.Parts.length : Int)) (false : Bool)) []) [] (ref_Islands_B0 a1 a2 (u31, u32)), .r [], .f 2] (an (ref_CheckList_ok a0 a1 r1 h2) (an h3 (an (ref_checkNetNames_ok a1 a2 r4 h5) (an h6 (an (leni_eq e_Part a1.Parts) (an (mk_ok e_bool false h7) (an (leni_eq e_Part a1.Parts) (ref_Islands_l0 a1 a2 (List.replicate (Int.toNat (a1.Parts.length : Int)) (false : Bool)) [] (.fin (u31, u32)) h33)))))))) (by kernel_rfl)
      · have h := Option.some.inj h
        subst h
        exact Spec.path XTok PGmix ref_Islands_fn 0 [.r [.id 0, .nl 1], .r [.val (iA r1)], .r [], .b false, .r [.val (iA r4)], .r [], .b false, .r [.eq 30 (iA (a1.Parts.length : Int)), .id 1, .el (e_bool false), .row (List.map e_bool (List.replicate (Int.toNat (a1.Parts.length : Int)) (false : Bool)))], .r [.mk 2 55 1], .r [.eq 34 (iA (a1.Parts.length : Int))], .s (ref_Islands_F0 a1 a2 0 (List.replicate (Int.toNat (a1.Parts.length : Int)) (false : Bool)) []) (ref_Islands_H0 a1 a2 0 (List.replicate (Int.toNat (a1.Parts.length : Int)) (false : Bool)) []) [] (ref_Islands_R r34)] (an (ref_CheckList_ok a0 a1 r1 h2) (an h3 (an (ref_checkNetNames_ok a1 a2 r4 h5) (an h6 (an (leni_eq e_Part a1.Parts) (an (mk_ok e_bool false h7) (an (leni_eq e_Part a1.Parts) (ref_Islands_l0 a1 a2 (List.replicate (Int.toNat (a1.Parts.length : Int)) (false : Bool)) [] (.ret r34) h33)))))))) (by kernel_rfl)

noncomputable def slices_Equal_string_string_c : Code := (Go.Proofs.Tryd.f71.body).getD .skip
theorem slices_Equal_string_string_fn : FnOk PG 71 slices_Equal_string_string_c 26 [.tmp 4] := ⟨⟨Go.Proofs.Tryd.f71, by kernel_rfl, by kernel_rfl, by kernel_rfl, by kernel_rfl, by kernel_rfl⟩⟩
noncomputable def slices_Equal_string_string_c0 : Code := cL (cL (cR (cL (cR (cR slices_Equal_string_string_c)))))
noncomputable def slices_Equal_string_string_R (r : Bool) : Oc := .ret [(4, bA r)] []
noncomputable def slices_Equal_string_string_F0 (a0 : List ByteArray) (a1 : List ByteArray) (i2 : Nat) : Fr := [(0, lA 1 (List.map e_str a0)), (1, lA 1 (List.map e_str a1)), (11, lA 1 (List.map e_str a0)), (12, iA (a0.length : Int)), (13, iA (i2 : Int))]
noncomputable def slices_Equal_string_string_H0 (a0 : List ByteArray) (a1 : List ByteArray) (i2 : Nat) : Hp := []
noncomputable def slices_Equal_string_string_B0 (a0 : List ByteArray) (a1 : List ByteArray) (s : Unit) : Oc := .ex 0 [] []
noncomputable def slices_Equal_string_string_b0 (a0 : List ByteArray) (a1 : List ByteArray) (i2 : Nat) : Option (Stp Unit Bool) :=
 bnd (atI a0 (i2 : Int)) fun x3 =>
 bnd (atI a1 (i2 : Int)) fun x5 =>
 cnd (sNe x3 x5) (some (.ret false)) (some (.go ()))
theorem slices_Equal_string_string_b0_r (a0 : List ByteArray) (a1 : List ByteArray) (i2 : Nat) (o : Stp Unit Bool) (hi : i2 < a0.length) (h : slices_Equal_string_string_b0 a0 a1 i2 = some o) :
    Runs PG 26 0 slices_Equal_string_string_c0 (slices_Equal_string_string_F0 a0 a1 i2 ) (slices_Equal_string_string_H0 a0 a1 i2 ) (stpOc (fun s' => .nor (slices_Equal_string_string_F0 a0 a1 (i2 + 1) ) (slices_Equal_string_string_H0 a0 a1 (i2 + 1) )) (slices_Equal_string_string_B0 a0 a1) slices_Equal_string_string_R o) := by
  unfold slices_Equal_string_string_b0 at h
  refine Runs.len (s := 11) (sz := 1) (xs := List.map e_str a0) (by kernel_rfl) fun hl => ?_
  have hM : a0.length ≤ lim := len_of hl
  obtain ⟨x3, h4, h⟩ := bnd_e h
  obtain ⟨x5, h6, h⟩ := bnd_e h
  rcases cnd_e h with ⟨h7, h⟩ | ⟨h7, h⟩
  · have h := Option.some.inj h
    subst h
    exact Runs.path XTok PGmix [.r [], .b true, .r [], .d [([], []), ([], []), ([], [.el [sC x3]]), ([], []), ([], []), ([], []), ([], [.el [sC x5]]), ([], []), ([], [])], .b true, .r []] [] (an (lt_true hi) (an (idx_ok e_str h4) (an (idx_ok e_str h6) h7))) (by kernel_rfl)
  · have h := Option.some.inj h
    subst h
    exact Runs.path XTok PGmix [.r [], .b true, .r [], .d [([], []), ([], []), ([], [.el [sC x3]]), ([], []), ([], []), ([], []), ([], [.el [sC x5]]), ([], []), ([], [])], .b false, .r [.eq 25 (iA ((i2 + 1 : Nat) : Int))]] [] (an (lt_true hi) (an (idx_ok e_str h4) (an (idx_ok e_str h6) (an h7 (wrap_eq hi hM))))) (by kernel_rfl)
theorem slices_Equal_string_string_b0_e (a0 : List ByteArray) (a1 : List ByteArray) : Runs PG 26 0 slices_Equal_string_string_c0 (slices_Equal_string_string_F0 a0 a1 (a0.length) ) (slices_Equal_string_string_H0 a0 a1 (a0.length) ) (slices_Equal_string_string_B0 a0 a1 ()) := by
  exact Runs.path XTok PGmix [.r [], .b false] [] (lt_false (a0.length)) (by kernel_rfl)
theorem slices_Equal_string_string_l0 (a0 : List ByteArray) (a1 : List ByteArray) (r : Fin' Unit Bool) (h : forN (fun i2 s => slices_Equal_string_string_b0 a0 a1 i2 ) (a0.length) 0 () = some r) : Runs PG 26 0 (cL (cR (cL (cR (cR slices_Equal_string_string_c))))) (slices_Equal_string_string_F0 a0 a1 0 ) (slices_Equal_string_string_H0 a0 a1 0 ) (finOc (slices_Equal_string_string_B0 a0 a1) slices_Equal_string_string_R r) :=
  Runs.loop' (by kernel_rfl) (forN_rounds (σ := Unit) (ρ := Bool) (body := fun i2 s => slices_Equal_string_string_b0 a0 a1 i2 ) (F := fun i2 s => slices_Equal_string_string_F0 a0 a1 i2 ) (H := fun i2 s => slices_Equal_string_string_H0 a0 a1 i2 ) (B := slices_Equal_string_string_B0 a0 a1) (R := slices_Equal_string_string_R) (M := a0.length) (fun _ => rfl) (fun _ => rfl) (fun s => slices_Equal_string_string_b0_e a0 a1 ) (fun i s o hi h => slices_Equal_string_string_b0_r a0 a1 i o hi h) _ 0 _ r (Nat.zero_add _) h)
noncomputable def slices_Equal_string_string (a0 : List ByteArray) (a1 : List ByteArray) : Option Bool :=
 cnd ((a0.length : Int) != (a1.length : Int)) (some false) (aft0 (forN (fun i2 s => slices_Equal_string_string_b0 a0 a1 i2 ) (a0.length) 0 ()) (
 some true)
 (fun r9 =>
 some r9))
theorem slices_Equal_string_string_ok (a0 : List ByteArray) (a1 : List ByteArray) (r : Bool) (h : slices_Equal_string_string a0 a1 = some r) : Spec PG 71 [lT 1 (List.map e_str a0), lT 1 (List.map e_str a1)] [] (bA r) [] := by
  unfold slices_Equal_string_string at h
  rcases cnd_e h with ⟨h1, h⟩ | ⟨h1, h⟩
  · have h := Option.some.inj h
    subst h
    exact Spec.path XTok PGmix slices_Equal_string_string_fn 0 [.r [], .r [.eq 7 (iA (a0.length : Int)), .eq 9 (iA (a1.length : Int))], .b true, .r []] (an (leni_eq e_str a0) (an (leni_eq e_str a1) h1)) (by kernel_rfl)
  · rcases aft0_e h with ⟨h8, h⟩ | ⟨r9, h8, h⟩
    · have h := Option.some.inj h
      subst h
      exact Spec.path XTok PGmix slices_Equal_string_string_fn 0 [.r [], .r [.eq 7 (iA (a0.length : Int)), .eq 9 (iA (a1.length : Int))], .b false, .r [.eq 12 (iA (a0.length : Int))], .s (slices_Equal_string_string_F0 a0 a1 0 ) (slices_Equal_string_string_H0 a0 a1 0 ) [] (slices_Equal_string_string_B0 a0 a1 ()), .r []] (an (leni_eq e_str a0) (an (leni_eq e_str a1) (an h1 (an (leni_eq e_str a0) (slices_Equal_string_string_l0 a0 a1 (.fin ()) h8))))) (by kernel_rfl)
    · have h := Option.some.inj h
      subst h
      exact Spec.path XTok PGmix slices_Equal_string_string_fn 0 [.r [], .r [.eq 7 (iA (a0.length : Int)), .eq 9 (iA (a1.length : Int))], .b false, .r [.eq 12 (iA (a0.length : Int))], .s (slices_Equal_string_string_F0 a0 a1 0 ) (slices_Equal_string_string_H0 a0 a1 0 ) [] (slices_Equal_string_string_R r9)] (an (leni_eq e_str a0) (an (leni_eq e_str a1) (an h1 (an (leni_eq e_str a0) (slices_Equal_string_string_l0 a0 a1 (.ret r9) h8))))) (by kernel_rfl)

noncomputable def ref_SameRows_c : Code := (Go.Proofs.Tryd.f37.body).getD .skip
theorem ref_SameRows_fn : FnOk PG 37 ref_SameRows_c 27 [.tmp 4] := ⟨⟨Go.Proofs.Tryd.f37, by kernel_rfl, by kernel_rfl, by kernel_rfl, by kernel_rfl, by kernel_rfl⟩⟩
noncomputable def ref_SameRows_c0 : Code := cL (cL (cR (cL (cR (cR ref_SameRows_c)))))
noncomputable def ref_SameRows_R (r : Bool) : Oc := .ret [(4, bA r)] []
noncomputable def ref_SameRows_F0 (a0 : List (List ByteArray)) (a1 : List (List ByteArray)) (i2 : Nat) : Fr := [(0, lA 1 (List.map e_sl_str a0)), (1, lA 1 (List.map e_sl_str a1)), (11, lA 1 (List.map e_sl_str a0)), (12, iA (a0.length : Int)), (13, iA (i2 : Int))]
noncomputable def ref_SameRows_H0 (a0 : List (List ByteArray)) (a1 : List (List ByteArray)) (i2 : Nat) : Hp := []
noncomputable def ref_SameRows_B0 (a0 : List (List ByteArray)) (a1 : List (List ByteArray)) (s : Unit) : Oc := .ex 0 [] []
noncomputable def ref_SameRows_b0 (a0 : List (List ByteArray)) (a1 : List (List ByteArray)) (i2 : Nat) : Option (Stp Unit Bool) :=
 bnd (atI a0 (i2 : Int)) fun x3 =>
 bnd (atI a1 (i2 : Int)) fun x5 =>
 bnd (slices_Equal_string_string x3 x5) fun r7 =>
 cnd (!r7) (some (.ret false)) (some (.go ()))
theorem ref_SameRows_b0_r (a0 : List (List ByteArray)) (a1 : List (List ByteArray)) (i2 : Nat) (o : Stp Unit Bool) (hi : i2 < a0.length) (h : ref_SameRows_b0 a0 a1 i2 = some o) :
    Runs PG 27 0 ref_SameRows_c0 (ref_SameRows_F0 a0 a1 i2 ) (ref_SameRows_H0 a0 a1 i2 ) (stpOc (fun s' => .nor (ref_SameRows_F0 a0 a1 (i2 + 1) ) (ref_SameRows_H0 a0 a1 (i2 + 1) )) (ref_SameRows_B0 a0 a1) ref_SameRows_R o) := by
  unfold ref_SameRows_b0 at h
  refine Runs.len (s := 11) (sz := 1) (xs := List.map e_sl_str a0) (by kernel_rfl) fun hl => ?_
  have hM : a0.length ≤ lim := len_of hl
  obtain ⟨x3, h4, h⟩ := bnd_e h
  obtain ⟨x5, h6, h⟩ := bnd_e h
  obtain ⟨r7, h8, h⟩ := bnd_e h
  rcases cnd_e h with ⟨h9, h⟩ | ⟨h9, h⟩
  · have h := Option.some.inj h
    subst h
    exact Runs.path XTok PGmix [.r [], .b true, .r [], .d [([], []), ([], []), ([], [.el [.sl 1 (List.map e_str x3)]]), ([], []), ([], []), ([], []), ([], [.el [.sl 1 (List.map e_str x5)]]), ([], []), ([], [.val (bA r7)]), ([], [])], .b true, .r []] [] (an (lt_true hi) (an (idx_ok e_sl_str h4) (an (idx_ok e_sl_str h6) (an (slices_Equal_string_string_ok x3 x5 r7 h8) h9)))) (by kernel_rfl)
  · have h := Option.some.inj h
    subst h
    exact Runs.path XTok PGmix [.r [], .b true, .r [], .d [([], []), ([], []), ([], [.el [.sl 1 (List.map e_str x3)]]), ([], []), ([], []), ([], []), ([], [.el [.sl 1 (List.map e_str x5)]]), ([], []), ([], [.val (bA r7)]), ([], [])], .b false, .r [.eq 26 (iA ((i2 + 1 : Nat) : Int))]] [] (an (lt_true hi) (an (idx_ok e_sl_str h4) (an (idx_ok e_sl_str h6) (an (slices_Equal_string_string_ok x3 x5 r7 h8) (an h9 (wrap_eq hi hM)))))) (by kernel_rfl)
theorem ref_SameRows_b0_e (a0 : List (List ByteArray)) (a1 : List (List ByteArray)) : Runs PG 27 0 ref_SameRows_c0 (ref_SameRows_F0 a0 a1 (a0.length) ) (ref_SameRows_H0 a0 a1 (a0.length) ) (ref_SameRows_B0 a0 a1 ()) := by
  exact Runs.path XTok PGmix [.r [], .b false] [] (lt_false (a0.length)) (by kernel_rfl)
theorem ref_SameRows_l0 (a0 : List (List ByteArray)) (a1 : List (List ByteArray)) (r : Fin' Unit Bool) (h : forN (fun i2 s => ref_SameRows_b0 a0 a1 i2 ) (a0.length) 0 () = some r) : Runs PG 27 0 (cL (cR (cL (cR (cR ref_SameRows_c))))) (ref_SameRows_F0 a0 a1 0 ) (ref_SameRows_H0 a0 a1 0 ) (finOc (ref_SameRows_B0 a0 a1) ref_SameRows_R r) :=
  Runs.loop' (by kernel_rfl) (forN_rounds (σ := Unit) (ρ := Bool) (body := fun i2 s => ref_SameRows_b0 a0 a1 i2 ) (F := fun i2 s => ref_SameRows_F0 a0 a1 i2 ) (H := fun i2 s => ref_SameRows_H0 a0 a1 i2 ) (B := ref_SameRows_B0 a0 a1) (R := ref_SameRows_R) (M := a0.length) (fun _ => rfl) (fun _ => rfl) (fun s => ref_SameRows_b0_e a0 a1 ) (fun i s o hi h => ref_SameRows_b0_r a0 a1 i o hi h) _ 0 _ r (Nat.zero_add _) h)
noncomputable def ref_SameRows (a0 : List (List ByteArray)) (a1 : List (List ByteArray)) : Option Bool :=
 cnd ((a0.length : Int) != (a1.length : Int)) (some false) (aft0 (forN (fun i2 s => ref_SameRows_b0 a0 a1 i2 ) (a0.length) 0 ()) (
 some true)
 (fun r11 =>
 some r11))
theorem ref_SameRows_ok (a0 : List (List ByteArray)) (a1 : List (List ByteArray)) (r : Bool) (h : ref_SameRows a0 a1 = some r) : Spec PG 37 [lT 1 (List.map e_sl_str a0), lT 1 (List.map e_sl_str a1)] [] (bA r) [] := by
  unfold ref_SameRows at h
  rcases cnd_e h with ⟨h1, h⟩ | ⟨h1, h⟩
  · have h := Option.some.inj h
    subst h
    exact Spec.path XTok PGmix ref_SameRows_fn 0 [.r [], .r [.eq 7 (iA (a0.length : Int)), .eq 9 (iA (a1.length : Int))], .b true, .r []] (an (leni_eq e_sl_str a0) (an (leni_eq e_sl_str a1) h1)) (by kernel_rfl)
  · rcases aft0_e h with ⟨h10, h⟩ | ⟨r11, h10, h⟩
    · have h := Option.some.inj h
      subst h
      exact Spec.path XTok PGmix ref_SameRows_fn 0 [.r [], .r [.eq 7 (iA (a0.length : Int)), .eq 9 (iA (a1.length : Int))], .b false, .r [.eq 12 (iA (a0.length : Int))], .s (ref_SameRows_F0 a0 a1 0 ) (ref_SameRows_H0 a0 a1 0 ) [] (ref_SameRows_B0 a0 a1 ()), .r []] (an (leni_eq e_sl_str a0) (an (leni_eq e_sl_str a1) (an h1 (an (leni_eq e_sl_str a0) (ref_SameRows_l0 a0 a1 (.fin ()) h10))))) (by kernel_rfl)
    · have h := Option.some.inj h
      subst h
      exact Spec.path XTok PGmix ref_SameRows_fn 0 [.r [], .r [.eq 7 (iA (a0.length : Int)), .eq 9 (iA (a1.length : Int))], .b false, .r [.eq 12 (iA (a0.length : Int))], .s (ref_SameRows_F0 a0 a1 0 ) (ref_SameRows_H0 a0 a1 0 ) [] (ref_SameRows_R r11)] (an (leni_eq e_sl_str a0) (an (leni_eq e_sl_str a1) (an h1 (an (leni_eq e_sl_str a0) (ref_SameRows_l0 a0 a1 (.ret r11) h10))))) (by kernel_rfl)

noncomputable def law_NetlistIslandsMatchSpec_c : Code := (Go.Proofs.Tryd.f10.body).getD .skip
theorem law_NetlistIslandsMatchSpec_fn : FnOk PG 10 law_NetlistIslandsMatchSpec_c 36 [.tmp 6] := ⟨⟨Go.Proofs.Tryd.f10, by kernel_rfl, by kernel_rfl, by kernel_rfl, by kernel_rfl, by kernel_rfl⟩⟩
noncomputable def law_NetlistIslandsMatchSpec (a0 : List PartType) (a1 : Netlist) (a2 : List ByteArray) : Option Bool :=
 bnd (nl_Islands a0 a1 a2) fun r1 =>
 bnd (ref_Islands a0 a1 a2) fun r3 =>
 bnd1 (cnd (r1.2 == r3.2) (bnd (ref_SameRows r1.1 r3.1) fun r9 =>
 cnd r9 (bnd (law_awake ) fun r12 =>
 some r12) (some false)) (some false)) fun v5 =>
 some v5
theorem law_NetlistIslandsMatchSpec_ok (a0 : List PartType) (a1 : Netlist) (a2 : List ByteArray) (r : Bool) (h : law_NetlistIslandsMatchSpec a0 a1 a2 = some r) : Spec PG 10 [lT 2 (List.map e_PartType a0), gT (e_Netlist a1), lT 1 (List.map e_str a2)] [] (bA r) [] := by
  unfold law_NetlistIslandsMatchSpec at h
  obtain ⟨r1, h2, h⟩ := bnd_e h
  obtain ⟨r3, h4, h⟩ := bnd_e h
  obtain ⟨v5, h6, h⟩ := bnd1_e h
  let q14_f : Fr := [(7, lA 1 (List.map e_sl_str r1.1)), (8, iA r1.2), (9, lA 1 (List.map e_sl_str r3.1)), (10, iA r3.2)]
  let q14_g : Hp := []
  let q14_f' : Fr := [(6, bA v5)]
  let q14_g' : Hp := []
  have R7 : Runs PG 36 0 (cL (cR (cR (cR law_NetlistIslandsMatchSpec_c)))) q14_f q14_g (.nor q14_f' q14_g') := by
    rcases cnd_e h6 with ⟨h8, h6⟩ | ⟨h8, h6⟩
    · obtain ⟨r9, h10, h6⟩ := bnd_e h6
      rcases cnd_e h6 with ⟨h11, h6⟩ | ⟨h11, h6⟩
      · obtain ⟨r12, h13, h6⟩ := bnd_e h6
        have h6 := Option.some.inj h6
        subst h6
        exact Runs.path XTok PGmix [.r [.b true, .b true, .b true, .val (bA r9), .b true, .b true, .val (bA r12), .b true]] [] (an h8 (an h8 (an h8 (an (ref_SameRows_ok r1.1 r3.1 r9 h10) (an h8 (an h11 (an (law_awake_ok r12 h13) h11))))))) (by kernel_rfl)
      · have h6 := Option.some.inj h6
        subst h6
        exact Runs.path XTok PGmix [.r [.b true, .b true, .b true, .val (bA r9), .b true, .b false, .b false]] [] (an h8 (an h8 (an h8 (an (ref_SameRows_ok r1.1 r3.1 r9 h10) (an h8 (an h11 h11)))))) (by kernel_rfl)
    · have h6 := Option.some.inj h6
      subst h6
      exact Runs.path XTok PGmix [.r [.b false, .b false, .b false, .b false, .b false, .b false]] [] (an h8 (an h8 (an h8 (an h8 (an (Eq.refl false) (Eq.refl false)))))) (by kernel_rfl)
  have h := Option.some.inj h
  subst h
  exact Spec.path XTok PGmix law_NetlistIslandsMatchSpec_fn 0 [.r [.id 0], .r [.val (.tup [lT 1 (List.map e_sl_str r1.1), iT r1.2])], .r [.val (.tup [lT 1 (List.map e_sl_str r3.1), iT r3.2])], .s q14_f q14_g [] (.nor q14_f' q14_g')] (an (nl_Islands_ok a0 a1 a2 r1 h2) (an (ref_Islands_ok a0 a1 a2 r3 h4) R7)) (by kernel_rfl)
end Go.Proofs.YtlbndchfmdogeaaDoor.Sym
