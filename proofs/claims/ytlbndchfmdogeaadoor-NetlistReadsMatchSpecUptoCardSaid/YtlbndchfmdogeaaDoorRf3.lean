/- Printed by gen2.py: the plain forms of functions, and that calling them gives what these give. Conditions: none. -/
import Derived.Test.YtlbndchfmdogeaaDoorRf2
set_option linter.unusedVariables false
set_option maxHeartbeats 4000000
namespace Go.Proofs.YtlbndchfmdogeaaDoor.Sym
open Go Go.RowKit
noncomputable def slices_Equal_api_Part_api_Part_c : Code := (Go.Proofs.Tryd.f70.body).getD .skip
theorem slices_Equal_api_Part_api_Part_fn : FnOk PG 70 slices_Equal_api_Part_api_Part_c 26 [.tmp 4] := ⟨⟨Go.Proofs.Tryd.f70, by kernel_rfl, by kernel_rfl, by kernel_rfl, by kernel_rfl, by kernel_rfl⟩⟩
noncomputable def slices_Equal_api_Part_api_Part_c0 : Code := cL (cL (cR (cL (cR (cR slices_Equal_api_Part_api_Part_c)))))
noncomputable def slices_Equal_api_Part_api_Part_R (r : Bool) : Oc := .ret [(4, bA r)] []
noncomputable def slices_Equal_api_Part_api_Part_F0 (a0 : List Part) (a1 : List Part) (i2 : Nat) : Fr := [(0, lA 2 (List.map e_Part a0)), (1, lA 2 (List.map e_Part a1)), (11, lA 2 (List.map e_Part a0)), (12, iA (a0.length : Int)), (13, iA (i2 : Int))]
noncomputable def slices_Equal_api_Part_api_Part_H0 (a0 : List Part) (a1 : List Part) (i2 : Nat) : Hp := []
noncomputable def slices_Equal_api_Part_api_Part_B0 (a0 : List Part) (a1 : List Part) (s : Unit) : Oc := .ex 0 [] []
noncomputable def slices_Equal_api_Part_api_Part_b0 (a0 : List Part) (a1 : List Part) (i2 : Nat) : Option (Stp Unit Bool) :=
 bnd (atI a0 (i2 : Int)) fun x3 =>
 bnd (atI a1 (i2 : Int)) fun x5 =>
 cnd (!(sEq x3.Name x5.Name && (sEq x3.Type_ x5.Type_ && true))) (some (.ret false)) (some (.go ()))
theorem slices_Equal_api_Part_api_Part_b0_r (a0 : List Part) (a1 : List Part) (i2 : Nat) (o : Stp Unit Bool) (hi : i2 < a0.length) (h : slices_Equal_api_Part_api_Part_b0 a0 a1 i2 = some o) :
    Runs PG 26 0 slices_Equal_api_Part_api_Part_c0 (slices_Equal_api_Part_api_Part_F0 a0 a1 i2 ) (slices_Equal_api_Part_api_Part_H0 a0 a1 i2 ) (stpOc (fun s' => .nor (slices_Equal_api_Part_api_Part_F0 a0 a1 (i2 + 1) ) (slices_Equal_api_Part_api_Part_H0 a0 a1 (i2 + 1) )) (slices_Equal_api_Part_api_Part_B0 a0 a1) slices_Equal_api_Part_api_Part_R o) := by
  unfold slices_Equal_api_Part_api_Part_b0 at h
  refine Runs.len (s := 11) (sz := 2) (xs := List.map e_Part a0) (by kernel_rfl) fun hl => ?_
  have hM : a0.length ≤ lim := len_of hl
  obtain ⟨x3, h4, h⟩ := bnd_e h
  obtain ⟨x5, h6, h⟩ := bnd_e h
  rcases cnd_e h with ⟨h7, h⟩ | ⟨h7, h⟩
  · have h := Option.some.inj h
    subst h
    exact Runs.path XTok PGmix [.r [], .b true, .r [], .d [([], []), ([], []), ([], [.el (e_Part x3)]), ([], []), ([], []), ([], []), ([], [.el (e_Part x5)]), ([], []), ([], [])], .b true, .r []] [] (an (lt_true hi) (an (idx_ok e_Part h4) (an (idx_ok e_Part h6) h7))) (by kernel_rfl)
  · have h := Option.some.inj h
    subst h
    exact Runs.path XTok PGmix [.r [], .b true, .r [], .d [([], []), ([], []), ([], [.el (e_Part x3)]), ([], []), ([], []), ([], []), ([], [.el (e_Part x5)]), ([], []), ([], [])], .b false, .r [.eq 25 (iA ((i2 + 1 : Nat) : Int))]] [] (an (lt_true hi) (an (idx_ok e_Part h4) (an (idx_ok e_Part h6) (an h7 (wrap_eq hi hM))))) (by kernel_rfl)
theorem slices_Equal_api_Part_api_Part_b0_e (a0 : List Part) (a1 : List Part) : Runs PG 26 0 slices_Equal_api_Part_api_Part_c0 (slices_Equal_api_Part_api_Part_F0 a0 a1 (a0.length) ) (slices_Equal_api_Part_api_Part_H0 a0 a1 (a0.length) ) (slices_Equal_api_Part_api_Part_B0 a0 a1 ()) := by
  exact Runs.path XTok PGmix [.r [], .b false] [] (lt_false (a0.length)) (by kernel_rfl)
theorem slices_Equal_api_Part_api_Part_l0 (a0 : List Part) (a1 : List Part) (r : Fin' Unit Bool) (h : forN (fun i2 s => slices_Equal_api_Part_api_Part_b0 a0 a1 i2 ) (a0.length) 0 () = some r) : Runs PG 26 0 (cL (cR (cL (cR (cR slices_Equal_api_Part_api_Part_c))))) (slices_Equal_api_Part_api_Part_F0 a0 a1 0 ) (slices_Equal_api_Part_api_Part_H0 a0 a1 0 ) (finOc (slices_Equal_api_Part_api_Part_B0 a0 a1) slices_Equal_api_Part_api_Part_R r) :=
  Runs.loop' (by kernel_rfl) (forN_rounds (σ := Unit) (ρ := Bool) (body := fun i2 s => slices_Equal_api_Part_api_Part_b0 a0 a1 i2 ) (F := fun i2 s => slices_Equal_api_Part_api_Part_F0 a0 a1 i2 ) (H := fun i2 s => slices_Equal_api_Part_api_Part_H0 a0 a1 i2 ) (B := slices_Equal_api_Part_api_Part_B0 a0 a1) (R := slices_Equal_api_Part_api_Part_R) (M := a0.length) (fun _ => rfl) (fun _ => rfl) (fun s => slices_Equal_api_Part_api_Part_b0_e a0 a1 ) (fun i s o hi h => slices_Equal_api_Part_api_Part_b0_r a0 a1 i o hi h) _ 0 _ r (Nat.zero_add _) h)
noncomputable def slices_Equal_api_Part_api_Part (a0 : List Part) (a1 : List Part) : Option Bool :=
 cnd ((a0.length : Int) != (a1.length : Int)) (some false) (aft0 (forN (fun i2 s => slices_Equal_api_Part_api_Part_b0 a0 a1 i2 ) (a0.length) 0 ()) (
 some true)
 (fun r9 =>
 some r9))
theorem slices_Equal_api_Part_api_Part_ok (a0 : List Part) (a1 : List Part) (r : Bool) (h : slices_Equal_api_Part_api_Part a0 a1 = some r) : Spec PG 70 [lT 2 (List.map e_Part a0), lT 2 (List.map e_Part a1)] [] (bA r) [] := by
  unfold slices_Equal_api_Part_api_Part at h
  rcases cnd_e h with ⟨h1, h⟩ | ⟨h1, h⟩
  · have h := Option.some.inj h
    subst h
    exact Spec.path XTok PGmix slices_Equal_api_Part_api_Part_fn 0 [.r [], .r [.eq 7 (iA (a0.length : Int)), .eq 9 (iA (a1.length : Int))], .b true, .r []] (an (leni_eq e_Part a0) (an (leni_eq e_Part a1) h1)) (by kernel_rfl)
  · rcases aft0_e h with ⟨h8, h⟩ | ⟨r9, h8, h⟩
    · have h := Option.some.inj h
      subst h
      exact Spec.path XTok PGmix slices_Equal_api_Part_api_Part_fn 0 [.r [], .r [.eq 7 (iA (a0.length : Int)), .eq 9 (iA (a1.length : Int))], .b false, .r [.eq 12 (iA (a0.length : Int))], .s (slices_Equal_api_Part_api_Part_F0 a0 a1 0 ) (slices_Equal_api_Part_api_Part_H0 a0 a1 0 ) [] (slices_Equal_api_Part_api_Part_B0 a0 a1 ()), .r []] (an (leni_eq e_Part a0) (an (leni_eq e_Part a1) (an h1 (an (leni_eq e_Part a0) (slices_Equal_api_Part_api_Part_l0 a0 a1 (.fin ()) h8))))) (by kernel_rfl)
    · have h := Option.some.inj h
      subst h
      exact Spec.path XTok PGmix slices_Equal_api_Part_api_Part_fn 0 [.r [], .r [.eq 7 (iA (a0.length : Int)), .eq 9 (iA (a1.length : Int))], .b false, .r [.eq 12 (iA (a0.length : Int))], .s (slices_Equal_api_Part_api_Part_F0 a0 a1 0 ) (slices_Equal_api_Part_api_Part_H0 a0 a1 0 ) [] (slices_Equal_api_Part_api_Part_R r9)] (an (leni_eq e_Part a0) (an (leni_eq e_Part a1) (an h1 (an (leni_eq e_Part a0) (slices_Equal_api_Part_api_Part_l0 a0 a1 (.ret r9) h8))))) (by kernel_rfl)

noncomputable def slices_Equal_string_string_c : Code := (Go.Proofs.Tryd.f71.body).getD .skip
theorem slices_Equal_string_string_fn : FnOk PG 71 slices_Equal_string_string_c 26 [.tmp 4] := ⟨⟨Go.Proofs.Tryd.f71, by kernel_rfl, by kernel_rfl, by kernel_rfl, by kernel_rfl, by kernel_rfl⟩⟩
noncomputable def slices_Equal_string_string_c0 : Code := cL (cL (cR (cL (cR (cR slices_Equal_string_string_c)))))
noncomputable def slices_Equal_string_string_R (r : Bool) : Oc := .ret [(4, bA r)] []
noncomputable def slices_Equal_string_string_F0 (a0 : List ByteArray) (a1 : List ByteArray) (i2 : Nat) : Fr := [(0, lA 1 (List.map e_str a0)), (1, lA 1 (List.map e_str a1)), (11, lA 1 (List.map e_str a0)), (12, iA (a0.length : Int)), (13, iA (i2 : Int))]
noncomputable def slices_Equal_string_string_H0 (a0 : List ByteArray) (a1 : List ByteArray) (i2 : Nat) : Hp := []
noncomputable def slices_Equal_string_string_B0 (a0 : List ByteArray) (a1 : List ByteArray) (s : Unit) : Oc := .ex 0 [] []
noncomputable def slices_Equal_string_string_b0 (a0 : List ByteArray) (a1 : List ByteArray) (i2 : Nat) : Option (Stp Unit Bool) :=
 bnd (atI a0 (i2 : Int)) fun x3 =>
 bnd (atI a1 (i2 : Int)) fun x5 =>
 cnd (sNe x3 x5) (some (.ret false)) (some (.go ()))
theorem slices_Equal_string_string_b0_r (a0 : List ByteArray) (a1 : List ByteArray) (i2 : Nat) (o : Stp Unit Bool) (hi : i2 < a0.length) (h : slices_Equal_string_string_b0 a0 a1 i2 = some o) :
    Runs PG 26 0 slices_Equal_string_string_c0 (slices_Equal_string_string_F0 a0 a1 i2 ) (slices_Equal_string_string_H0 a0 a1 i2 ) (stpOc (fun s' => .nor (slices_Equal_string_string_F0 a0 a1 (i2 + 1) ) (slices_Equal_string_string_H0 a0 a1 (i2 + 1) )) (slices_Equal_string_string_B0 a0 a1) slices_Equal_string_string_R o) := by
  unfold slices_Equal_string_string_b0 at h
  refine Runs.len (s := 11) (sz := 1) (xs := List.map e_str a0) (by kernel_rfl) fun hl => ?_
  have hM : a0.length ≤ lim := len_of hl
  obtain ⟨x3, h4, h⟩ := bnd_e h
  obtain ⟨x5, h6, h⟩ := bnd_e h
  rcases cnd_e h with ⟨h7, h⟩ | ⟨h7, h⟩
  · have h := Option.some.inj h
    subst h
    exact Runs.path XTok PGmix [.r [], .b true, .r [], .d [([], []), ([], []), ([], [.el [sC x3]]), ([], []), ([], []), ([], []), ([], [.el [sC x5]]), ([], []), ([], [])], .b true, .r []] [] (an (lt_true hi) (an (idx_ok e_str h4) (an (idx_ok e_str h6) h7))) (by kernel_rfl)
  · have h := Option.some.inj h
    subst h
    exact Runs.path XTok PGmix [.r [], .b true, .r [], .d [([], []), ([], []), ([], [.el [sC x3]]), ([], []), ([], []), ([], []), ([], [.el [sC x5]]), ([], []), ([], [])], .b false, .r [.eq 25 (iA ((i2 + 1 : Nat) : Int))]] [] (an (lt_true hi) (an (idx_ok e_str h4) (an (idx_ok e_str h6) (an h7 (wrap_eq hi hM))))) (by kernel_rfl)
theorem slices_Equal_string_string_b0_e (a0 : List ByteArray) (a1 : List ByteArray) : Runs PG 26 0 slices_Equal_string_string_c0 (slices_Equal_string_string_F0 a0 a1 (a0.length) ) (slices_Equal_string_string_H0 a0 a1 (a0.length) ) (slices_Equal_string_string_B0 a0 a1 ()) := by
  exact Runs.path XTok PGmix [.r [], .b false] [] (lt_false (a0.length)) (by kernel_rfl)
theorem slices_Equal_string_string_l0 (a0 : List ByteArray) (a1 : List ByteArray) (r : Fin' Unit Bool) (h : forN (fun i2 s => slices_Equal_string_string_b0 a0 a1 i2 ) (a0.length) 0 () = some r) : Runs PG 26 0 (cL (cR (cL (cR (cR slices_Equal_string_string_c))))) (slices_Equal_string_string_F0 a0 a1 0 ) (slices_Equal_string_string_H0 a0 a1 0 ) (finOc (slices_Equal_string_string_B0 a0 a1) slices_Equal_string_string_R r) :=
  Runs.loop' (by kernel_rfl) (forN_rounds (σ := Unit) (ρ := Bool) (body := fun i2 s => slices_Equal_string_string_b0 a0 a1 i2 ) (F := fun i2 s => slices_Equal_string_string_F0 a0 a1 i2 ) (H := fun i2 s => slices_Equal_string_string_H0 a0 a1 i2 ) (B := slices_Equal_string_string_B0 a0 a1) (R := slices_Equal_string_string_R) (M := a0.length) (fun _ => rfl) (fun _ => rfl) (fun s => slices_Equal_string_string_b0_e a0 a1 ) (fun i s o hi h => slices_Equal_string_string_b0_r a0 a1 i o hi h) _ 0 _ r (Nat.zero_add _) h)
noncomputable def slices_Equal_string_string (a0 : List ByteArray) (a1 : List ByteArray) : Option Bool :=
 cnd ((a0.length : Int) != (a1.length : Int)) (some false) (aft0 (forN (fun i2 s => slices_Equal_string_string_b0 a0 a1 i2 ) (a0.length) 0 ()) (
 some true)
 (fun r9 =>
 some r9))
theorem slices_Equal_string_string_ok (a0 : List ByteArray) (a1 : List ByteArray) (r : Bool) (h : slices_Equal_string_string a0 a1 = some r) : Spec PG 71 [lT 1 (List.map e_str a0), lT 1 (List.map e_str a1)] [] (bA r) [] := by
  unfold slices_Equal_string_string at h
  rcases cnd_e h with ⟨h1, h⟩ | ⟨h1, h⟩
  · have h := Option.some.inj h
    subst h
    exact Spec.path XTok PGmix slices_Equal_string_string_fn 0 [.r [], .r [.eq 7 (iA (a0.length : Int)), .eq 9 (iA (a1.length : Int))], .b true, .r []] (an (leni_eq e_str a0) (an (leni_eq e_str a1) h1)) (by kernel_rfl)
  · rcases aft0_e h with ⟨h8, h⟩ | ⟨r9, h8, h⟩
    · have h := Option.some.inj h
      subst h
      exact Spec.path XTok PGmix slices_Equal_string_string_fn 0 [.r [], .r [.eq 7 (iA (a0.length : Int)), .eq 9 (iA (a1.length : Int))], .b false, .r [.eq 12 (iA (a0.length : Int))], .s (slices_Equal_string_string_F0 a0 a1 0 ) (slices_Equal_string_string_H0 a0 a1 0 ) [] (slices_Equal_string_string_B0 a0 a1 ()), .r []] (an (leni_eq e_str a0) (an (leni_eq e_str a1) (an h1 (an (leni_eq e_str a0) (slices_Equal_string_string_l0 a0 a1 (.fin ()) h8))))) (by kernel_rfl)
    · have h := Option.some.inj h
      subst h
      exact Spec.path XTok PGmix slices_Equal_string_string_fn 0 [.r [], .r [.eq 7 (iA (a0.length : Int)), .eq 9 (iA (a1.length : Int))], .b false, .r [.eq 12 (iA (a0.length : Int))], .s (slices_Equal_string_string_F0 a0 a1 0 ) (slices_Equal_string_string_H0 a0 a1 0 ) [] (slices_Equal_string_string_R r9)] (an (leni_eq e_str a0) (an (leni_eq e_str a1) (an h1 (an (leni_eq e_str a0) (slices_Equal_string_string_l0 a0 a1 (.ret r9) h8))))) (by kernel_rfl)

noncomputable def ref_Same_c : Code := (Go.Proofs.Tryd.f26.body).getD .skip
theorem ref_Same_fn : FnOk PG 26 ref_Same_c 64 [.tmp 4] := ⟨⟨Go.Proofs.Tryd.f26, by kernel_rfl, by kernel_rfl, by kernel_rfl, by kernel_rfl, by kernel_rfl⟩⟩
noncomputable def ref_Same_c0 : Code := cL (cL (cR (cL (cR (cR ref_Same_c)))))
noncomputable def ref_Same_R (r : Bool) : Oc := .ret [(4, bA r)] []
noncomputable def ref_Same_F0 (a0 : Netlist) (a1 : Netlist) (i9 : Nat) : Fr := [(3, .t (.v (.ptr 1 0))), (23, lA 3 (List.map e_Net a0.Nets)), (24, iA (a0.Nets.length : Int)), (25, iA (i9 : Int))]
noncomputable def ref_Same_H0 (a0 : Netlist) (a1 : Netlist) (i9 : Nat) : Hp := [(1, .cells 26 [.c (.sl 2 (List.map e_Part a1.Parts)), .c (.sl 3 (List.map e_Net a1.Nets))])]
noncomputable def ref_Same_B0 (a0 : Netlist) (a1 : Netlist) (s : Unit) : Oc := .ex 0 [] []
noncomputable def ref_Same_b0 (a0 : Netlist) (a1 : Netlist) (i9 : Nat) : Option (Stp Unit Bool) :=
 bnd (atI a0.Nets (i9 : Int)) fun x10 =>
 bnd1 (bnd (atI a1.Nets (i9 : Int)) fun x15 =>
 cnd (sNe x10.Name x15.Name) (some true) (bnd (atI a1.Nets (i9 : Int)) fun x18 =>
 bnd (slices_Equal_api_Pin_api_Pin x10.Pins x18.Pins) fun r20 =>
 cnd (!r20) (some true) (bnd (atI a1.Nets (i9 : Int)) fun x23 =>
 bnd (slices_Equal_string_string x10.Ports x23.Ports) fun r25 =>
 some (!r25)))) fun v12 =>
 cnd v12 (some (.ret false)) (some (.go ()))
theorem ref_Same_b0_r (a0 : Netlist) (a1 : Netlist) (i9 : Nat) (o : Stp Unit Bool) (hi : i9 < a0.Nets.length) (h : ref_Same_b0 a0 a1 i9 = some o) :
    Runs PG 64 0 ref_Same_c0 (ref_Same_F0 a0 a1 i9 ) (ref_Same_H0 a0 a1 i9 ) (stpOc (fun s' => .nor (ref_Same_F0 a0 a1 (i9 + 1) ) (ref_Same_H0 a0 a1 (i9 + 1) )) (ref_Same_B0 a0 a1) ref_Same_R o) := by
  unfold ref_Same_b0 at h
  refine Runs.len (s := 23) (sz := 3) (xs := List.map e_Net a0.Nets) (by kernel_rfl) fun hl => ?_
  have hM : a0.Nets.length ≤ lim := len_of hl
  obtain ⟨x10, h11, h⟩ := bnd_e h
  obtain ⟨v12, h13, h⟩ := bnd1_e h
  let q27_f : Fr := [(3, .t (.v (.ptr 1 0))), (5, iA (i9 : Int)), (6, .t (.v (.ptr 2 0))), (23, lA 3 (List.map e_Net a0.Nets)), (24, iA (a0.Nets.length : Int)), (25, iA (i9 : Int))]
  let q27_g : Hp := [(1, .cells 26 [.c (.sl 2 (List.map e_Part a1.Parts)), .c (.sl 3 (List.map e_Net a1.Nets))]), (2, .cells 64 [.c (sC x10.Name), .c (.sl 2 (List.map e_Pin x10.Pins)), .c (.sl 1 (List.map e_str x10.Ports))])]
  let q27_f' : Fr := [(3, .t (.v (.ptr 1 0))), (23, lA 3 (List.map e_Net a0.Nets)), (24, iA (a0.Nets.length : Int)), (25, iA (i9 : Int)), (62, bA v12)]
  let q27_g' : Hp := [(1, .cells 26 [.c (.sl 2 (List.map e_Part a1.Parts)), .c (.sl 3 (List.map e_Net a1.Nets))])]
  have R14 : Runs PG 64 0 (cL (cR (cL (cL (cR (cR ref_Same_c0)))))) q27_f q27_g (.nor q27_f' q27_g') := by
    obtain ⟨x15, h16, h13⟩ := bnd_e h13
    rcases cnd_e h13 with ⟨h17, h13⟩ | ⟨h17, h13⟩
    · have h13 := Option.some.inj h13
      subst h13
      exact Runs.path XTok PGmix [.d [([], []), ([2], []), ([], []), ([1], []), ([], []), ([], [.el (e_Net x15)]), ([], []), ([], []), ([], []), ([], []), ([], [.b true]), ([], [.b true]), ([], [.b true]), ([], [.b true]), ([], [.b true]), ([], [.b true]), ([], [.b true]), ([], [.b true]), ([], [.b true]), ([], [.b true]), ([], [.b true]), ([], []), ([], [.b true]), ([], [.b true]), ([], [.b true]), ([], [.b true]), ([], [.b true]), ([], [.b true]), ([], [.b true]), ([], [.b true]), ([], [.b true]), ([], [.b true]), ([], [.b true])]] [] (an (idx_ok e_Net h16) (an h17 (an h17 (an h17 (an h17 (an h17 (an h17 (an h17 (an h17 (an h17 (an h17 (an h17 (an (Eq.refl true) (an (Eq.refl true) (an (Eq.refl true) (an (Eq.refl true) (an (Eq.refl true) (an (Eq.refl true) (an (Eq.refl true) (an (Eq.refl true) (an (Eq.refl true) (an (Eq.refl true) (Eq.refl true))))))))))))))))))))))) (by kernel_rfl)
    · obtain ⟨x18, h19, h13⟩ := bnd_e h13
      obtain ⟨r20, h21, h13⟩ := bnd_e h13
      rcases cnd_e h13 with ⟨h22, h13⟩ | ⟨h22, h13⟩
      · have h13 := Option.some.inj h13
        subst h13
        exact Runs.path XTok PGmix [.d [([], []), ([2], []), ([], []), ([1], []), ([], []), ([], [.el (e_Net x15)]), ([], []), ([], []), ([], []), ([], []), ([], [.b false]), ([2], [.b false]), ([], [.b false]), ([1], [.b false]), ([], [.b false]), ([], [.b false, .el (e_Net x18)]), ([], [.b false]), ([], [.b false]), ([], [.b false, .val (bA r20)]), ([], [.b false]), ([], [.b false]), ([], []), ([], [.b true]), ([], [.b true]), ([], [.b true]), ([], [.b true]), ([], [.b true]), ([], [.b true]), ([], [.b true]), ([], [.b true]), ([], [.b true]), ([], [.b true]), ([], [.b true])]] [] (an (idx_ok e_Net h16) (an h17 (an h17 (an h17 (an h17 (an h17 (an h17 (an (idx_ok e_Net h19) (an h17 (an h17 (an h17 (an (slices_Equal_api_Pin_api_Pin_ok x10.Pins x18.Pins r20 h21) (an h17 (an h17 (an h22 (an h22 (an h22 (an h22 (an h22 (an h22 (an h22 (an h22 (an h22 (an h22 h22)))))))))))))))))))))))) (by kernel_rfl)
      · obtain ⟨x23, h24, h13⟩ := bnd_e h13
        obtain ⟨r25, h26, h13⟩ := bnd_e h13
        have h13 := Option.some.inj h13
        subst h13
        exact Runs.path XTok PGmix [.d [([], []), ([2], []), ([], []), ([1], []), ([], []), ([], [.el (e_Net x15)]), ([], []), ([], []), ([], []), ([], []), ([], [.b false]), ([2], [.b false]), ([], [.b false]), ([1], [.b false]), ([], [.b false]), ([], [.b false, .el (e_Net x18)]), ([], [.b false]), ([], [.b false]), ([], [.b false, .val (bA r20)]), ([], [.b false]), ([], [.b false]), ([], []), ([], [.b false]), ([2], [.b false]), ([], [.b false]), ([1], [.b false]), ([], [.b false]), ([], [.b false, .el (e_Net x23)]), ([], [.b false]), ([], [.b false]), ([], [.b false, .val (bA r25)]), ([], [.b false]), ([], [.b false])]] [] (an (idx_ok e_Net h16) (an h17 (an h17 (an h17 (an h17 (an h17 (an h17 (an (idx_ok e_Net h19) (an h17 (an h17 (an h17 (an (slices_Equal_api_Pin_api_Pin_ok x10.Pins x18.Pins r20 h21) (an h17 (an h17 (an h22 (an h22 (an h22 (an h22 (an h22 (an h22 (an (idx_ok e_Net h24) (an h22 (an h22 (an h22 (an (slices_Equal_string_string_ok x10.Ports x23.Ports r25 h26) (an h22 h22)))))))))))))))))))))))))) (by kernel_rfl)
  rcases cnd_e h with ⟨h28, h⟩ | ⟨h28, h⟩
  · have h := Option.some.inj h
    subst h
    exact Runs.path XTok PGmix [.r [], .b true, .r [.el (e_Net x10), .id 2], .s q27_f q27_g [] (.nor q27_f' q27_g'), .b true, .r []] [] (an (lt_true hi) (an (idx_ok e_Net h11) (an R14 h28))) (by kernel_rfl)
  · have h := Option.some.inj h
    subst h
    exact Runs.path XTok PGmix [.r [], .b true, .r [.el (e_Net x10), .id 2], .s q27_f q27_g [] (.nor q27_f' q27_g'), .b false, .r [.eq 63 (iA ((i9 + 1 : Nat) : Int))]] [] (an (lt_true hi) (an (idx_ok e_Net h11) (an R14 (an h28 (wrap_eq hi hM))))) (by kernel_rfl)
theorem ref_Same_b0_e (a0 : Netlist) (a1 : Netlist) : Runs PG 64 0 ref_Same_c0 (ref_Same_F0 a0 a1 (a0.Nets.length) ) (ref_Same_H0 a0 a1 (a0.Nets.length) ) (ref_Same_B0 a0 a1 ()) := by
  exact Runs.path XTok PGmix [.r [], .b false] [] (lt_false (a0.Nets.length)) (by kernel_rfl)
theorem ref_Same_l0 (a0 : Netlist) (a1 : Netlist) (r : Fin' Unit Bool) (h : forN (fun i9 s => ref_Same_b0 a0 a1 i9 ) (a0.Nets.length) 0 () = some r) : Runs PG 64 0 (cL (cR (cL (cR (cR ref_Same_c))))) (ref_Same_F0 a0 a1 0 ) (ref_Same_H0 a0 a1 0 ) (finOc (ref_Same_B0 a0 a1) ref_Same_R r) :=
  Runs.loop' (by kernel_rfl) (forN_rounds (σ := Unit) (ρ := Bool) (body := fun i9 s => ref_Same_b0 a0 a1 i9 ) (F := fun i9 s => ref_Same_F0 a0 a1 i9 ) (H := fun i9 s => ref_Same_H0 a0 a1 i9 ) (B := ref_Same_B0 a0 a1) (R := ref_Same_R) (M := a0.Nets.length) (fun _ => rfl) (fun _ => rfl) (fun s => ref_Same_b0_e a0 a1 ) (fun i s o hi h => ref_Same_b0_r a0 a1 i o hi h) _ 0 _ r (Nat.zero_add _) h)
noncomputable def ref_Same (a0 : Netlist) (a1 : Netlist) : Option Bool :=
 bnd1 (bnd (slices_Equal_api_Part_api_Part a0.Parts a1.Parts) fun r4 =>
 cnd (!r4) (some true) (some ((a0.Nets.length : Int) != (a1.Nets.length : Int)))) fun v1 =>
 cnd v1 (some false) (aft0 (forN (fun i9 s => ref_Same_b0 a0 a1 i9 ) (a0.Nets.length) 0 ()) (
 some true)
 (fun r30 =>
 some r30))
theorem ref_Same_ok (a0 : Netlist) (a1 : Netlist) (r : Bool) (h : ref_Same a0 a1 = some r) : Spec PG 26 [gT (e_Netlist a0), gT (e_Netlist a1)] [] (bA r) [] := by
  unfold ref_Same at h
  obtain ⟨v1, h2, h⟩ := bnd1_e h
  let q7_f : Fr := [(2, .t (.v (.ptr 0 0))), (3, .t (.v (.ptr 1 0)))]
  let q7_g : Hp := [(0, .cells 26 [.c (.sl 2 (List.map e_Part a0.Parts)), .c (.sl 3 (List.map e_Net a0.Nets))]), (1, .cells 26 [.c (.sl 2 (List.map e_Part a1.Parts)), .c (.sl 3 (List.map e_Net a1.Nets))])]
  let q7_f' : Fr := [(2, .t (.v (.ptr 0 0))), (3, .t (.v (.ptr 1 0))), (21, bA v1)]
  let q7_g' : Hp := [(0, .cells 26 [.c (.sl 2 (List.map e_Part a0.Parts)), .c (.sl 3 (List.map e_Net a0.Nets))]), (1, .cells 26 [.c (.sl 2 (List.map e_Part a1.Parts)), .c (.sl 3 (List.map e_Net a1.Nets))])]
  have R3 : Runs PG 64 0 (cL (cL (cR ref_Same_c))) q7_f q7_g (.nor q7_f' q7_g') := by
    obtain ⟨r4, h5, h2⟩ := bnd_e h2
    rcases cnd_e h2 with ⟨h6, h2⟩ | ⟨h6, h2⟩
    · have h2 := Option.some.inj h2
      subst h2
      exact Runs.path XTok PGmix [.r [.val (bA r4), .b true, .b true, .b true, .b true, .b true, .b true, .b true, .b true]] [] (an (slices_Equal_api_Part_api_Part_ok a0.Parts a1.Parts r4 h5) (an h6 (an h6 (an h6 (an h6 (an h6 (an h6 (an h6 h6)))))))) (by kernel_rfl)
    · have h2 := Option.some.inj h2
      subst h2
      exact Runs.path XTok PGmix [.r [.val (bA r4), .b false, .b false, .b false, .eq 16 (iA (a0.Nets.length : Int)), .b false, .b false, .b false, .eq 19 (iA (a1.Nets.length : Int)), .b false, .b false]] [] (an (slices_Equal_api_Part_api_Part_ok a0.Parts a1.Parts r4 h5) (an h6 (an h6 (an h6 (an (leni_eq e_Net a0.Nets) (an h6 (an h6 (an h6 (an (leni_eq e_Net a1.Nets) (an h6 h6)))))))))) (by kernel_rfl)
  rcases cnd_e h with ⟨h8, h⟩ | ⟨h8, h⟩
  · have h := Option.some.inj h
    subst h
    exact Spec.path XTok PGmix ref_Same_fn 0 [.r [.id 0, .id 1], .s q7_f q7_g [] (.nor q7_f' q7_g'), .b true, .r []] (an R3 h8) (by kernel_rfl)
  · rcases aft0_e h with ⟨h29, h⟩ | ⟨r30, h29, h⟩
    · have h := Option.some.inj h
      subst h
      exact Spec.path XTok PGmix ref_Same_fn 0 [.r [.id 0, .id 1], .s q7_f q7_g [] (.nor q7_f' q7_g'), .b false, .r [.eq 24 (iA (a0.Nets.length : Int))], .s (ref_Same_F0 a0 a1 0 ) (ref_Same_H0 a0 a1 0 ) [] (ref_Same_B0 a0 a1 ()), .r []] (an R3 (an h8 (an (leni_eq e_Net a0.Nets) (ref_Same_l0 a0 a1 (.fin ()) h29)))) (by kernel_rfl)
    · have h := Option.some.inj h
      subst h
      exact Spec.path XTok PGmix ref_Same_fn 0 [.r [.id 0, .id 1], .s q7_f q7_g [] (.nor q7_f' q7_g'), .b false, .r [.eq 24 (iA (a0.Nets.length : Int))], .s (ref_Same_F0 a0 a1 0 ) (ref_Same_H0 a0 a1 0 ) [] (ref_Same_R r30)] (an R3 (an h8 (an (leni_eq e_Net a0.Nets) (ref_Same_l0 a0 a1 (.ret r30) h29)))) (by kernel_rfl)

noncomputable def law_NetlistReadsMatchSpec_c : Code := (Go.Proofs.Tryd.f5.body).getD .skip
theorem law_NetlistReadsMatchSpec_fn : FnOk PG 5 law_NetlistReadsMatchSpec_c 37 [.tmp 2] := ⟨⟨Go.Proofs.Tryd.f5, by kernel_rfl, by kernel_rfl, by kernel_rfl, by kernel_rfl, by kernel_rfl⟩⟩
noncomputable def law_NetlistReadsMatchSpec (a0 : ByteArray) : Option Bool :=
 bnd (nl_Read a0) fun r1 =>
 bnd (ref_Read a0) fun r3 =>
 bnd1 (cnd (r1.2.2 == r3.2.2) (cnd (r1.2.1 == r3.2.1) (bnd (ref_Same r1.1 r3.1) fun r10 =>
 cnd r10 (bnd (law_awake ) fun r13 =>
 some r13) (some false)) (some false)) (some false)) fun v5 =>
 some v5
theorem law_NetlistReadsMatchSpec_ok (a0 : ByteArray) (r : Bool) (h : law_NetlistReadsMatchSpec a0 = some r) : Spec PG 5 [sT a0] [] (bA r) [] := by
  unfold law_NetlistReadsMatchSpec at h
  obtain ⟨r1, h2, h⟩ := bnd_e h
  obtain ⟨r3, h4, h⟩ := bnd_e h
  obtain ⟨v5, h6, h⟩ := bnd1_e h
  let q15_f : Fr := [(3, .t (.v (.ptr 0 0))), (4, iA r1.2.1), (5, iA r1.2.2), (6, .t (.v (.ptr 1 0))), (7, iA r3.2.1), (8, iA r3.2.2)]
  let q15_g : Hp := [(0, .cells 26 [.c (.sl 2 (List.map e_Part r1.1.Parts)), .c (.sl 3 (List.map e_Net r1.1.Nets))]), (1, .cells 26 [.c (.sl 2 (List.map e_Part r3.1.Parts)), .c (.sl 3 (List.map e_Net r3.1.Nets))])]
  let q15_f' : Fr := [(2, bA v5)]
  let q15_g' : Hp := []
  have R7 : Runs PG 37 0 (cL (cR (cR (cR law_NetlistReadsMatchSpec_c)))) q15_f q15_g (.nor q15_f' q15_g') := by
    rcases cnd_e h6 with ⟨h8, h6⟩ | ⟨h8, h6⟩
    · rcases cnd_e h6 with ⟨h9, h6⟩ | ⟨h9, h6⟩
      · obtain ⟨r10, h11, h6⟩ := bnd_e h6
        rcases cnd_e h6 with ⟨h12, h6⟩ | ⟨h12, h6⟩
        · obtain ⟨r13, h14, h6⟩ := bnd_e h6
          have h6 := Option.some.inj h6
          subst h6
          exact Runs.path XTok PGmix [.r [.b true, .b true, .b true, .b true, .b true, .b true, .b true, .val (bA r10), .b true, .b true, .val (bA r13), .b true]] [] (an h8 (an h8 (an h8 (an h8 (an h9 (an h9 (an h9 (an (ref_Same_ok r1.1 r3.1 r10 h11) (an h9 (an h12 (an (law_awake_ok r13 h14) h12))))))))))) (by kernel_rfl)
        · have h6 := Option.some.inj h6
          subst h6
          exact Runs.path XTok PGmix [.r [.b true, .b true, .b true, .b true, .b true, .b true, .b true, .val (bA r10), .b true, .b false, .b false]] [] (an h8 (an h8 (an h8 (an h8 (an h9 (an h9 (an h9 (an (ref_Same_ok r1.1 r3.1 r10 h11) (an h9 (an h12 h12)))))))))) (by kernel_rfl)
      · have h6 := Option.some.inj h6
        subst h6
        exact Runs.path XTok PGmix [.r [.b true, .b true, .b true, .b true, .b false, .b false, .b false, .b false, .b false, .b false]] [] (an h8 (an h8 (an h8 (an h8 (an h9 (an h9 (an h9 (an h9 (an (Eq.refl false) (Eq.refl false)))))))))) (by kernel_rfl)
    · have h6 := Option.some.inj h6
      subst h6
      exact Runs.path XTok PGmix [.r [.b false, .b false, .b false, .b false, .b false, .b false, .b false, .b false, .b false, .b false]] [] (an h8 (an h8 (an h8 (an h8 (an (Eq.refl false) (an (Eq.refl false) (an (Eq.refl false) (an (Eq.refl false) (an (Eq.refl false) (Eq.refl false)))))))))) (by kernel_rfl)
  have h := Option.some.inj h
  subst h
  exact Spec.path XTok PGmix law_NetlistReadsMatchSpec_fn 0 [.r [], .r [.val (.tup [gT (e_Netlist r1.1), iT r1.2.1, iT r1.2.2]), .id 0], .r [.val (.tup [gT (e_Netlist r3.1), iT r3.2.1, iT r3.2.2]), .id 1], .s q15_f q15_g [] (.nor q15_f' q15_g')] (an (nl_Read_ok a0 r1 h2) (an (ref_Read_ok a0 r3 h4) R7)) (by kernel_rfl)
end Go.Proofs.YtlbndchfmdogeaaDoor.Sym
