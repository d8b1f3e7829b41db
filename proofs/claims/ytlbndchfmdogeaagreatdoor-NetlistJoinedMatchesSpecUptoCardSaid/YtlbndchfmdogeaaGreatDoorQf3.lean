/- Printed by gen2.py: the plain forms of functions, and that calling them gives what these give. Conditions: none. -/
import Derived.Test.YtlbndchfmdogeaaGreatDoorQf2
set_option linter.unusedVariables false
set_option maxHeartbeats 4000000
namespace Go.Proofs.YtlbndchfmdogeaaGreatDoor.Sym
open Go Go.RowKit
noncomputable def ref_Joined_c : Code := (Go.Proofs.Tryz.f9.body).getD .skip
theorem ref_Joined_fn : FnOk PG 9 ref_Joined_c 119 [.cell 8 26, .tmp 9] := ⟨⟨Go.Proofs.Tryz.f9, by kernel_rfl, by kernel_rfl, by kernel_rfl, by kernel_rfl, by kernel_rfl⟩⟩
noncomputable def ref_Joined_c0 : Code := cL (cL (cR (cL (cR (cR (cR (cR (cR ref_Joined_c))))))))
noncomputable def ref_Joined_R (r : Netlist × Int) : Oc := .ret [(8, .t (.v (.ptr 0 0))), (9, iA r.2)] [(0, .cells 26 [.c (.sl 2 (List.map e_Part r.1.Parts)), .c (.sl 3 (List.map e_Net r.1.Nets))])]
noncomputable def ref_Joined_F0 (a1 : Netlist) (r4 : Int) (r6 : Int) (r20 : List Part) (i22 : Nat) (y23 : List Net) : Fr := [(5, .t (.v (.ptr 0 0))), (8, .t (.v (.ptr 1 0))), (11, iA r4), (12, iA r6), (13, .t (.v (.ptr 2 0))), (65, lA 3 (List.map e_Net a1.Nets)), (66, iA (a1.Nets.length : Int)), (67, iA (i22 : Int))]
noncomputable def ref_Joined_H0 (a1 : Netlist) (r4 : Int) (r6 : Int) (r20 : List Part) (i22 : Nat) (y23 : List Net) : Hp := [(0, .cells 26 [.c (.sl 2 (List.map e_Part a1.Parts)), .c (.sl 3 (List.map e_Net a1.Nets))]), (1, .cells 26 [.c (.nil), .c (.nil)]), (2, .cells 26 [.c (.sl 2 (List.map e_Part r20)), .rt 3]), (3, .row 53 3 (List.map e_Net y23))]
noncomputable def ref_Joined_B0 (a1 : Netlist) (r4 : Int) (r6 : Int) (r20 : List Part) (s : List Net) : Oc := .ex 1 [(8, .t (.v (.ptr 1 0))), (13, .t (.v (.ptr 2 0)))] [(1, .cells 26 [.c (.nil), .c (.nil)]), (2, .cells 26 [.c (.sl 2 (List.map e_Part r20)), .rt 3]), (3, .row 53 3 (List.map e_Net s))]
noncomputable def ref_Joined_b0 (a1 : Netlist) (r4 : Int) (r6 : Int) (r20 : List Part) (i22 : Nat) (y23 : List Net) : Option (Stp (List Net) (Netlist × Int)) :=
 bnd (atI a1.Nets (i22 : Int)) fun x24 =>
 bnd1 (cnd ((i22 : Int) == (mx r4 r6)) (some y23) (bnd1 (cnd ((i22 : Int) == (mn r4 r6)) (bnd (atI a1.Nets r4) fun x34 =>
 bnd (atI a1.Nets r6) fun x36 =>
 bnd (slices_Concat_api_Pin_api_Pin [x34.Pins, x36.Pins]) fun r38 =>
 bnd (ref_sortedPins r38) fun r40 =>
 grd (y23.length + ([(⟨x24.Name, r40, []⟩ : Net)]).length ≤ lim) <|
 some (y23 ++ ([(⟨x24.Name, r40, []⟩ : Net)]))) (bnd (slices_Clone_api_Pin_api_Pin x24.Pins) fun r43 =>
 grd (y23.length + ([(⟨x24.Name, r43, []⟩ : Net)]).length ≤ lim) <|
 some (y23 ++ ([(⟨x24.Name, r43, []⟩ : Net)])))) fun v30 =>
 some v30)) fun v26 =>
 some (.go v26)
theorem ref_Joined_b0_r (a1 : Netlist) (r4 : Int) (r6 : Int) (r20 : List Part) (i22 : Nat) (y23 : List Net) (o : Stp (List Net) (Netlist × Int)) (hi : i22 < a1.Nets.length) (h : ref_Joined_b0 a1 r4 r6 r20 i22 y23 = some o) :
    Runs PG 119 0 ref_Joined_c0 (ref_Joined_F0 a1 r4 r6 r20 i22 y23) (ref_Joined_H0 a1 r4 r6 r20 i22 y23) (stpOc (fun s' => .nor (ref_Joined_F0 a1 r4 r6 r20 (i22 + 1) s') (ref_Joined_H0 a1 r4 r6 r20 (i22 + 1) s')) (ref_Joined_B0 a1 r4 r6 r20) ref_Joined_R o) := by
  unfold ref_Joined_b0 at h
  refine Runs.len (s := 65) (sz := 3) (xs := List.map e_Net a1.Nets) (by kernel_rfl) fun hl => ?_
  have hM : a1.Nets.length ≤ lim := len_of hl
  obtain ⟨x24, h25, h⟩ := bnd_e h
  obtain ⟨v26, h27, h⟩ := bnd1_e h
  let q47_f : Fr := [(5, .t (.v (.ptr 0 0))), (8, .t (.v (.ptr 1 0))), (11, iA r4), (12, iA r6), (13, .t (.v (.ptr 2 0))), (15, .t (.v (.ptr 4 0))), (65, lA 3 (List.map e_Net a1.Nets)), (66, iA (a1.Nets.length : Int)), (67, iA (i22 : Int)), (72, iA (i22 : Int)), (84, bA ((i22 : Int) == (mx r4 r6)))]
  let q47_g : Hp := [(0, .cells 26 [.c (.sl 2 (List.map e_Part a1.Parts)), .c (.sl 3 (List.map e_Net a1.Nets))]), (1, .cells 26 [.c (.nil), .c (.nil)]), (2, .cells 26 [.c (.sl 2 (List.map e_Part r20)), .rt 3]), (3, .row 53 3 (List.map e_Net y23)), (4, .cells 53 [.c (sC x24.Name), .c (.sl 2 (List.map e_Pin x24.Pins)), .c (.sl 1 (List.map e_str x24.Ports))])]
  let q47_f' : Fr := [(5, .t (.v (.ptr 0 0))), (8, .t (.v (.ptr 1 0))), (11, iA r4), (12, iA r6), (13, .t (.v (.ptr 2 0))), (65, lA 3 (List.map e_Net a1.Nets)), (66, iA (a1.Nets.length : Int)), (67, iA (i22 : Int))]
  let q47_g' : Hp := [(0, .cells 26 [.c (.sl 2 (List.map e_Part a1.Parts)), .c (.sl 3 (List.map e_Net a1.Nets))]), (1, .cells 26 [.c (.nil), .c (.nil)]), (2, .cells 26 [.c (.sl 2 (List.map e_Part r20)), .rt 3]), (3, .row 53 3 (List.map e_Net v26))]
  have R28 : Runs PG 119 0 (cR (cL (cR (cR (cL (cL (cR (cR ref_Joined_c0)))))))) q47_f q47_g (.nor q47_f' q47_g') := by
    rcases cnd_e h27 with ⟨h29, h27⟩ | ⟨h29, h27⟩
    · have h27 := Option.some.inj h27
      subst h27
      exact Runs.path XTok PGmix [.b true] [] h29 (by kernel_rfl)
    · obtain ⟨v30, h31, h27⟩ := bnd1_e h27
      let q46_f : Fr := [(5, .t (.v (.ptr 0 0))), (8, .t (.v (.ptr 1 0))), (11, iA r4), (12, iA r6), (13, .t (.v (.ptr 2 0))), (15, .t (.v (.ptr 4 0))), (65, lA 3 (List.map e_Net a1.Nets)), (66, iA (a1.Nets.length : Int)), (67, iA (i22 : Int)), (89, bA ((i22 : Int) == (mn r4 r6)))]
      let q46_g : Hp := [(0, .cells 26 [.c (.sl 2 (List.map e_Part a1.Parts)), .c (.sl 3 (List.map e_Net a1.Nets))]), (1, .cells 26 [.c (.nil), .c (.nil)]), (2, .cells 26 [.c (.sl 2 (List.map e_Part r20)), .rt 3]), (3, .row 53 3 (List.map e_Net y23)), (4, .cells 53 [.c (sC x24.Name), .c (.sl 2 (List.map e_Pin x24.Pins)), .c (.sl 1 (List.map e_str x24.Ports))])]
      let q46_f' : Fr := [(5, .t (.v (.ptr 0 0))), (8, .t (.v (.ptr 1 0))), (11, iA r4), (12, iA r6), (13, .t (.v (.ptr 2 0))), (65, lA 3 (List.map e_Net a1.Nets)), (66, iA (a1.Nets.length : Int)), (67, iA (i22 : Int))]
      let q46_g' : Hp := [(0, .cells 26 [.c (.sl 2 (List.map e_Part a1.Parts)), .c (.sl 3 (List.map e_Net a1.Nets))]), (1, .cells 26 [.c (.nil), .c (.nil)]), (2, .cells 26 [.c (.sl 2 (List.map e_Part r20)), .rt 6]), (6, .row 53 3 (List.map e_Net v30))]
      have R32 : Runs PG 119 0 (cR (cR (cR (cL (cR (cR (cL (cL (cR (cR ref_Joined_c0)))))))))) q46_f q46_g (.nor q46_f' q46_g') := by
        rcases cnd_e h31 with ⟨h33, h31⟩ | ⟨h33, h31⟩
        · obtain ⟨x34, h35, h31⟩ := bnd_e h31
          obtain ⟨x36, h37, h31⟩ := bnd_e h31
          obtain ⟨r38, h39, h31⟩ := bnd_e h31
          obtain ⟨r40, h41, h31⟩ := bnd_e h31
          obtain ⟨h42, h31⟩ := grd_e h31
          have h31 := Option.some.inj h31
          subst h31
          exact Runs.path XTok PGmix [.b true, .d [([], []), ([2], []), ([], []), ([4], []), ([], []), ([0], []), ([], []), ([], [.el (e_Net x34)]), ([], []), ([], []), ([], []), ([0], []), ([], []), ([], [.el (e_Net x36)]), ([], []), ([], []), ([], [.row (List.map e_sl_Pin [x34.Pins, x36.Pins])]), ([], [.val (lA 2 (List.map e_Pin r38))]), ([], [.val (lA 2 (List.map e_Pin r40))]), ([], []), ([], [.id 5, .row (List.map e_Net [(⟨x24.Name, r40, []⟩ : Net)])]), ([3, 5], [.id 6, .row (List.map e_Net (y23 ++ ([(⟨x24.Name, r40, []⟩ : Net)])))]), ([], []), ([2], [])]] [] (an h33 (an (idx_ok e_Net h35) (an (idx_ok e_Net h37) (an (Eq.refl (List.flatten (List.map e_sl_Pin [x34.Pins, x36.Pins]))) (an (Spec.data (slices_Concat_api_Pin_api_Pin_ok [x34.Pins, x36.Pins] r38 h39)) (an (ref_sortedPins_ok r38 r40 h41) (an (Eq.refl (List.flatten (List.map e_Net [(⟨x24.Name, r40, []⟩ : Net)]))) (app_ok e_Net h42)))))))) (by kernel_rfl)
        · obtain ⟨r43, h44, h31⟩ := bnd_e h31
          obtain ⟨h45, h31⟩ := grd_e h31
          have h31 := Option.some.inj h31
          subst h31
          exact Runs.path XTok PGmix [.b false, .d [([], []), ([2], []), ([], []), ([4], []), ([], []), ([4], []), ([], [.val (lA 2 (List.map e_Pin r43))]), ([], []), ([], [.id 5, .row (List.map e_Net [(⟨x24.Name, r43, []⟩ : Net)])]), ([3, 5], [.id 6, .row (List.map e_Net (y23 ++ ([(⟨x24.Name, r43, []⟩ : Net)])))]), ([], []), ([2], [])]] [] (an h33 (an (slices_Clone_api_Pin_api_Pin_ok x24.Pins r43 h44) (an (Eq.refl (List.flatten (List.map e_Net [(⟨x24.Name, r43, []⟩ : Net)]))) (app_ok e_Net h45)))) (by kernel_rfl)
      have h27 := Option.some.inj h27
      subst h27
      exact Runs.path XTok PGmix [.b false, .r [], .s q46_f q46_g [] (.nor q46_f' q46_g')] [(3, 6)] (an h29 R32) (by kernel_rfl)
  have h := Option.some.inj h
  subst h
  exact Runs.path XTok PGmix [.r [], .b true, .r [.el (e_Net x24), .id 4], .r [], .r [], .s q47_f q47_g [] (.nor q47_f' q47_g'), .r [.eq 117 (iA ((i22 + 1 : Nat) : Int))]] [] (an (lt_true hi) (an (idx_ok e_Net h25) (an R28 (wrap_eq hi hM)))) (by kernel_rfl)
theorem ref_Joined_b0_e (a1 : Netlist) (r4 : Int) (r6 : Int) (r20 : List Part) (y23 : List Net) : Runs PG 119 0 ref_Joined_c0 (ref_Joined_F0 a1 r4 r6 r20 (a1.Nets.length) y23) (ref_Joined_H0 a1 r4 r6 r20 (a1.Nets.length) y23) (ref_Joined_B0 a1 r4 r6 r20 y23) := by
  exact Runs.path XTok PGmix [.r [], .b false] [] (lt_false (a1.Nets.length)) (by kernel_rfl)
theorem ref_Joined_l0 (a1 : Netlist) (r4 : Int) (r6 : Int) (r20 : List Part) (y23 : List Net) (r : Fin' (List Net) (Netlist × Int)) (h : forN (fun i22 s => ref_Joined_b0 a1 r4 r6 r20 i22 s) (a1.Nets.length) 0 y23 = some r) : Runs PG 119 0 (cL (cR (cL (cR (cR (cR (cR (cR ref_Joined_c)))))))) (ref_Joined_F0 a1 r4 r6 r20 0 y23) (ref_Joined_H0 a1 r4 r6 r20 0 y23) (finOc (ref_Joined_B0 a1 r4 r6 r20) ref_Joined_R r) :=
  Runs.loop' (by kernel_rfl) (forN_rounds (σ := (List Net)) (ρ := (Netlist × Int)) (body := fun i22 s => ref_Joined_b0 a1 r4 r6 r20 i22 s) (F := fun i22 s => ref_Joined_F0 a1 r4 r6 r20 i22 s) (H := fun i22 s => ref_Joined_H0 a1 r4 r6 r20 i22 s) (B := ref_Joined_B0 a1 r4 r6 r20) (R := ref_Joined_R) (M := a1.Nets.length) (fun _ => rfl) (fun _ => rfl) (fun s => ref_Joined_b0_e a1 r4 r6 r20 s) (fun i s o hi h => ref_Joined_b0_r a1 r4 r6 r20 i s o hi h) _ 0 _ r (Nat.zero_add _) h)
noncomputable def ref_Joined (a0 : List PartType) (a1 : Netlist) (a2 : ByteArray) (a3 : ByteArray) : Option (Netlist × Int) :=
 bnd (ref_CheckList a0 a1) fun r1 =>
 cnd (r1 != 0) (some ((⟨[], []⟩ : Netlist), r1)) (bnd (ref_netNamed a1 a2) fun r4 =>
 bnd (ref_netNamed a1 a3) fun r6 =>
 bnd1 (cnd (decide (r4 < 0)) (some true) (some (decide (r6 < 0)))) fun v8 =>
 cnd v8 (some ((⟨[], []⟩ : Netlist), 9)) (cnd (r4 == r6) (some ((⟨[], []⟩ : Netlist), 12)) (bnd (atI a1.Nets r4) fun x15 =>
 bnd (atI a1.Nets r6) fun x17 =>
 cnd (decide ((w64 ((x15.Pins.length : Int) + (x17.Pins.length : Int))) > 500)) (some ((⟨[], []⟩ : Netlist), 2)) (bnd (slices_Clone_api_Part_api_Part a1.Parts) fun r20 =>
 aft1 (forN (fun i22 s => ref_Joined_b0 a1 r4 r6 r20 i22 s) (a1.Nets.length) 0 []) (fun u48 =>
 some ((⟨r20, u48⟩ : Netlist), 0))
 (fun r50 =>
 some r50)))))
theorem ref_Joined_ok (a0 : List PartType) (a1 : Netlist) (a2 : ByteArray) (a3 : ByteArray) (r : Netlist × Int) (h : ref_Joined a0 a1 a2 a3 = some r) : Spec PG 9 [lT 2 (List.map e_PartType a0), gT (e_Netlist a1), sT a2, sT a3] [] (.tup [gT (e_Netlist r.1), iT r.2]) [] := by
  unfold ref_Joined at h
  obtain ⟨r1, h2, h⟩ := bnd_e h
  rcases cnd_e h with ⟨h3, h⟩ | ⟨h3, h⟩
  · have h := Option.some.inj h
    subst h
    exact Spec.path XTok PGmix ref_Joined_fn 0 [.r [.id 0, .id 1], .r [.val (iA r1)], .r [], .b true, .r [], .m 1 0 2, .m 1 1 3, .w [(8, .t (.v (.ptr 0 0))), (9, iA r1)] [(0, .cells 26 [.c (.sl 2 (List.map e_Part [])), .c (.sl 3 (List.map e_Net []))])] [(0, 1)]] (an (ref_CheckList_ok a0 a1 r1 h2) h3) (by kernel_rfl)
  · obtain ⟨r4, h5, h⟩ := bnd_e h
    obtain ⟨r6, h7, h⟩ := bnd_e h
    obtain ⟨v8, h9, h⟩ := bnd1_e h
    let q12_f : Fr := [(5, .t (.v (.ptr 0 0))), (8, .t (.v (.ptr 1 0))), (11, iA r4), (12, iA r6)]
    let q12_g : Hp := [(0, .cells 26 [.c (.sl 2 (List.map e_Part a1.Parts)), .c (.sl 3 (List.map e_Net a1.Nets))]), (1, .cells 26 [.c (.nil), .c (.nil)])]
    let q12_f' : Fr := [(5, .t (.v (.ptr 0 0))), (8, .t (.v (.ptr 1 0))), (11, iA r4), (12, iA r6), (29, bA v8)]
    let q12_g' : Hp := [(0, .cells 26 [.c (.sl 2 (List.map e_Part a1.Parts)), .c (.sl 3 (List.map e_Net a1.Nets))]), (1, .cells 26 [.c (.nil), .c (.nil)])]
    have R10 : Runs PG 119 0 (cL (cL (cL (cR (cR (cR ref_Joined_c)))))) q12_f q12_g (.nor q12_f' q12_g') := by
      rcases cnd_e h9 with ⟨h11, h9⟩ | ⟨h11, h9⟩
      · have h9 := Option.some.inj h9
        subst h9
        exact Runs.path XTok PGmix [.r [.b true, .b true, .b true]] [] (an h11 (an h11 h11)) (by kernel_rfl)
      · have h9 := Option.some.inj h9
        subst h9
        exact Runs.path XTok PGmix [.r [.b false, .b false, .b false]] [] (an h11 (an h11 h11)) (by kernel_rfl)
    rcases cnd_e h with ⟨h13, h⟩ | ⟨h13, h⟩
    · have h := Option.some.inj h
      subst h
      exact Spec.path XTok PGmix ref_Joined_fn 0 [.r [.id 0, .id 1], .r [.val (iA r1)], .r [], .b false, .d [([0], []), ([], []), ([], [.val (iA r4)]), ([0], []), ([], []), ([], [.val (iA r6)]), ([], []), ([], [])], .s q12_f q12_g [] (.nor q12_f' q12_g'), .b true, .r [], .m 1 0 2, .m 1 1 3, .w [(8, .t (.v (.ptr 0 0))), (9, iA 9)] [(0, .cells 26 [.c (.sl 2 (List.map e_Part [])), .c (.sl 3 (List.map e_Net []))])] [(0, 1)]] (an (ref_CheckList_ok a0 a1 r1 h2) (an h3 (an (ref_netNamed_ok a1 a2 r4 h5) (an (ref_netNamed_ok a1 a3 r6 h7) (an R10 h13))))) (by kernel_rfl)
    · rcases cnd_e h with ⟨h14, h⟩ | ⟨h14, h⟩
      · have h := Option.some.inj h
        subst h
        exact Spec.path XTok PGmix ref_Joined_fn 0 [.r [.id 0, .id 1], .r [.val (iA r1)], .r [], .b false, .d [([0], []), ([], []), ([], [.val (iA r4)]), ([0], []), ([], []), ([], [.val (iA r6)]), ([], []), ([], [])], .s q12_f q12_g [] (.nor q12_f' q12_g'), .b false, .r [], .b true, .r [], .m 1 0 2, .m 1 1 3, .w [(8, .t (.v (.ptr 0 0))), (9, iA 12)] [(0, .cells 26 [.c (.sl 2 (List.map e_Part [])), .c (.sl 3 (List.map e_Net []))])] [(0, 1)]] (an (ref_CheckList_ok a0 a1 r1 h2) (an h3 (an (ref_netNamed_ok a1 a2 r4 h5) (an (ref_netNamed_ok a1 a3 r6 h7) (an R10 (an h13 h14)))))) (by kernel_rfl)
      · obtain ⟨x15, h16, h⟩ := bnd_e h
        obtain ⟨x17, h18, h⟩ := bnd_e h
        rcases cnd_e h with ⟨h19, h⟩ | ⟨h19, h⟩
        · have h := Option.some.inj h
          subst h
          exact Spec.path XTok PGmix ref_Joined_fn 0 [.r [.id 0, .id 1], .r [.val (iA r1)], .r [], .b false, .d [([0], []), ([], []), ([], [.val (iA r4)]), ([0], []), ([], []), ([], [.val (iA r6)]), ([], []), ([], [])], .s q12_f q12_g [] (.nor q12_f' q12_g'), .b false, .r [], .b false, .d [([], []), ([0], []), ([], []), ([], [.el (e_Net x15)]), ([], []), ([], []), ([], [.eq 49 (iA (x15.Pins.length : Int))]), ([], []), ([0], []), ([], []), ([], [.el (e_Net x17)]), ([], []), ([], []), ([], [.eq 56 (iA (x17.Pins.length : Int))]), ([], []), ([], []), ([], [])], .b true, .r [], .m 1 0 2, .m 1 1 3, .w [(8, .t (.v (.ptr 0 0))), (9, iA 2)] [(0, .cells 26 [.c (.sl 2 (List.map e_Part [])), .c (.sl 3 (List.map e_Net []))])] [(0, 1)]] (an (ref_CheckList_ok a0 a1 r1 h2) (an h3 (an (ref_netNamed_ok a1 a2 r4 h5) (an (ref_netNamed_ok a1 a3 r6 h7) (an R10 (an h13 (an h14 (an (idx_ok e_Net h16) (an (leni_eq e_Pin x15.Pins) (an (idx_ok e_Net h18) (an (leni_eq e_Pin x17.Pins) h19))))))))))) (by kernel_rfl)
        · obtain ⟨r20, h21, h⟩ := bnd_e h
          rcases aft1_e h with ⟨u48, h49, h⟩ | ⟨r50, h49, h⟩
          · have h := Option.some.inj h
            subst h
            exact Spec.path XTok PGmix ref_Joined_fn 0 [.r [.id 0, .id 1], .r [.val (iA r1)], .r [], .b false, .d [([0], []), ([], []), ([], [.val (iA r4)]), ([0], []), ([], []), ([], [.val (iA r6)]), ([], []), ([], [])], .s q12_f q12_g [] (.nor q12_f' q12_g'), .b false, .r [], .b false, .d [([], []), ([0], []), ([], []), ([], [.el (e_Net x15)]), ([], []), ([], []), ([], [.eq 49 (iA (x15.Pins.length : Int))]), ([], []), ([0], []), ([], []), ([], [.el (e_Net x17)]), ([], []), ([], []), ([], [.eq 56 (iA (x17.Pins.length : Int))]), ([], []), ([], []), ([], [])], .b false, .r [.val (lA 2 (List.map e_Part r20)), .id 2], .r [.eq 66 (iA (a1.Nets.length : Int))], .o 2 1 3 53 3, .s (ref_Joined_F0 a1 r4 r6 r20 0 []) (ref_Joined_H0 a1 r4 r6 r20 0 []) [] (ref_Joined_B0 a1 r4 r6 r20 u48), .r [], .f 3, .w [(8, .t (.v (.ptr 0 0))), (9, iA 0)] [(0, .cells 26 [.c (.sl 2 (List.map e_Part r20)), .c (.sl 3 (List.map e_Net u48))])] [(0, 1)]] (an (ref_CheckList_ok a0 a1 r1 h2) (an h3 (an (ref_netNamed_ok a1 a2 r4 h5) (an (ref_netNamed_ok a1 a3 r6 h7) (an R10 (an h13 (an h14 (an (idx_ok e_Net h16) (an (leni_eq e_Pin x15.Pins) (an (idx_ok e_Net h18) (an (leni_eq e_Pin x17.Pins) (an h19 (an (slices_Clone_api_Part_api_Part_ok a1.Parts r20 h21) (an (leni_eq e_Net a1.Nets) (ref_Joined_l0 a1 r4 r6 r20 [] (.fin u48) h49))))))))))))))) (by kernel_rfl)
          · have h := Option.some.inj h
            subst h
            exact Spec.path XTok PGmix ref_Joined_fn 0 [.r [.id 0, .id 1], .r [.val (iA r1)], .r [], .b false, .d [([0], []), ([], []), ([], [.val (iA r4)]), ([0], []), ([], []), ([], [.val (iA r6)]), ([], []), ([], [])], .s q12_f q12_g [] (.nor q12_f' q12_g'), .b false, .r [], .b false, .d [([], []), ([0], []), ([], []), ([], [.el (e_Net x15)]), ([], []), ([], []), ([], [.eq 49 (iA (x15.Pins.length : Int))]), ([], []), ([0], []), ([], []), ([], [.el (e_Net x17)]), ([], []), ([], []), ([], [.eq 56 (iA (x17.Pins.length : Int))]), ([], []), ([], []), ([], [])], .b false, .r [.val (lA 2 (List.map e_Part r20)), .id 2], .r [.eq 66 (iA (a1.Nets.length : Int))], .o 2 1 3 53 3, .s (ref_Joined_F0 a1 r4 r6 r20 0 []) (ref_Joined_H0 a1 r4 r6 r20 0 []) [] (ref_Joined_R r50)] (an (ref_CheckList_ok a0 a1 r1 h2) (an h3 (an (ref_netNamed_ok a1 a2 r4 h5) (an (ref_netNamed_ok a1 a3 r6 h7) (an R10 (an h13 (an h14 (an (idx_ok e_Net h16) (an (leni_eq e_Pin x15.Pins) (an (idx_ok e_Net h18) (an (leni_eq e_Pin x17.Pins) (an h19 (an (slices_Clone_api_Part_api_Part_ok a1.Parts r20 h21) (an (leni_eq e_Net a1.Nets) (ref_Joined_l0 a1 r4 r6 r20 [] (.ret r50) h49))))))))))))))) (by kernel_rfl)

noncomputable def slices_Equal_api_Part_api_Part_c : Code := (Go.Proofs.Tryz.f41.body).getD .skip
theorem slices_Equal_api_Part_api_Part_fn : FnOk PG 41 slices_Equal_api_Part_api_Part_c 26 [.tmp 4] := ⟨⟨Go.Proofs.Tryz.f41, by kernel_rfl, by kernel_rfl, by kernel_rfl, by kernel_rfl, by kernel_rfl⟩⟩
noncomputable def slices_Equal_api_Part_api_Part_c0 : Code := cL (cL (cR (cL (cR (cR slices_Equal_api_Part_api_Part_c)))))
noncomputable def slices_Equal_api_Part_api_Part_R (r : Bool) : Oc := .ret [(4, bA r)] []
noncomputable def slices_Equal_api_Part_api_Part_F0 (a0 : List Part) (a1 : List Part) (i2 : Nat) : Fr := [(0, lA 2 (List.map e_Part a0)), (1, lA 2 (List.map e_Part a1)), (11, lA 2 (List.map e_Part a0)), (12, iA (a0.length : Int)), (13, iA (i2 : Int))]
noncomputable def slices_Equal_api_Part_api_Part_H0 (a0 : List Part) (a1 : List Part) (i2 : Nat) : Hp := []
noncomputable def slices_Equal_api_Part_api_Part_B0 (a0 : List Part) (a1 : List Part) (s : Unit) : Oc := .ex 0 [] []
noncomputable def slices_Equal_api_Part_api_Part_b0 (a0 : List Part) (a1 : List Part) (i2 : Nat) : Option (Stp Unit Bool) :=
 bnd (atI a0 (i2 : Int)) fun x3 =>
 bnd (atI a1 (i2 : Int)) fun x5 =>
 cnd (!(sEq x3.Name x5.Name && (sEq x3.Type_ x5.Type_ && true))) (some (.ret false)) (some (.go ()))
theorem slices_Equal_api_Part_api_Part_b0_r (a0 : List Part) (a1 : List Part) (i2 : Nat) (o : Stp Unit Bool) (hi : i2 < a0.length) (h : slices_Equal_api_Part_api_Part_b0 a0 a1 i2 = some o) :
    Runs PG 26 0 slices_Equal_api_Part_api_Part_c0 (slices_Equal_api_Part_api_Part_F0 a0 a1 i2 ) (slices_Equal_api_Part_api_Part_H0 a0 a1 i2 ) (stpOc (fun s' => .nor (slices_Equal_api_Part_api_Part_F0 a0 a1 (i2 + 1) ) (slices_Equal_api_Part_api_Part_H0 a0 a1 (i2 + 1) )) (slices_Equal_api_Part_api_Part_B0 a0 a1) slices_Equal_api_Part_api_Part_R o) := by
  unfold slices_Equal_api_Part_api_Part_b0 at h
  refine Runs.len (s := 11) (sz := 2) (xs := List.map e_Part a0) (by kernel_rfl) fun hl => ?_
  have hM : a0.length ≤ lim := len_of hl
  obtain ⟨x3, h4, h⟩ := bnd_e h
  obtain ⟨x5, h6, h⟩ := bnd_e h
  rcases cnd_e h with ⟨h7, h⟩ | ⟨h7, h⟩
  · have h := Option.some.inj h
    subst h
    exact Runs.path XTok PGmix [.r [], .b true, .r [], .d [([], []), ([], []), ([], [.el (e_Part x3)]), ([], []), ([], []), ([], []), ([], [.el (e_Part x5)]), ([], []), ([], [])], .b true, .r []] [] (an (lt_true hi) (an (idx_ok e_Part h4) (an (idx_ok e_Part h6) h7))) (by kernel_rfl)
  · have h := Option.some.inj h
    subst h
    exact Runs.path XTok PGmix [.r [], .b true, .r [], .d [([], []), ([], []), ([], [.el (e_Part x3)]), ([], []), ([], []), ([], []), ([], [.el (e_Part x5)]), ([], []), ([], [])], .b false, .r [.eq 25 (iA ((i2 + 1 : Nat) : Int))]] [] (an (lt_true hi) (an (idx_ok e_Part h4) (an (idx_ok e_Part h6) (an h7 (wrap_eq hi hM))))) (by kernel_rfl)
theorem slices_Equal_api_Part_api_Part_b0_e (a0 : List Part) (a1 : List Part) : Runs PG 26 0 slices_Equal_api_Part_api_Part_c0 (slices_Equal_api_Part_api_Part_F0 a0 a1 (a0.length) ) (slices_Equal_api_Part_api_Part_H0 a0 a1 (a0.length) ) (slices_Equal_api_Part_api_Part_B0 a0 a1 ()) := by
  exact Runs.path XTok PGmix [.r [], .b false] [] (lt_false (a0.length)) (by kernel_rfl)
theorem slices_Equal_api_Part_api_Part_l0 (a0 : List Part) (a1 : List Part) (r : Fin' Unit Bool) (h : forN (fun i2 s => slices_Equal_api_Part_api_Part_b0 a0 a1 i2 ) (a0.length) 0 () = some r) : Runs PG 26 0 (cL (cR (cL (cR (cR slices_Equal_api_Part_api_Part_c))))) (slices_Equal_api_Part_api_Part_F0 a0 a1 0 ) (slices_Equal_api_Part_api_Part_H0 a0 a1 0 ) (finOc (slices_Equal_api_Part_api_Part_B0 a0 a1) slices_Equal_api_Part_api_Part_R r) :=
  Runs.loop' (by kernel_rfl) (forN_rounds (σ := Unit) (ρ := Bool) (body := fun i2 s => slices_Equal_api_Part_api_Part_b0 a0 a1 i2 ) (F := fun i2 s => slices_Equal_api_Part_api_Part_F0 a0 a1 i2 ) (H := fun i2 s => slices_Equal_api_Part_api_Part_H0 a0 a1 i2 ) (B := slices_Equal_api_Part_api_Part_B0 a0 a1) (R := slices_Equal_api_Part_api_Part_R) (M := a0.length) (fun _ => rfl) (fun _ => rfl) (fun s => slices_Equal_api_Part_api_Part_b0_e a0 a1 ) (fun i s o hi h => slices_Equal_api_Part_api_Part_b0_r a0 a1 i o hi h) _ 0 _ r (Nat.zero_add _) h)
noncomputable def slices_Equal_api_Part_api_Part (a0 : List Part) (a1 : List Part) : Option Bool :=
 cnd ((a0.length : Int) != (a1.length : Int)) (some false) (aft0 (forN (fun i2 s => slices_Equal_api_Part_api_Part_b0 a0 a1 i2 ) (a0.length) 0 ()) (
 some true)
 (fun r9 =>
 some r9))
theorem slices_Equal_api_Part_api_Part_ok (a0 : List Part) (a1 : List Part) (r : Bool) (h : slices_Equal_api_Part_api_Part a0 a1 = some r) : Spec PG 41 [lT 2 (List.map e_Part a0), lT 2 (List.map e_Part a1)] [] (bA r) [] := by
  unfold slices_Equal_api_Part_api_Part at h
  rcases cnd_e h with ⟨h1, h⟩ | ⟨h1, h⟩
  · have h := Option.some.inj h
    subst h
    exact Spec.path XTok PGmix slices_Equal_api_Part_api_Part_fn 0 [.r [], .r [.eq 7 (iA (a0.length : Int)), .eq 9 (iA (a1.length : Int))], .b true, .r []] (an (leni_eq e_Part a0) (an (leni_eq e_Part a1) h1)) (by kernel_rfl)
  · rcases aft0_e h with ⟨h8, h⟩ | ⟨r9, h8, h⟩
    · have h := Option.some.inj h
      subst h
      exact Spec.path XTok PGmix slices_Equal_api_Part_api_Part_fn 0 [.r [], .r [.eq 7 (iA (a0.length : Int)), .eq 9 (iA (a1.length : Int))], .b false, .r [.eq 12 (iA (a0.length : Int))], .s (slices_Equal_api_Part_api_Part_F0 a0 a1 0 ) (slices_Equal_api_Part_api_Part_H0 a0 a1 0 ) [] (slices_Equal_api_Part_api_Part_B0 a0 a1 ()), .r []] (an (leni_eq e_Part a0) (an (leni_eq e_Part a1) (an h1 (an (leni_eq e_Part a0) (slices_Equal_api_Part_api_Part_l0 a0 a1 (.fin ()) h8))))) (by kernel_rfl)
    · have h := Option.some.inj h
      subst h
      exact Spec.path XTok PGmix slices_Equal_api_Part_api_Part_fn 0 [.r [], .r [.eq 7 (iA (a0.length : Int)), .eq 9 (iA (a1.length : Int))], .b false, .r [.eq 12 (iA (a0.length : Int))], .s (slices_Equal_api_Part_api_Part_F0 a0 a1 0 ) (slices_Equal_api_Part_api_Part_H0 a0 a1 0 ) [] (slices_Equal_api_Part_api_Part_R r9)] (an (leni_eq e_Part a0) (an (leni_eq e_Part a1) (an h1 (an (leni_eq e_Part a0) (slices_Equal_api_Part_api_Part_l0 a0 a1 (.ret r9) h8))))) (by kernel_rfl)

noncomputable def slices_Equal_api_Pin_api_Pin_c : Code := (Go.Proofs.Tryz.f42.body).getD .skip
theorem slices_Equal_api_Pin_api_Pin_fn : FnOk PG 42 slices_Equal_api_Pin_api_Pin_c 26 [.tmp 4] := ⟨⟨Go.Proofs.Tryz.f42, by kernel_rfl, by kernel_rfl, by kernel_rfl, by kernel_rfl, by kernel_rfl⟩⟩
noncomputable def slices_Equal_api_Pin_api_Pin_c0 : Code := cL (cL (cR (cL (cR (cR slices_Equal_api_Pin_api_Pin_c)))))
noncomputable def slices_Equal_api_Pin_api_Pin_R (r : Bool) : Oc := .ret [(4, bA r)] []
noncomputable def slices_Equal_api_Pin_api_Pin_F0 (a0 : List Pin) (a1 : List Pin) (i2 : Nat) : Fr := [(0, lA 2 (List.map e_Pin a0)), (1, lA 2 (List.map e_Pin a1)), (11, lA 2 (List.map e_Pin a0)), (12, iA (a0.length : Int)), (13, iA (i2 : Int))]
noncomputable def slices_Equal_api_Pin_api_Pin_H0 (a0 : List Pin) (a1 : List Pin) (i2 : Nat) : Hp := []
noncomputable def slices_Equal_api_Pin_api_Pin_B0 (a0 : List Pin) (a1 : List Pin) (s : Unit) : Oc := .ex 0 [] []
noncomputable def slices_Equal_api_Pin_api_Pin_b0 (a0 : List Pin) (a1 : List Pin) (i2 : Nat) : Option (Stp Unit Bool) :=
 bnd (atI a0 (i2 : Int)) fun x3 =>
 bnd (atI a1 (i2 : Int)) fun x5 =>
 cnd (!(sEq x3.Part x5.Part && (sEq x3.Pin x5.Pin && true))) (some (.ret false)) (some (.go ()))
theorem slices_Equal_api_Pin_api_Pin_b0_r (a0 : List Pin) (a1 : List Pin) (i2 : Nat) (o : Stp Unit Bool) (hi : i2 < a0.length) (h : slices_Equal_api_Pin_api_Pin_b0 a0 a1 i2 = some o) :
    Runs PG 26 0 slices_Equal_api_Pin_api_Pin_c0 (slices_Equal_api_Pin_api_Pin_F0 a0 a1 i2 ) (slices_Equal_api_Pin_api_Pin_H0 a0 a1 i2 ) (stpOc (fun s' => .nor (slices_Equal_api_Pin_api_Pin_F0 a0 a1 (i2 + 1) ) (slices_Equal_api_Pin_api_Pin_H0 a0 a1 (i2 + 1) )) (slices_Equal_api_Pin_api_Pin_B0 a0 a1) slices_Equal_api_Pin_api_Pin_R o) := by
  unfold slices_Equal_api_Pin_api_Pin_b0 at h
  refine Runs.len (s := 11) (sz := 2) (xs := List.map e_Pin a0) (by kernel_rfl) fun hl => ?_
  have hM : a0.length ≤ lim := len_of hl
  obtain ⟨x3, h4, h⟩ := bnd_e h
  obtain ⟨x5, h6, h⟩ := bnd_e h
  rcases cnd_e h with ⟨h7, h⟩ | ⟨h7, h⟩
  · have h := Option.some.inj h
    subst h
    exact Runs.path XTok PGmix [.r [], .b true, .r [], .d [([], []), ([], []), ([], [.el (e_Pin x3)]), ([], []), ([], []), ([], []), ([], [.el (e_Pin x5)]), ([], []), ([], [])], .b true, .r []] [] (an (lt_true hi) (an (idx_ok e_Pin h4) (an (idx_ok e_Pin h6) h7))) (by kernel_rfl)
  · have h := Option.some.inj h
    subst h
    exact Runs.path XTok PGmix [.r [], .b true, .r [], .d [([], []), ([], []), ([], [.el (e_Pin x3)]), ([], []), ([], []), ([], []), ([], [.el (e_Pin x5)]), ([], []), ([], [])], .b false, .r [.eq 25 (iA ((i2 + 1 : Nat) : Int))]] [] (an (lt_true hi) (an (idx_ok e_Pin h4) (an (idx_ok e_Pin h6) (an h7 (wrap_eq hi hM))))) (by kernel_rfl)
theorem slices_Equal_api_Pin_api_Pin_b0_e (a0 : List Pin) (a1 : List Pin) : Runs PG 26 0 slices_Equal_api_Pin_api_Pin_c0 (slices_Equal_api_Pin_api_Pin_F0 a0 a1 (a0.length) ) (slices_Equal_api_Pin_api_Pin_H0 a0 a1 (a0.length) ) (slices_Equal_api_Pin_api_Pin_B0 a0 a1 ()) := by
  exact Runs.path XTok PGmix [.r [], .b false] [] (lt_false (a0.length)) (by kernel_rfl)
theorem slices_Equal_api_Pin_api_Pin_l0 (a0 : List Pin) (a1 : List Pin) (r : Fin' Unit Bool) (h : forN (fun i2 s => slices_Equal_api_Pin_api_Pin_b0 a0 a1 i2 ) (a0.length) 0 () = some r) : Runs PG 26 0 (cL (cR (cL (cR (cR slices_Equal_api_Pin_api_Pin_c))))) (slices_Equal_api_Pin_api_Pin_F0 a0 a1 0 ) (slices_Equal_api_Pin_api_Pin_H0 a0 a1 0 ) (finOc (slices_Equal_api_Pin_api_Pin_B0 a0 a1) slices_Equal_api_Pin_api_Pin_R r) :=
  Runs.loop' (by kernel_rfl) (forN_rounds (σ := Unit) (ρ := Bool) (body := fun i2 s => slices_Equal_api_Pin_api_Pin_b0 a0 a1 i2 ) (F := fun i2 s => slices_Equal_api_Pin_api_Pin_F0 a0 a1 i2 ) (H := fun i2 s => slices_Equal_api_Pin_api_Pin_H0 a0 a1 i2 ) (B := slices_Equal_api_Pin_api_Pin_B0 a0 a1) (R := slices_Equal_api_Pin_api_Pin_R) (M := a0.length) (fun _ => rfl) (fun _ => rfl) (fun s => slices_Equal_api_Pin_api_Pin_b0_e a0 a1 ) (fun i s o hi h => slices_Equal_api_Pin_api_Pin_b0_r a0 a1 i o hi h) _ 0 _ r (Nat.zero_add _) h)
noncomputable def slices_Equal_api_Pin_api_Pin (a0 : List Pin) (a1 : List Pin) : Option Bool :=
 cnd ((a0.length : Int) != (a1.length : Int)) (some false) (aft0 (forN (fun i2 s => slices_Equal_api_Pin_api_Pin_b0 a0 a1 i2 ) (a0.length) 0 ()) (
 some true)
 (fun r9 =>
 some r9))
theorem slices_Equal_api_Pin_api_Pin_ok (a0 : List Pin) (a1 : List Pin) (r : Bool) (h : slices_Equal_api_Pin_api_Pin a0 a1 = some r) : Spec PG 42 [lT 2 (List.map e_Pin a0), lT 2 (List.map e_Pin a1)] [] (bA r) [] := by
  unfold slices_Equal_api_Pin_api_Pin at h
  rcases cnd_e h with ⟨h1, h⟩ | ⟨h1, h⟩
  · have h := Option.some.inj h
    subst h
    exact Spec.path XTok PGmix slices_Equal_api_Pin_api_Pin_fn 0 [.r [], .r [.eq 7 (iA (a0.length : Int)), .eq 9 (iA (a1.length : Int))], .b true, .r []] (an (leni_eq e_Pin a0) (an (leni_eq e_Pin a1) h1)) (by kernel_rfl)
  · rcases aft0_e h with ⟨h8, h⟩ | ⟨r9, h8, h⟩
    · have h := Option.some.inj h
      subst h
      exact Spec.path XTok PGmix slices_Equal_api_Pin_api_Pin_fn 0 [.r [], .r [.eq 7 (iA (a0.length : Int)), .eq 9 (iA (a1.length : Int))], .b false, .r [.eq 12 (iA (a0.length : Int))], .s (slices_Equal_api_Pin_api_Pin_F0 a0 a1 0 ) (slices_Equal_api_Pin_api_Pin_H0 a0 a1 0 ) [] (slices_Equal_api_Pin_api_Pin_B0 a0 a1 ()), .r []] (an (leni_eq e_Pin a0) (an (leni_eq e_Pin a1) (an h1 (an (leni_eq e_Pin a0) (slices_Equal_api_Pin_api_Pin_l0 a0 a1 (.fin ()) h8))))) (by kernel_rfl)
    · have h := Option.some.inj h
      subst h
      exact Spec.path XTok PGmix slices_Equal_api_Pin_api_Pin_fn 0 [.r [], .r [.eq 7 (iA (a0.length : Int)), .eq 9 (iA (a1.length : Int))], .b false, .r [.eq 12 (iA (a0.length : Int))], .s (slices_Equal_api_Pin_api_Pin_F0 a0 a1 0 ) (slices_Equal_api_Pin_api_Pin_H0 a0 a1 0 ) [] (slices_Equal_api_Pin_api_Pin_R r9)] (an (leni_eq e_Pin a0) (an (leni_eq e_Pin a1) (an h1 (an (leni_eq e_Pin a0) (slices_Equal_api_Pin_api_Pin_l0 a0 a1 (.ret r9) h8))))) (by kernel_rfl)

noncomputable def slices_Equal_string_string_c : Code := (Go.Proofs.Tryz.f43.body).getD .skip
theorem slices_Equal_string_string_fn : FnOk PG 43 slices_Equal_string_string_c 26 [.tmp 4] := ⟨⟨Go.Proofs.Tryz.f43, by kernel_rfl, by kernel_rfl, by kernel_rfl, by kernel_rfl, by kernel_rfl⟩⟩
noncomputable def slices_Equal_string_string_c0 : Code := cL (cL (cR (cL (cR (cR slices_Equal_string_string_c)))))
noncomputable def slices_Equal_string_string_R (r : Bool) : Oc := .ret [(4, bA r)] []
noncomputable def slices_Equal_string_string_F0 (a0 : List ByteArray) (a1 : List ByteArray) (i2 : Nat) : Fr := [(0, lA 1 (List.map e_str a0)), (1, lA 1 (List.map e_str a1)), (11, lA 1 (List.map e_str a0)), (12, iA (a0.length : Int)), (13, iA (i2 : Int))]
noncomputable def slices_Equal_string_string_H0 (a0 : List ByteArray) (a1 : List ByteArray) (i2 : Nat) : Hp := []
noncomputable def slices_Equal_string_string_B0 (a0 : List ByteArray) (a1 : List ByteArray) (s : Unit) : Oc := .ex 0 [] []
noncomputable def slices_Equal_string_string_b0 (a0 : List ByteArray) (a1 : List ByteArray) (i2 : Nat) : Option (Stp Unit Bool) :=
 bnd (atI a0 (i2 : Int)) fun x3 =>
 bnd (atI a1 (i2 : Int)) fun x5 =>
 cnd (sNe x3 x5) (some (.ret false)) (some (.go ()))
theorem slices_Equal_string_string_b0_r (a0 : List ByteArray) (a1 : List ByteArray) (i2 : Nat) (o : Stp Unit Bool) (hi : i2 < a0.length) (h : slices_Equal_string_string_b0 a0 a1 i2 = some o) :
    Runs PG 26 0 slices_Equal_string_string_c0 (slices_Equal_string_string_F0 a0 a1 i2 ) (slices_Equal_string_string_H0 a0 a1 i2 ) (stpOc (fun s' => .nor (slices_Equal_string_string_F0 a0 a1 (i2 + 1) ) (slices_Equal_string_string_H0 a0 a1 (i2 + 1) )) (slices_Equal_string_string_B0 a0 a1) slices_Equal_string_string_R o) := by
  unfold slices_Equal_string_string_b0 at h
  refine Runs.len (s := 11) (sz := 1) (xs := List.map e_str a0) (by kernel_rfl) fun hl => ?_
  have hM : a0.length ≤ lim := len_of hl
  obtain ⟨x3, h4, h⟩ := bnd_e h
  obtain ⟨x5, h6, h⟩ := bnd_e h
  rcases cnd_e h with ⟨h7, h⟩ | ⟨h7, h⟩
  · have h := Option.some.inj h
    subst h
    exact Runs.path XTok PGmix [.r [], .b true, .r [], .d [([], []), ([], []), ([], [.el [sC x3]]), ([], []), ([], []), ([], []), ([], [.el [sC x5]]), ([], []), ([], [])], .b true, .r []] [] (an (lt_true hi) (an (idx_ok e_str h4) (an (idx_ok e_str h6) h7))) (by kernel_rfl)
  · have h := Option.some.inj h
    subst h
    exact Runs.path XTok PGmix [.r [], .b true, .r [], .d [([], []), ([], []), ([], [.el [sC x3]]), ([], []), ([], []), ([], []), ([], [.el [sC x5]]), ([], []), ([], [])], .b false, .r [.eq 25 (iA ((i2 + 1 : Nat) : Int))]] [] (an (lt_true hi) (an (idx_ok e_str h4) (an (idx_ok e_str h6) (an h7 (wrap_eq hi hM))))) (by kernel_rfl)
theorem slices_Equal_string_string_b0_e (a0 : List ByteArray) (a1 : List ByteArray) : Runs PG 26 0 slices_Equal_string_string_c0 (slices_Equal_string_string_F0 a0 a1 (a0.length) ) (slices_Equal_string_string_H0 a0 a1 (a0.length) ) (slices_Equal_string_string_B0 a0 a1 ()) := by
  exact Runs.path XTok PGmix [.r [], .b false] [] (lt_false (a0.length)) (by kernel_rfl)
theorem slices_Equal_string_string_l0 (a0 : List ByteArray) (a1 : List ByteArray) (r : Fin' Unit Bool) (h : forN (fun i2 s => slices_Equal_string_string_b0 a0 a1 i2 ) (a0.length) 0 () = some r) : Runs PG 26 0 (cL (cR (cL (cR (cR slices_Equal_string_string_c))))) (slices_Equal_string_string_F0 a0 a1 0 ) (slices_Equal_string_string_H0 a0 a1 0 ) (finOc (slices_Equal_string_string_B0 a0 a1) slices_Equal_string_string_R r) :=
  Runs.loop' (by kernel_rfl) (forN_rounds (σ := Unit) (ρ := Bool) (body := fun i2 s => slices_Equal_string_string_b0 a0 a1 i2 ) (F := fun i2 s => slices_Equal_string_string_F0 a0 a1 i2 ) (H := fun i2 s => slices_Equal_string_string_H0 a0 a1 i2 ) (B := slices_Equal_string_string_B0 a0 a1) (R := slices_Equal_string_string_R) (M := a0.length) (fun _ => rfl) (fun _ => rfl) (fun s => slices_Equal_string_string_b0_e a0 a1 ) (fun i s o hi h => slices_Equal_string_string_b0_r a0 a1 i o hi h) _ 0 _ r (Nat.zero_add _) h)
noncomputable def slices_Equal_string_string (a0 : List ByteArray) (a1 : List ByteArray) : Option Bool :=
 cnd ((a0.length : Int) != (a1.length : Int)) (some false) (aft0 (forN (fun i2 s => slices_Equal_string_string_b0 a0 a1 i2 ) (a0.length) 0 ()) (
 some true)
 (fun r9 =>
 some r9))
theorem slices_Equal_string_string_ok (a0 : List ByteArray) (a1 : List ByteArray) (r : Bool) (h : slices_Equal_string_string a0 a1 = some r) : Spec PG 43 [lT 1 (List.map e_str a0), lT 1 (List.map e_str a1)] [] (bA r) [] := by
  unfold slices_Equal_string_string at h
  rcases cnd_e h with ⟨h1, h⟩ | ⟨h1, h⟩
  · have h := Option.some.inj h
    subst h
    exact Spec.path XTok PGmix slices_Equal_string_string_fn 0 [.r [], .r [.eq 7 (iA (a0.length : Int)), .eq 9 (iA (a1.length : Int))], .b true, .r []] (an (leni_eq e_str a0) (an (leni_eq e_str a1) h1)) (by kernel_rfl)
  · rcases aft0_e h with ⟨h8, h⟩ | ⟨r9, h8, h⟩
    · have h := Option.some.inj h
      subst h
      exact Spec.path XTok PGmix slices_Equal_string_string_fn 0 [.r [], .r [.eq 7 (iA (a0.length : Int)), .eq 9 (iA (a1.length : Int))], .b false, .r [.eq 12 (iA (a0.length : Int))], .s (slices_Equal_string_string_F0 a0 a1 0 ) (slices_Equal_string_string_H0 a0 a1 0 ) [] (slices_Equal_string_string_B0 a0 a1 ()), .r []] (an (leni_eq e_str a0) (an (leni_eq e_str a1) (an h1 (an (leni_eq e_str a0) (slices_Equal_string_string_l0 a0 a1 (.fin ()) h8))))) (by kernel_rfl)
    · have h := Option.some.inj h
      subst h
      exact Spec.path XTok PGmix slices_Equal_string_string_fn 0 [.r [], .r [.eq 7 (iA (a0.length : Int)), .eq 9 (iA (a1.length : Int))], .b false, .r [.eq 12 (iA (a0.length : Int))], .s (slices_Equal_string_string_F0 a0 a1 0 ) (slices_Equal_string_string_H0 a0 a1 0 ) [] (slices_Equal_string_string_R r9)] (an (leni_eq e_str a0) (an (leni_eq e_str a1) (an h1 (an (leni_eq e_str a0) (slices_Equal_string_string_l0 a0 a1 (.ret r9) h8))))) (by kernel_rfl)

noncomputable def ref_Same_c : Code := (Go.Proofs.Tryz.f10.body).getD .skip
theorem ref_Same_fn : FnOk PG 10 ref_Same_c 64 [.tmp 4] := ⟨⟨Go.Proofs.Tryz.f10, by kernel_rfl, by kernel_rfl, by kernel_rfl, by kernel_rfl, by kernel_rfl⟩⟩
noncomputable def ref_Same_c0 : Code := cL (cL (cR (cL (cR (cR ref_Same_c)))))
noncomputable def ref_Same_R (r : Bool) : Oc := .ret [(4, bA r)] []
noncomputable def ref_Same_F0 (a0 : Netlist) (a1 : Netlist) (i9 : Nat) : Fr := [(3, .t (.v (.ptr 1 0))), (23, lA 3 (List.map e_Net a0.Nets)), (24, iA (a0.Nets.length : Int)), (25, iA (i9 : Int))]
noncomputable def ref_Same_H0 (a0 : Netlist) (a1 : Netlist) (i9 : Nat) : Hp := [(1, .cells 26 [.c (.sl 2 (List.map e_Part a1.Parts)), .c (.sl 3 (List.map e_Net a1.Nets))])]
noncomputable def ref_Same_B0 (a0 : Netlist) (a1 : Netlist) (s : Unit) : Oc := .ex 0 [] []
noncomputable def ref_Same_b0 (a0 : Netlist) (a1 : Netlist) (i9 : Nat) : Option (Stp Unit Bool) :=
 bnd (atI a0.Nets (i9 : Int)) fun x10 =>
 bnd1 (bnd (atI a1.Nets (i9 : Int)) fun x15 =>
 cnd (sNe x10.Name x15.Name) (some true) (bnd (atI a1.Nets (i9 : Int)) fun x18 =>
 bnd (slices_Equal_api_Pin_api_Pin x10.Pins x18.Pins) fun r20 =>
 cnd (!r20) (some true) (bnd (atI a1.Nets (i9 : Int)) fun x23 =>
 bnd (slices_Equal_string_string x10.Ports x23.Ports) fun r25 =>
 some (!r25)))) fun v12 =>
 cnd v12 (some (.ret false)) (some (.go ()))
theorem ref_Same_b0_r (a0 : Netlist) (a1 : Netlist) (i9 : Nat) (o : Stp Unit Bool) (hi : i9 < a0.Nets.length) (h : ref_Same_b0 a0 a1 i9 = some o) :
    Runs PG 64 0 ref_Same_c0 (ref_Same_F0 a0 a1 i9 ) (ref_Same_H0 a0 a1 i9 ) (stpOc (fun s' => .nor (ref_Same_F0 a0 a1 (i9 + 1) ) (ref_Same_H0 a0 a1 (i9 + 1) )) (ref_Same_B0 a0 a1) ref_Same_R o) := by
  unfold ref_Same_b0 at h
  refine Runs.len (s := 23) (sz := 3) (xs := List.map e_Net a0.Nets) (by kernel_rfl) fun hl => ?_
  have hM : a0.Nets.length ≤ lim := len_of hl
  obtain ⟨x10, h11, h⟩ := bnd_e h
  obtain ⟨v12, h13, h⟩ := bnd1_e h
  let q27_f : Fr := [(3, .t (.v (.ptr 1 0))), (5, iA (i9 : Int)), (6, .t (.v (.ptr 2 0))), (23, lA 3 (List.map e_Net a0.Nets)), (24, iA (a0.Nets.length : Int)), (25, iA (i9 : Int))]
  let q27_g : Hp := [(1, .cells 26 [.c (.sl 2 (List.map e_Part a1.Parts)), .c (.sl 3 (List.map e_Net a1.Nets))]), (2, .cells 53 [.c (sC x10.Name), .c (.sl 2 (List.map e_Pin x10.Pins)), .c (.sl 1 (List.map e_str x10.Ports))])]
  let q27_f' : Fr := [(3, .t (.v (.ptr 1 0))), (23, lA 3 (List.map e_Net a0.Nets)), (24, iA (a0.Nets.length : Int)), (25, iA (i9 : Int)), (62, bA v12)]
  let q27_g' : Hp := [(1, .cells 26 [.c (.sl 2 (List.map e_Part a1.Parts)), .c (.sl 3 (List.map e_Net a1.Nets))])]
  have R14 : Runs PG 64 0 (cL (cR (cL (cL (cR (cR ref_Same_c0)))))) q27_f q27_g (.nor q27_f' q27_g') := by
    obtain ⟨x15, h16, h13⟩ := bnd_e h13
    rcases cnd_e h13 with ⟨h17, h13⟩ | ⟨h17, h13⟩
    · have h13 := Option.some.inj h13
      subst h13
      exact Runs.path XTok PGmix [.d [([], []), ([2], []), ([], []), ([1], []), ([], []), ([], [.el (e_Net x15)]), ([], []), ([], []), ([], []), ([], []), ([], [.b true]), ([], [.b true]), ([], [.b true]), ([], [.b true]), ([], [.b true]), ([], [.b true]), ([], [.b true]), ([], [.b true]), ([], [.b true]), ([], [.b true]), ([], [.b true]), ([], []), ([], [.b true]), ([], [.b true]), ([], [.b true]), ([], [.b true]), ([], [.b true]), ([], [.b true]), ([], [.b true]), ([], [.b true]), ([], [.b true]), ([], [.b true]), ([], [.b true])]] [] (an (idx_ok e_Net h16) (an h17 (an h17 (an h17 (an h17 (an h17 (an h17 (an h17 (an h17 (an h17 (an h17 (an h17 (an (Eq.refl true) (an (Eq.refl true) (an (Eq.refl true) (an (Eq.refl true) (an (Eq.refl true) (an (Eq.refl true) (an (Eq.refl true) (an (Eq.refl true) (an (Eq.refl true) (an (Eq.refl true) (Eq.refl true))))))))))))))))))))))) (by kernel_rfl)
    · obtain ⟨x18, h19, h13⟩ := bnd_e h13
      obtain ⟨r20, h21, h13⟩ := bnd_e h13
      rcases cnd_e h13 with ⟨h22, h13⟩ | ⟨h22, h13⟩
      · have h13 := Option.some.inj h13
        subst h13
        exact Runs.path XTok PGmix [.d [([], []), ([2], []), ([], []), ([1], []), ([], []), ([], [.el (e_Net x15)]), ([], []), ([], []), ([], []), ([], []), ([], [.b false]), ([2], [.b false]), ([], [.b false]), ([1], [.b false]), ([], [.b false]), ([], [.b false, .el (e_Net x18)]), ([], [.b false]), ([], [.b false]), ([], [.b false, .val (bA r20)]), ([], [.b false]), ([], [.b false]), ([], []), ([], [.b true]), ([], [.b true]), ([], [.b true]), ([], [.b true]), ([], [.b true]), ([], [.b true]), ([], [.b true]), ([], [.b true]), ([], [.b true]), ([], [.b true]), ([], [.b true])]] [] (an (idx_ok e_Net h16) (an h17 (an h17 (an h17 (an h17 (an h17 (an h17 (an (idx_ok e_Net h19) (an h17 (an h17 (an h17 (an (slices_Equal_api_Pin_api_Pin_ok x10.Pins x18.Pins r20 h21) (an h17 (an h17 (an h22 (an h22 (an h22 (an h22 (an h22 (an h22 (an h22 (an h22 (an h22 (an h22 h22)))))))))))))))))))))))) (by kernel_rfl)
      · obtain ⟨x23, h24, h13⟩ := bnd_e h13
        obtain ⟨r25, h26, h13⟩ := bnd_e h13
        have h13 := Option.some.inj h13
        subst h13
        exact Runs.path XTok PGmix [.d [([], []), ([2], []), ([], []), ([1], []), ([], []), ([], [.el (e_Net x15)]), ([], []), ([], []), ([], []), ([], []), ([], [.b false]), ([2], [.b false]), ([], [.b false]), ([1], [.b false]), ([], [.b false]), ([], [.b false, .el (e_Net x18)]), ([], [.b false]), ([], [.b false]), ([], [.b false, .val (bA r20)]), ([], [.b false]), ([], [.b false]), ([], []), ([], [.b false]), ([2], [.b false]), ([], [.b false]), ([1], [.b false]), ([], [.b false]), ([], [.b false, .el (e_Net x23)]), ([], [.b false]), ([], [.b false]), ([], [.b false, .val (bA r25)]), ([], [.b false]), ([], [.b false])]] [] (an (idx_ok e_Net h16) (an h17 (an h17 (an h17 (an h17 (an h17 (an h17 (an (idx_ok e_Net h19) (an h17 (an h17 (an h17 (an (slices_Equal_api_Pin_api_Pin_ok x10.Pins x18.Pins r20 h21) (an h17 (an h17 (an h22 (an h22 (an h22 (an h22 (an h22 (an h22 (an (idx_ok e_Net h24) (an h22 (an h22 (an h22 (an (slices_Equal_string_string_ok x10.Ports x23.Ports r25 h26) (an h22 h22)))))))))))))))))))))))))) (by kernel_rfl)
  rcases cnd_e h with ⟨h28, h⟩ | ⟨h28, h⟩
  · have h := Option.some.inj h
    subst h
    exact Runs.path XTok PGmix [.r [], .b true, .r [.el (e_Net x10), .id 2], .s q27_f q27_g [] (.nor q27_f' q27_g'), .b true, .r []] [] (an (lt_true hi) (an (idx_ok e_Net h11) (an R14 h28))) (by kernel_rfl)
  · have h := Option.some.inj h
    subst h
    exact Runs.path XTok PGmix [.r [], .b true, .r [.el (e_Net x10), .id 2], .s q27_f q27_g [] (.nor q27_f' q27_g'), .b false, .r [.eq 63 (iA ((i9 + 1 : Nat) : Int))]] [] (an (lt_true hi) (an (idx_ok e_Net h11) (an R14 (an h28 (wrap_eq hi hM))))) (by kernel_rfl)
theorem ref_Same_b0_e (a0 : Netlist) (a1 : Netlist) : Runs PG 64 0 ref_Same_c0 (ref_Same_F0 a0 a1 (a0.Nets.length) ) (ref_Same_H0 a0 a1 (a0.Nets.length) ) (ref_Same_B0 a0 a1 ()) := by
  exact Runs.path XTok PGmix [.r [], .b false] [] (lt_false (a0.Nets.length)) (by kernel_rfl)
theorem ref_Same_l0 (a0 : Netlist) (a1 : Netlist) (r : Fin' Unit Bool) (h : forN (fun i9 s => ref_Same_b0 a0 a1 i9 ) (a0.Nets.length) 0 () = some r) : Runs PG 64 0 (cL (cR (cL (cR (cR ref_Same_c))))) (ref_Same_F0 a0 a1 0 ) (ref_Same_H0 a0 a1 0 ) (finOc (ref_Same_B0 a0 a1) ref_Same_R r) :=
  Runs.loop' (by kernel_rfl) (forN_rounds (σ := Unit) (ρ := Bool) (body := fun i9 s => ref_Same_b0 a0 a1 i9 ) (F := fun i9 s => ref_Same_F0 a0 a1 i9 ) (H := fun i9 s => ref_Same_H0 a0 a1 i9 ) (B := ref_Same_B0 a0 a1) (R := ref_Same_R) (M := a0.Nets.length) (fun _ => rfl) (fun _ => rfl) (fun s => ref_Same_b0_e a0 a1 ) (fun i s o hi h => ref_Same_b0_r a0 a1 i o hi h) _ 0 _ r (Nat.zero_add _) h)
noncomputable def ref_Same (a0 : Netlist) (a1 : Netlist) : Option Bool :=
 bnd1 (bnd (slices_Equal_api_Part_api_Part a0.Parts a1.Parts) fun r4 =>
 cnd (!r4) (some true) (some ((a0.Nets.length : Int) != (a1.Nets.length : Int)))) fun v1 =>
 cnd v1 (some false) (aft0 (forN (fun i9 s => ref_Same_b0 a0 a1 i9 ) (a0.Nets.length) 0 ()) (
 some true)
 (fun r30 =>
 some r30))
theorem ref_Same_ok (a0 : Netlist) (a1 : Netlist) (r : Bool) (h : ref_Same a0 a1 = some r) : Spec PG 10 [gT (e_Netlist a0), gT (e_Netlist a1)] [] (bA r) [] := by
  unfold ref_Same at h
  obtain ⟨v1, h2, h⟩ := bnd1_e h
  let q7_f : Fr := [(2, .t (.v (.ptr 0 0))), (3, .t (.v (.ptr 1 0)))]
  let q7_g : Hp := [(0, .cells 26 [.c (.sl 2 (List.map e_Part a0.Parts)), .c (.sl 3 (List.map e_Net a0.Nets))]), (1, .cells 26 [.c (.sl 2 (List.map e_Part a1.Parts)), .c (.sl 3 (List.map e_Net a1.Nets))])]
  let q7_f' : Fr := [(2, .t (.v (.ptr 0 0))), (3, .t (.v (.ptr 1 0))), (21, bA v1)]
  let q7_g' : Hp := [(0, .cells 26 [.c (.sl 2 (List.map e_Part a0.Parts)), .c (.sl 3 (List.map e_Net a0.Nets))]), (1, .cells 26 [.c (.sl 2 (List.map e_Part a1.Parts)), .c (.sl 3 (List.map e_Net a1.Nets))])]
  have R3 : Runs PG 64 0 (cL (cL (cR ref_Same_c))) q7_f q7_g (.nor q7_f' q7_g') := by
    obtain ⟨r4, h5, h2⟩ := bnd_e h2
    rcases cnd_e h2 with ⟨h6, h2⟩ | ⟨h6, h2⟩
    · have h2 := Option.some.inj h2
      subst h2
      exact Runs.path XTok PGmix [.r [.val (bA r4), .b true, .b true, .b true, .b true, .b true, .b true, .b true, .b true]] [] (an (slices_Equal_api_Part_api_Part_ok a0.Parts a1.Parts r4 h5) (an h6 (an h6 (an h6 (an h6 (an h6 (an h6 (an h6 h6)))))))) (by kernel_rfl)
    · have h2 := Option.some.inj h2
      subst h2
      exact Runs.path XTok PGmix [.r [.val (bA r4), .b false, .b false, .b false, .eq 16 (iA (a0.Nets.length : Int)), .b false, .b false, .b false, .eq 19 (iA (a1.Nets.length : Int)), .b false, .b false]] [] (an (slices_Equal_api_Part_api_Part_ok a0.Parts a1.Parts r4 h5) (an h6 (an h6 (an h6 (an (leni_eq e_Net a0.Nets) (an h6 (an h6 (an h6 (an (leni_eq e_Net a1.Nets) (an h6 h6)))))))))) (by kernel_rfl)
  rcases cnd_e h with ⟨h8, h⟩ | ⟨h8, h⟩
  · have h := Option.some.inj h
    subst h
    exact Spec.path XTok PGmix ref_Same_fn 0 [.r [.id 0, .id 1], .s q7_f q7_g [] (.nor q7_f' q7_g'), .b true, .r []] (an R3 h8) (by kernel_rfl)
  · rcases aft0_e h with ⟨h29, h⟩ | ⟨r30, h29, h⟩
    · have h := Option.some.inj h
      subst h
      exact Spec.path XTok PGmix ref_Same_fn 0 [.r [.id 0, .id 1], .s q7_f q7_g [] (.nor q7_f' q7_g'), .b false, .r [.eq 24 (iA (a0.Nets.length : Int))], .s (ref_Same_F0 a0 a1 0 ) (ref_Same_H0 a0 a1 0 ) [] (ref_Same_B0 a0 a1 ()), .r []] (an R3 (an h8 (an (leni_eq e_Net a0.Nets) (ref_Same_l0 a0 a1 (.fin ()) h29)))) (by kernel_rfl)
    · have h := Option.some.inj h
      subst h
      exact Spec.path XTok PGmix ref_Same_fn 0 [.r [.id 0, .id 1], .s q7_f q7_g [] (.nor q7_f' q7_g'), .b false, .r [.eq 24 (iA (a0.Nets.length : Int))], .s (ref_Same_F0 a0 a1 0 ) (ref_Same_H0 a0 a1 0 ) [] (ref_Same_R r30)] (an R3 (an h8 (an (leni_eq e_Net a0.Nets) (ref_Same_l0 a0 a1 (.ret r30) h29)))) (by kernel_rfl)

noncomputable def law_NetlistJoinedMatchesSpec_c : Code := (Go.Proofs.Tryz.f4.body).getD .skip
theorem law_NetlistJoinedMatchesSpec_fn : FnOk PG 4 law_NetlistJoinedMatchesSpec_c 40 [.tmp 8] := ⟨⟨Go.Proofs.Tryz.f4, by kernel_rfl, by kernel_rfl, by kernel_rfl, by kernel_rfl, by kernel_rfl⟩⟩
noncomputable def law_NetlistJoinedMatchesSpec (a0 : List PartType) (a1 : Netlist) (a2 : ByteArray) (a3 : ByteArray) : Option Bool :=
 bnd (nl_Joined a0 a1 a2 a3) fun r1 =>
 bnd (ref_Joined a0 a1 a2 a3) fun r3 =>
 bnd1 (cnd (r1.2 == r3.2) (bnd (ref_Same r1.1 r3.1) fun r9 =>
 cnd r9 (bnd (law_awake ) fun r12 =>
 some r12) (some false)) (some false)) fun v5 =>
 some v5
theorem law_NetlistJoinedMatchesSpec_ok (a0 : List PartType) (a1 : Netlist) (a2 : ByteArray) (a3 : ByteArray) (r : Bool) (h : law_NetlistJoinedMatchesSpec a0 a1 a2 a3 = some r) : Spec PG 4 [lT 2 (List.map e_PartType a0), gT (e_Netlist a1), sT a2, sT a3] [] (bA r) [] := by
  unfold law_NetlistJoinedMatchesSpec at h
  obtain ⟨r1, h2, h⟩ := bnd_e h
  obtain ⟨r3, h4, h⟩ := bnd_e h
  obtain ⟨v5, h6, h⟩ := bnd1_e h
  let q14_f : Fr := [(9, .t (.v (.ptr 1 0))), (10, iA r1.2), (11, .t (.v (.ptr 2 0))), (12, iA r3.2)]
  let q14_g : Hp := [(1, .cells 26 [.c (.sl 2 (List.map e_Part r1.1.Parts)), .c (.sl 3 (List.map e_Net r1.1.Nets))]), (2, .cells 26 [.c (.sl 2 (List.map e_Part r3.1.Parts)), .c (.sl 3 (List.map e_Net r3.1.Nets))])]
  let q14_f' : Fr := [(8, bA v5)]
  let q14_g' : Hp := []
  have R7 : Runs PG 40 0 (cL (cR (cR (cR law_NetlistJoinedMatchesSpec_c)))) q14_f q14_g (.nor q14_f' q14_g') := by
    rcases cnd_e h6 with ⟨h8, h6⟩ | ⟨h8, h6⟩
    · obtain ⟨r9, h10, h6⟩ := bnd_e h6
      rcases cnd_e h6 with ⟨h11, h6⟩ | ⟨h11, h6⟩
      · obtain ⟨r12, h13, h6⟩ := bnd_e h6
        have h6 := Option.some.inj h6
        subst h6
        exact Runs.path XTok PGmix [.r [.b true, .b true, .b true, .val (bA r9), .b true, .b true, .val (bA r12), .b true]] [] (an h8 (an h8 (an h8 (an (ref_Same_ok r1.1 r3.1 r9 h10) (an h8 (an h11 (an (law_awake_ok r12 h13) h11))))))) (by kernel_rfl)
      · have h6 := Option.some.inj h6
        subst h6
        exact Runs.path XTok PGmix [.r [.b true, .b true, .b true, .val (bA r9), .b true, .b false, .b false]] [] (an h8 (an h8 (an h8 (an (ref_Same_ok r1.1 r3.1 r9 h10) (an h8 (an h11 h11)))))) (by kernel_rfl)
    · have h6 := Option.some.inj h6
      subst h6
      exact Runs.path XTok PGmix [.r [.b false, .b false, .b false, .b false, .b false, .b false]] [] (an h8 (an h8 (an h8 (an h8 (an (Eq.refl false) (Eq.refl false)))))) (by kernel_rfl)
  have h := Option.some.inj h
  subst h
  exact Spec.path XTok PGmix law_NetlistJoinedMatchesSpec_fn 0 [.r [.id 0], .r [.val (.tup [gT (e_Netlist r1.1), iT r1.2]), .id 1], .r [.val (.tup [gT (e_Netlist r3.1), iT r3.2]), .id 2], .s q14_f q14_g [] (.nor q14_f' q14_g')] (an (nl_Joined_ok a0 a1 a2 a3 r1 h2) (an (ref_Joined_ok a0 a1 a2 a3 r3 h4) R7)) (by kernel_rfl)
end Go.Proofs.YtlbndchfmdogeaaGreatDoor.Sym
