/- Printed by gen2.py: the plain forms of functions, and that calling them gives what these give. Conditions: none. -/
import Derived.Test.YtlbndchfmdogeaaDoorKf2
set_option linter.unusedVariables false
set_option maxHeartbeats 4000000
namespace Go.Proofs.YtlbndchfmdogeaaDoor.Sym
open Go Go.RowKit
noncomputable def law_NetlistJoinedKeepsPins_c : Code := (Go.Proofs.Tryd.f12.body).getD .skip
theorem law_NetlistJoinedKeepsPins_fn : FnOk PG 12 law_NetlistJoinedKeepsPins_c 87 [.tmp 12] := ⟨⟨Go.Proofs.Tryd.f12, by kernel_rfl, by kernel_rfl, by kernel_rfl, by kernel_rfl, by kernel_rfl⟩⟩
noncomputable def law_NetlistJoinedKeepsPins (a0 : List PartType) (a1 : Netlist) (a2 : ByteArray) (a3 : ByteArray) (a4 : Int) (a5 : Int) : Option Bool :=
 bnd (nl_Joined a0 a1 a2 a3) fun r1 =>
 cnd (r1.2 != 0) (bnd1 (cnd ((r1.1.Nets.length : Int) == 0) (bnd (law_awake ) fun r8 =>
 some r8) (some false)) fun v4 =>
 some v4) (bnd (ref_AllPins a1) fun r11 =>
 bnd (ref_Below a4 (r11.length : Int)) fun r13 =>
 bnd (atI r11 r13) fun x15 =>
 bnd (ref_Below a5 (r11.length : Int)) fun r17 =>
 bnd (atI r11 r17) fun x19 =>
 bnd1 (cnd ((r1.1.Nets.length : Int) == (w64 ((a1.Nets.length : Int) - 1))) (bnd (ref_AllPins r1.1) fun r25 =>
 bnd (slices_Equal_api_Pin_api_Pin r11 r25) fun r27 =>
 cnd r27 (bnd (ref_Together a1 x15 x19) fun r30 =>
 cnd (!r30) (bnd (nl_CheckList a0 r1.1) fun r33 =>
 cnd (r33 == 0) (bnd (law_awake ) fun r36 =>
 some r36) (some false)) (bnd (ref_Together r1.1 x15 x19) fun r38 =>
 cnd r38 (bnd (nl_CheckList a0 r1.1) fun r41 =>
 cnd (r41 == 0) (bnd (law_awake ) fun r44 =>
 some r44) (some false)) (some false))) (some false)) (some false)) fun v21 =>
 some v21)
theorem law_NetlistJoinedKeepsPins_ok (a0 : List PartType) (a1 : Netlist) (a2 : ByteArray) (a3 : ByteArray) (a4 : Int) (a5 : Int) (r : Bool) (h : law_NetlistJoinedKeepsPins a0 a1 a2 a3 a4 a5 = some r) : Spec PG 12 [lT 2 (List.map e_PartType a0), gT (e_Netlist a1), sT a2, sT a3, iT a4, iT a5] [] (bA r) [] := by
  unfold law_NetlistJoinedKeepsPins at h
  obtain ⟨r1, h2, h⟩ := bnd_e h
  rcases cnd_e h with ⟨h3, h⟩ | ⟨h3, h⟩
  · obtain ⟨v4, h5, h⟩ := bnd1_e h
    let q10_f : Fr := [(13, .t (.v (.ptr 1 0)))]
    let q10_g : Hp := [(1, .cells 26 [.c (.sl 2 (List.map e_Part r1.1.Parts)), .c (.sl 3 (List.map e_Net r1.1.Nets))])]
    let q10_f' : Fr := [(12, bA v4)]
    let q10_g' : Hp := []
    have R6 : Runs PG 87 0 (cL (cL (cR (cL (cR (cR law_NetlistJoinedKeepsPins_c)))))) q10_f q10_g (.nor q10_f' q10_g') := by
      rcases cnd_e h5 with ⟨h7, h5⟩ | ⟨h7, h5⟩
      · obtain ⟨r8, h9, h5⟩ := bnd_e h5
        have h5 := Option.some.inj h5
        subst h5
        exact Runs.path XTok PGmix [.r [.eq 30 (iA (r1.1.Nets.length : Int)), .b true, .val (bA r8), .b true]] [] (an (leni_eq e_Net r1.1.Nets) (an h7 (an (law_awake_ok r8 h9) h7))) (by kernel_rfl)
      · have h5 := Option.some.inj h5
        subst h5
        exact Runs.path XTok PGmix [.r [.eq 30 (iA (r1.1.Nets.length : Int)), .b false, .b false]] [] (an (leni_eq e_Net r1.1.Nets) (an h7 h7)) (by kernel_rfl)
    have h := Option.some.inj h
    subst h
    exact Spec.path XTok PGmix law_NetlistJoinedKeepsPins_fn 0 [.r [.id 0], .r [.val (.tup [gT (e_Netlist r1.1), iT r1.2]), .id 1], .r [], .b true, .s q10_f q10_g [] (.nor q10_f' q10_g')] (an (nl_Joined_ok a0 a1 a2 a3 r1 h2) (an h3 R6)) (by kernel_rfl)
  · obtain ⟨r11, h12, h⟩ := bnd_e h
    obtain ⟨r13, h14, h⟩ := bnd_e h
    obtain ⟨x15, h16, h⟩ := bnd_e h
    obtain ⟨r17, h18, h⟩ := bnd_e h
    obtain ⟨x19, h20, h⟩ := bnd_e h
    obtain ⟨v21, h22, h⟩ := bnd1_e h
    let q46_f : Fr := [(0, lA 2 (List.map e_PartType a0)), (7, .t (.v (.ptr 0 0))), (13, .t (.v (.ptr 1 0))), (15, lA 2 (List.map e_Pin r11)), (16, .t (.v (.ptr 2 0))), (17, .t (.v (.ptr 3 0)))]
    let q46_g : Hp := [(0, .cells 26 [.c (.sl 2 (List.map e_Part a1.Parts)), .c (.sl 3 (List.map e_Net a1.Nets))]), (1, .cells 26 [.c (.sl 2 (List.map e_Part r1.1.Parts)), .c (.sl 3 (List.map e_Net r1.1.Nets))]), (2, .cells 28 [.c (sC x15.Part), .c (sC x15.Pin)]), (3, .cells 28 [.c (sC x19.Part), .c (sC x19.Pin)])]
    let q46_f' : Fr := [(12, bA v21)]
    let q46_g' : Hp := []
    have R23 : Runs PG 87 0 (cL (cR (cR (cR (cR (cR law_NetlistJoinedKeepsPins_c)))))) q46_f q46_g (.nor q46_f' q46_g') := by
      rcases cnd_e h22 with ⟨h24, h22⟩ | ⟨h24, h22⟩
      · obtain ⟨r25, h26, h22⟩ := bnd_e h22
        obtain ⟨r27, h28, h22⟩ := bnd_e h22
        rcases cnd_e h22 with ⟨h29, h22⟩ | ⟨h29, h22⟩
        · obtain ⟨r30, h31, h22⟩ := bnd_e h22
          rcases cnd_e h22 with ⟨h32, h22⟩ | ⟨h32, h22⟩
          · obtain ⟨r33, h34, h22⟩ := bnd_e h22
            rcases cnd_e h22 with ⟨h35, h22⟩ | ⟨h35, h22⟩
            · obtain ⟨r36, h37, h22⟩ := bnd_e h22
              have h22 := Option.some.inj h22
              subst h22
              exact Runs.path XTok PGmix [.r [.eq 53 (iA (r1.1.Nets.length : Int)), .eq 56 (iA (a1.Nets.length : Int)), .b true, .b true, .b true, .val (lA 2 (List.map e_Pin r25)), .b true, .val (bA r27), .b true, .b true, .b true, .b true, .b true, .val (bA r30), .b true, .b true, .b true, .b true, .b true, .b true, .b true, .b true, .b true, .b true, .b true, .b true, .val (iA r33), .b true, .b true, .b true, .val (bA r36), .b true]] [] (an (leni_eq e_Net r1.1.Nets) (an (leni_eq e_Net a1.Nets) (an h24 (an h24 (an h24 (an (ref_AllPins_ok r1.1 r25 h26) (an h24 (an (slices_Equal_api_Pin_api_Pin_ok r11 r25 r27 h28) (an h24 (an h29 (an h29 (an h29 (an h29 (an (ref_Together_ok a1 x15 x19 r30 h31) (an h29 (an h29 (an h32 (an h32 (an h32 (an h32 (an h29 (an h32 (an h29 (an (Eq.refl true) (an (Eq.refl true) (an (Eq.refl true) (an (nl_CheckList_ok a0 r1.1 r33 h34) (an (Eq.refl true) (an (Eq.refl true) (an h35 (an (law_awake_ok r36 h37) h35))))))))))))))))))))))))))))))) (by kernel_rfl)
            · have h22 := Option.some.inj h22
              subst h22
              exact Runs.path XTok PGmix [.r [.eq 53 (iA (r1.1.Nets.length : Int)), .eq 56 (iA (a1.Nets.length : Int)), .b true, .b true, .b true, .val (lA 2 (List.map e_Pin r25)), .b true, .val (bA r27), .b true, .b true, .b true, .b true, .b true, .val (bA r30), .b true, .b true, .b true, .b true, .b true, .b true, .b true, .b true, .b true, .b true, .b true, .b true, .val (iA r33), .b true, .b true, .b false, .b false]] [] (an (leni_eq e_Net r1.1.Nets) (an (leni_eq e_Net a1.Nets) (an h24 (an h24 (an h24 (an (ref_AllPins_ok r1.1 r25 h26) (an h24 (an (slices_Equal_api_Pin_api_Pin_ok r11 r25 r27 h28) (an h24 (an h29 (an h29 (an h29 (an h29 (an (ref_Together_ok a1 x15 x19 r30 h31) (an h29 (an h29 (an h32 (an h32 (an h32 (an h32 (an h29 (an h32 (an h29 (an (Eq.refl true) (an (Eq.refl true) (an (Eq.refl true) (an (nl_CheckList_ok a0 r1.1 r33 h34) (an (Eq.refl true) (an (Eq.refl true) (an h35 h35)))))))))))))))))))))))))))))) (by kernel_rfl)
          · obtain ⟨r38, h39, h22⟩ := bnd_e h22
            rcases cnd_e h22 with ⟨h40, h22⟩ | ⟨h40, h22⟩
            · obtain ⟨r41, h42, h22⟩ := bnd_e h22
              rcases cnd_e h22 with ⟨h43, h22⟩ | ⟨h43, h22⟩
              · obtain ⟨r44, h45, h22⟩ := bnd_e h22
                have h22 := Option.some.inj h22
                subst h22
                exact Runs.path XTok PGmix [.r [.eq 53 (iA (r1.1.Nets.length : Int)), .eq 56 (iA (a1.Nets.length : Int)), .b true, .b true, .b true, .val (lA 2 (List.map e_Pin r25)), .b true, .val (bA r27), .b true, .b true, .b true, .b true, .b true, .val (bA r30), .b true, .b true, .b false, .b false, .b false, .b false, .val (bA r38), .b true, .b false, .b true, .b true, .b true, .b true, .val (iA r41), .b true, .b true, .b true, .val (bA r44), .b true]] [] (an (leni_eq e_Net r1.1.Nets) (an (leni_eq e_Net a1.Nets) (an h24 (an h24 (an h24 (an (ref_AllPins_ok r1.1 r25 h26) (an h24 (an (slices_Equal_api_Pin_api_Pin_ok r11 r25 r27 h28) (an h24 (an h29 (an h29 (an h29 (an h29 (an (ref_Together_ok a1 x15 x19 r30 h31) (an h29 (an h29 (an h32 (an h32 (an h32 (an h32 (an (ref_Together_ok r1.1 x15 x19 r38 h39) (an h29 (an h32 (an h29 (an h40 (an h40 (an h40 (an (nl_CheckList_ok a0 r1.1 r41 h42) (an h40 (an h40 (an h43 (an (law_awake_ok r44 h45) h43)))))))))))))))))))))))))))))))) (by kernel_rfl)
              · have h22 := Option.some.inj h22
                subst h22
                exact Runs.path XTok PGmix [.r [.eq 53 (iA (r1.1.Nets.length : Int)), .eq 56 (iA (a1.Nets.length : Int)), .b true, .b true, .b true, .val (lA 2 (List.map e_Pin r25)), .b true, .val (bA r27), .b true, .b true, .b true, .b true, .b true, .val (bA r30), .b true, .b true, .b false, .b false, .b false, .b false, .val (bA r38), .b true, .b false, .b true, .b true, .b true, .b true, .val (iA r41), .b true, .b true, .b false, .b false]] [] (an (leni_eq e_Net r1.1.Nets) (an (leni_eq e_Net a1.Nets) (an h24 (an h24 (an h24 (an (ref_AllPins_ok r1.1 r25 h26) (an h24 (an (slices_Equal_api_Pin_api_Pin_ok r11 r25 r27 h28) (an h24 (an h29 (an h29 (an h29 (an h29 (an (ref_Together_ok a1 x15 x19 r30 h31) (an h29 (an h29 (an h32 (an h32 (an h32 (an h32 (an (ref_Together_ok r1.1 x15 x19 r38 h39) (an h29 (an h32 (an h29 (an h40 (an h40 (an h40 (an (nl_CheckList_ok a0 r1.1 r41 h42) (an h40 (an h40 (an h43 h43))))))))))))))))))))))))))))))) (by kernel_rfl)
            · have h22 := Option.some.inj h22
              subst h22
              exact Runs.path XTok PGmix [.r [.eq 53 (iA (r1.1.Nets.length : Int)), .eq 56 (iA (a1.Nets.length : Int)), .b true, .b true, .b true, .val (lA 2 (List.map e_Pin r25)), .b true, .val (bA r27), .b true, .b true, .b true, .b true, .b true, .val (bA r30), .b true, .b true, .b false, .b false, .b false, .b false, .val (bA r38), .b true, .b false, .b true, .b false, .b false, .b false, .b false, .b false, .b false, .b false]] [] (an (leni_eq e_Net r1.1.Nets) (an (leni_eq e_Net a1.Nets) (an h24 (an h24 (an h24 (an (ref_AllPins_ok r1.1 r25 h26) (an h24 (an (slices_Equal_api_Pin_api_Pin_ok r11 r25 r27 h28) (an h24 (an h29 (an h29 (an h29 (an h29 (an (ref_Together_ok a1 x15 x19 r30 h31) (an h29 (an h29 (an h32 (an h32 (an h32 (an h32 (an (ref_Together_ok r1.1 x15 x19 r38 h39) (an h29 (an h32 (an h29 (an h40 (an h40 (an h40 (an h40 (an h40 (an (Eq.refl false) (Eq.refl false))))))))))))))))))))))))))))))) (by kernel_rfl)
        · have h22 := Option.some.inj h22
          subst h22
          exact Runs.path XTok PGmix [.r [.eq 53 (iA (r1.1.Nets.length : Int)), .eq 56 (iA (a1.Nets.length : Int)), .b true, .b true, .b true, .val (lA 2 (List.map e_Pin r25)), .b true, .val (bA r27), .b true, .b false, .b false, .b false, .b false, .b false, .b false, .b false, .b false, .b false, .b false, .b false, .b false, .b false, .b false, .b false]] [] (an (leni_eq e_Net r1.1.Nets) (an (leni_eq e_Net a1.Nets) (an h24 (an h24 (an h24 (an (ref_AllPins_ok r1.1 r25 h26) (an h24 (an (slices_Equal_api_Pin_api_Pin_ok r11 r25 r27 h28) (an h24 (an h29 (an h29 (an h29 (an h29 (an h29 (an h29 (an h29 (an h29 (an (Eq.refl false) (an (Eq.refl false) (an (Eq.refl false) (an (Eq.refl false) (an (Eq.refl false) (an (Eq.refl false) (Eq.refl false)))))))))))))))))))))))) (by kernel_rfl)
      · have h22 := Option.some.inj h22
        subst h22
        exact Runs.path XTok PGmix [.r [.eq 53 (iA (r1.1.Nets.length : Int)), .eq 56 (iA (a1.Nets.length : Int)), .b false, .b false, .b false, .b false, .b false, .b false, .b false, .b false, .b false, .b false, .b false, .b false, .b false, .b false, .b false, .b false, .b false, .b false, .b false, .b false]] [] (an (leni_eq e_Net r1.1.Nets) (an (leni_eq e_Net a1.Nets) (an h24 (an h24 (an h24 (an h24 (an h24 (an (Eq.refl false) (an (Eq.refl false) (an (Eq.refl false) (an (Eq.refl false) (an (Eq.refl false) (an (Eq.refl false) (an (Eq.refl false) (an (Eq.refl false) (an (Eq.refl false) (an (Eq.refl false) (an (Eq.refl false) (an (Eq.refl false) (an (Eq.refl false) (an (Eq.refl false) (Eq.refl false)))))))))))))))))))))) (by kernel_rfl)
    have h := Option.some.inj h
    subst h
    exact Spec.path XTok PGmix law_NetlistJoinedKeepsPins_fn 0 [.r [.id 0], .r [.val (.tup [gT (e_Netlist r1.1), iT r1.2]), .id 1], .r [], .b false, .r [.val (lA 2 (List.map e_Pin r11))], .d [([], []), ([], []), ([], []), ([], [.eq 40 (iA (r11.length : Int))]), ([], [.val (iA r13)]), ([], [.el (e_Pin x15)]), ([], []), ([], []), ([], []), ([], []), ([], [.eq 47 (iA (r11.length : Int))]), ([], [.val (iA r17)]), ([], [.el (e_Pin x19)]), ([], []), ([], [.id 2]), ([], [.id 3]), ([2], []), ([3], [])], .s q46_f q46_g [] (.nor q46_f' q46_g')] (an (nl_Joined_ok a0 a1 a2 a3 r1 h2) (an h3 (an (ref_AllPins_ok a1 r11 h12) (an (leni_eq e_Pin r11) (an (ref_Below_ok a4 (r11.length : Int) r13 h14) (an (idx_ok e_Pin h16) (an (leni_eq e_Pin r11) (an (ref_Below_ok a5 (r11.length : Int) r17 h18) (an (idx_ok e_Pin h20) R23))))))))) (by kernel_rfl)
end Go.Proofs.YtlbndchfmdogeaaDoor.Sym
