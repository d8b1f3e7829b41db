/- Printed by gen2.py: the plain forms of functions, and that calling them gives what these give. Conditions: none. -/
import Derived.Test.YtlbndchfmdogeaaDoorWf3
set_option linter.unusedVariables false
set_option maxHeartbeats 4000000
namespace Go.Proofs.YtlbndchfmdogeaaDoor.Sym
open Go Go.RowKit
noncomputable def law_NetlistWithoutMatchesSpec_c : Code := (Go.Proofs.Tryd.f8.body).getD .skip
theorem law_NetlistWithoutMatchesSpec_fn : FnOk PG 8 law_NetlistWithoutMatchesSpec_c 36 [.tmp 6] := ⟨⟨Go.Proofs.Tryd.f8, by kernel_rfl, by kernel_rfl, by kernel_rfl, by kernel_rfl, by kernel_rfl⟩⟩
noncomputable def law_NetlistWithoutMatchesSpec (a0 : List PartType) (a1 : Netlist) (a2 : List ByteArray) : Option Bool :=
 bnd (nl_Without a0 a1 a2) fun r1 =>
 bnd (ref_Without a0 a1 a2) fun r3 =>
 bnd1 (cnd (r1.2 == r3.2) (bnd (ref_Same r1.1 r3.1) fun r9 =>
 cnd r9 (bnd (law_awake ) fun r12 =>
 some r12) (some false)) (some false)) fun v5 =>
 some v5
theorem law_NetlistWithoutMatchesSpec_ok (a0 : List PartType) (a1 : Netlist) (a2 : List ByteArray) (r : Bool) (h : law_NetlistWithoutMatchesSpec a0 a1 a2 = some r) : Spec PG 8 [lT 2 (List.map e_PartType a0), gT (e_Netlist a1), lT 1 (List.map e_str a2)] [] (bA r) [] := by
  unfold law_NetlistWithoutMatchesSpec at h
  obtain ⟨r1, h2, h⟩ := bnd_e h
  obtain ⟨r3, h4, h⟩ := bnd_e h
  obtain ⟨v5, h6, h⟩ := bnd1_e h
  let q14_f : Fr := [(7, .t (.v (.ptr 1 0))), (8, iA r1.2), (9, .t (.v (.ptr 2 0))), (10, iA r3.2)]
  let q14_g : Hp := [(1, .cells 26 [.c (.sl 2 (List.map e_Part r1.1.Parts)), .c (.sl 3 (List.map e_Net r1.1.Nets))]), (2, .cells 26 [.c (.sl 2 (List.map e_Part r3.1.Parts)), .c (.sl 3 (List.map e_Net r3.1.Nets))])]
  let q14_f' : Fr := [(6, bA v5)]
  let q14_g' : Hp := []
  have R7 : Runs PG 36 0 (cL (cR (cR (cR law_NetlistWithoutMatchesSpec_c)))) q14_f q14_g (.nor q14_f' q14_g') := by
    rcases cnd_e h6 with ⟨h8, h6⟩ | ⟨h8, h6⟩
    · obtain ⟨r9, h10, h6⟩ := bnd_e h6
      rcases cnd_e h6 with ⟨h11, h6⟩ | ⟨h11, h6⟩
      · obtain ⟨r12, h13, h6⟩ := bnd_e h6
        have h6 := Option.some.inj h6
        subst h6
        exact Runs.path XTok PGmix [.r [.b true, .b true, .b true, .val (bA r9), .b true, .b true, .val (bA r12), .b true]] [] (an h8 (an h8 (an h8 (an (ref_Same_ok r1.1 r3.1 r9 h10) (an h8 (an h11 (an (law_awake_ok r12 h13) h11))))))) (by kernel_rfl)
      · have h6 := Option.some.inj h6
        subst h6
        exact Runs.path XTok PGmix [.r [.b true, .b true, .b true, .val (bA r9), .b true, .b false, .b false]] [] (an h8 (an h8 (an h8 (an (ref_Same_ok r1.1 r3.1 r9 h10) (an h8 (an h11 h11)))))) (by kernel_rfl)
    · have h6 := Option.some.inj h6
      subst h6
      exact Runs.path XTok PGmix [.r [.b false, .b false, .b false, .b false, .b false, .b false]] [] (an h8 (an h8 (an h8 (an h8 (an (Eq.refl false) (Eq.refl false)))))) (by kernel_rfl)
  have h := Option.some.inj h
  subst h
  exact Spec.path XTok PGmix law_NetlistWithoutMatchesSpec_fn 0 [.r [.id 0], .r [.val (.tup [gT (e_Netlist r1.1), iT r1.2]), .id 1], .r [.val (.tup [gT (e_Netlist r3.1), iT r3.2]), .id 2], .s q14_f q14_g [] (.nor q14_f' q14_g')] (an (nl_Without_ok a0 a1 a2 r1 h2) (an (ref_Without_ok a0 a1 a2 r3 h4) R7)) (by kernel_rfl)
end Go.Proofs.YtlbndchfmdogeaaDoor.Sym
