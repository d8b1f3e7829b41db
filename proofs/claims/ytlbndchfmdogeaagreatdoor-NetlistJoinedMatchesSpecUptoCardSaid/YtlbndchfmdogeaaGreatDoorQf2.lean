/- Printed by gen2.py: the plain forms of functions, and that calling them gives what these give. Conditions: none. -/
import Derived.Test.YtlbndchfmdogeaaGreatDoorQf1
set_option linter.unusedVariables false
set_option maxHeartbeats 4000000
namespace Go.Proofs.YtlbndchfmdogeaaGreatDoor.Sym
open Go Go.RowKit
noncomputable def ref_IsWord_c : Code := (Go.Proofs.Tryz.f101.body).getD .skip
theorem ref_IsWord_fn : FnOk PG 101 ref_IsWord_c 44 [.tmp 2] := ⟨⟨Go.Proofs.Tryz.f101, by kernel_rfl, by kernel_rfl, by kernel_rfl, by kernel_rfl, by kernel_rfl⟩⟩
noncomputable def ref_IsWord_c0 : Code := cL (cL (cR (cL (cR ref_IsWord_c))))
noncomputable def ref_IsWord_R (r : Bool) : Oc := .ret [(2, bA r)] []
noncomputable def ref_IsWord_F0 (a0 : ByteArray) (i1 : Nat) : Fr := [(0, sA a0), (5, sA a0), (6, iA (a0.size : Int)), (7, iA (i1 : Int))]
noncomputable def ref_IsWord_H0 (a0 : ByteArray) (i1 : Nat) : Hp := []
noncomputable def ref_IsWord_B0 (a0 : ByteArray) (s : Unit) : Oc := .ex 0 [(0, sA a0)] []
noncomputable def ref_IsWord_b0 (a0 : ByteArray) (i1 : Nat) : Option (Stp Unit Bool) :=
 grd ((0 : Int) ≤ (i1 : Int) ∧ (i1 : Int) < (a0.size : Int)) <|
 bnd1 (cnd (decide ((bt a0 (i1 : Int)) < 97)) (cnd (decide ((bt a0 (i1 : Int)) < 65)) (cnd (decide ((bt a0 (i1 : Int)) < 48)) (bnd (h_IndexByte (⟨#[95, 43, 45, 35]⟩ : ByteArray) (bt a0 (i1 : Int))) fun r9 =>
 some (decide (r9 < 0))) (cnd (decide ((bt a0 (i1 : Int)) > 57)) (bnd (h_IndexByte (⟨#[95, 43, 45, 35]⟩ : ByteArray) (bt a0 (i1 : Int))) fun r12 =>
 some (decide (r12 < 0))) (some false))) (cnd (decide ((bt a0 (i1 : Int)) > 90)) (cnd (decide ((bt a0 (i1 : Int)) < 48)) (bnd (h_IndexByte (⟨#[95, 43, 45, 35]⟩ : ByteArray) (bt a0 (i1 : Int))) fun r16 =>
 some (decide (r16 < 0))) (cnd (decide ((bt a0 (i1 : Int)) > 57)) (bnd (h_IndexByte (⟨#[95, 43, 45, 35]⟩ : ByteArray) (bt a0 (i1 : Int))) fun r19 =>
 some (decide (r19 < 0))) (some false))) (some false))) (cnd (decide ((bt a0 (i1 : Int)) > 122)) (cnd (decide ((bt a0 (i1 : Int)) < 65)) (cnd (decide ((bt a0 (i1 : Int)) < 48)) (bnd (h_IndexByte (⟨#[95, 43, 45, 35]⟩ : ByteArray) (bt a0 (i1 : Int))) fun r24 =>
 some (decide (r24 < 0))) (cnd (decide ((bt a0 (i1 : Int)) > 57)) (bnd (h_IndexByte (⟨#[95, 43, 45, 35]⟩ : ByteArray) (bt a0 (i1 : Int))) fun r27 =>
 some (decide (r27 < 0))) (some false))) (cnd (decide ((bt a0 (i1 : Int)) > 90)) (cnd (decide ((bt a0 (i1 : Int)) < 48)) (bnd (h_IndexByte (⟨#[95, 43, 45, 35]⟩ : ByteArray) (bt a0 (i1 : Int))) fun r31 =>
 some (decide (r31 < 0))) (cnd (decide ((bt a0 (i1 : Int)) > 57)) (bnd (h_IndexByte (⟨#[95, 43, 45, 35]⟩ : ByteArray) (bt a0 (i1 : Int))) fun r34 =>
 some (decide (r34 < 0))) (some false))) (some false))) (some false))) fun v3 =>
 cnd v3 (some (.ret false)) (some (.go ()))
theorem ref_IsWord_b0_r (a0 : ByteArray) (i1 : Nat) (o : Stp Unit Bool) (hi : i1 < a0.size) (h : ref_IsWord_b0 a0 i1 = some o) :
    Runs PG 44 0 ref_IsWord_c0 (ref_IsWord_F0 a0 i1 ) (ref_IsWord_H0 a0 i1 ) (stpOc (fun s' => .nor (ref_IsWord_F0 a0 (i1 + 1) ) (ref_IsWord_H0 a0 (i1 + 1) )) (ref_IsWord_B0 a0) ref_IsWord_R o) := by
  unfold ref_IsWord_b0 at h
  refine Runs.slen (s := 5) (b := a0) (by kernel_rfl) fun hM => ?_
  obtain ⟨h2, h⟩ := grd_e h
  obtain ⟨v3, h4, h⟩ := bnd1_e h
  let q36_f : Fr := [(0, sA a0), (4, .t (.v (.c (.v (.int .u8 (bt a0 (i1 : Int))))))), (5, sA a0), (6, iA (a0.size : Int)), (7, iA (i1 : Int))]
  let q36_g : Hp := []
  let q36_f' : Fr := [(0, sA a0), (5, sA a0), (6, iA (a0.size : Int)), (7, iA (i1 : Int)), (39, bA v3)]
  let q36_g' : Hp := []
  have R5 : Runs PG 44 0 (cL (cR (cR (cL (cL (cR (cR ref_IsWord_c0))))))) q36_f q36_g (.nor q36_f' q36_g') := by
    rcases cnd_e h4 with ⟨h6, h4⟩ | ⟨h6, h4⟩
    · rcases cnd_e h4 with ⟨h7, h4⟩ | ⟨h7, h4⟩
      · rcases cnd_e h4 with ⟨h8, h4⟩ | ⟨h8, h4⟩
        · obtain ⟨r9, h10, h4⟩ := bnd_e h4
          have h4 := Option.some.inj h4
          subst h4
          exact Runs.path XTok PGmix [.r [.b true, .b true, .b true, .b true, .b true, .b true, .b true, .b true, .b true, .b true, .b true, .b true, .b true, .b true, .b true, .b true, .b true, .b true, .b true, .b true, .b true, .val (iA r9), .b true, .b true]] [] (an h6 (an h6 (an h6 (an (Eq.refl true) (an (Eq.refl true) (an (Eq.refl true) (an h7 (an h7 (an (Eq.refl true) (an h7 (an (Eq.refl true) (an (Eq.refl true) (an (Eq.refl true) (an (Eq.refl true) (an h8 (an h8 (an (Eq.refl true) (an h8 (an (Eq.refl true) (an (Eq.refl true) (an (Eq.refl true) (an (h_IndexByte_ok (⟨#[95, 43, 45, 35]⟩ : ByteArray) (bt a0 (i1 : Int)) r9 h10) (an (Eq.refl true) (Eq.refl true)))))))))))))))))))))))) (by kernel_rfl)
        · rcases cnd_e h4 with ⟨h11, h4⟩ | ⟨h11, h4⟩
          · obtain ⟨r12, h13, h4⟩ := bnd_e h4
            have h4 := Option.some.inj h4
            subst h4
            exact Runs.path XTok PGmix [.r [.b true, .b true, .b true, .b true, .b true, .b true, .b true, .b true, .b true, .b true, .b true, .b true, .b true, .b true, .b false, .b false, .b true, .b false, .b true, .b true, .b true, .val (iA r12), .b true, .b true]] [] (an h6 (an h6 (an h6 (an (Eq.refl true) (an (Eq.refl true) (an (Eq.refl true) (an h7 (an h7 (an (Eq.refl true) (an h7 (an (Eq.refl true) (an (Eq.refl true) (an (Eq.refl true) (an (Eq.refl true) (an h8 (an h8 (an (Eq.refl true) (an h8 (an (Eq.refl true) (an h11 (an h11 (an (h_IndexByte_ok (⟨#[95, 43, 45, 35]⟩ : ByteArray) (bt a0 (i1 : Int)) r12 h13) (an h11 h11))))))))))))))))))))))) (by kernel_rfl)
          · have h4 := Option.some.inj h4
            subst h4
            exact Runs.path XTok PGmix [.r [.b true, .b true, .b true, .b true, .b true, .b true, .b true, .b true, .b true, .b true, .b true, .b true, .b true, .b true, .b false, .b false, .b true, .b false, .b true, .b false, .b false, .b false, .b false]] [] (an h6 (an h6 (an h6 (an (Eq.refl true) (an (Eq.refl true) (an (Eq.refl true) (an h7 (an h7 (an (Eq.refl true) (an h7 (an (Eq.refl true) (an (Eq.refl true) (an (Eq.refl true) (an (Eq.refl true) (an h8 (an h8 (an (Eq.refl true) (an h8 (an (Eq.refl true) (an h11 (an h11 (an h11 h11)))))))))))))))))))))) (by kernel_rfl)
      · rcases cnd_e h4 with ⟨h14, h4⟩ | ⟨h14, h4⟩
        · rcases cnd_e h4 with ⟨h15, h4⟩ | ⟨h15, h4⟩
          · obtain ⟨r16, h17, h4⟩ := bnd_e h4
            have h4 := Option.some.inj h4
            subst h4
            exact Runs.path XTok PGmix [.r [.b true, .b true, .b true, .b true, .b true, .b true, .b false, .b false, .b true, .b false, .b true, .b true, .b true, .b true, .b true, .b true, .b true, .b true, .b true, .b true, .b true, .val (iA r16), .b true, .b true]] [] (an h6 (an h6 (an h6 (an (Eq.refl true) (an (Eq.refl true) (an (Eq.refl true) (an h7 (an h7 (an (Eq.refl true) (an h7 (an (Eq.refl true) (an h14 (an h14 (an h14 (an h15 (an h15 (an h14 (an h15 (an h14 (an (Eq.refl true) (an (Eq.refl true) (an (h_IndexByte_ok (⟨#[95, 43, 45, 35]⟩ : ByteArray) (bt a0 (i1 : Int)) r16 h17) (an (Eq.refl true) (Eq.refl true)))))))))))))))))))))))) (by kernel_rfl)
          · rcases cnd_e h4 with ⟨h18, h4⟩ | ⟨h18, h4⟩
            · obtain ⟨r19, h20, h4⟩ := bnd_e h4
              have h4 := Option.some.inj h4
              subst h4
              exact Runs.path XTok PGmix [.r [.b true, .b true, .b true, .b true, .b true, .b true, .b false, .b false, .b true, .b false, .b true, .b true, .b true, .b true, .b false, .b false, .b true, .b false, .b true, .b true, .b true, .val (iA r19), .b true, .b true]] [] (an h6 (an h6 (an h6 (an (Eq.refl true) (an (Eq.refl true) (an (Eq.refl true) (an h7 (an h7 (an (Eq.refl true) (an h7 (an (Eq.refl true) (an h14 (an h14 (an h14 (an h15 (an h15 (an h14 (an h15 (an h14 (an h18 (an h18 (an (h_IndexByte_ok (⟨#[95, 43, 45, 35]⟩ : ByteArray) (bt a0 (i1 : Int)) r19 h20) (an h18 h18))))))))))))))))))))))) (by kernel_rfl)
            · have h4 := Option.some.inj h4
              subst h4
              exact Runs.path XTok PGmix [.r [.b true, .b true, .b true, .b true, .b true, .b true, .b false, .b false, .b true, .b false, .b true, .b true, .b true, .b true, .b false, .b false, .b true, .b false, .b true, .b false, .b false, .b false, .b false]] [] (an h6 (an h6 (an h6 (an (Eq.refl true) (an (Eq.refl true) (an (Eq.refl true) (an h7 (an h7 (an (Eq.refl true) (an h7 (an (Eq.refl true) (an h14 (an h14 (an h14 (an h15 (an h15 (an h14 (an h15 (an h14 (an h18 (an h18 (an h18 h18)))))))))))))))))))))) (by kernel_rfl)
        · have h4 := Option.some.inj h4
          subst h4
          exact Runs.path XTok PGmix [.r [.b true, .b true, .b true, .b true, .b true, .b true, .b false, .b false, .b true, .b false, .b true, .b false, .b false, .b false, .b false, .b false, .b false, .b false, .b false, .b false]] [] (an h6 (an h6 (an h6 (an (Eq.refl true) (an (Eq.refl true) (an (Eq.refl true) (an h7 (an h7 (an (Eq.refl true) (an h7 (an (Eq.refl true) (an h14 (an h14 (an h14 (an h14 (an h14 (an (Eq.refl false) (an (Eq.refl false) (an (Eq.refl false) (Eq.refl false)))))))))))))))))))) (by kernel_rfl)
    · rcases cnd_e h4 with ⟨h21, h4⟩ | ⟨h21, h4⟩
      · rcases cnd_e h4 with ⟨h22, h4⟩ | ⟨h22, h4⟩
        · rcases cnd_e h4 with ⟨h23, h4⟩ | ⟨h23, h4⟩
          · obtain ⟨r24, h25, h4⟩ := bnd_e h4
            have h4 := Option.some.inj h4
            subst h4
            exact Runs.path XTok PGmix [.r [.b false, .b false, .b false, .b true, .b true, .b true, .b true, .b true, .b true, .b true, .b true, .b true, .b true, .b true, .b true, .b true, .b true, .b true, .b true, .b true, .b true, .val (iA r24), .b true, .b true]] [] (an h6 (an h6 (an h6 (an h21 (an h21 (an h21 (an h22 (an h22 (an h21 (an h22 (an h21 (an (Eq.refl true) (an (Eq.refl true) (an (Eq.refl true) (an h23 (an h23 (an (Eq.refl true) (an h23 (an (Eq.refl true) (an (Eq.refl true) (an (Eq.refl true) (an (h_IndexByte_ok (⟨#[95, 43, 45, 35]⟩ : ByteArray) (bt a0 (i1 : Int)) r24 h25) (an (Eq.refl true) (Eq.refl true)))))))))))))))))))))))) (by kernel_rfl)
          · rcases cnd_e h4 with ⟨h26, h4⟩ | ⟨h26, h4⟩
            · obtain ⟨r27, h28, h4⟩ := bnd_e h4
              have h4 := Option.some.inj h4
              subst h4
              exact Runs.path XTok PGmix [.r [.b false, .b false, .b false, .b true, .b true, .b true, .b true, .b true, .b true, .b true, .b true, .b true, .b true, .b true, .b false, .b false, .b true, .b false, .b true, .b true, .b true, .val (iA r27), .b true, .b true]] [] (an h6 (an h6 (an h6 (an h21 (an h21 (an h21 (an h22 (an h22 (an h21 (an h22 (an h21 (an (Eq.refl true) (an (Eq.refl true) (an (Eq.refl true) (an h23 (an h23 (an (Eq.refl true) (an h23 (an (Eq.refl true) (an h26 (an h26 (an (h_IndexByte_ok (⟨#[95, 43, 45, 35]⟩ : ByteArray) (bt a0 (i1 : Int)) r27 h28) (an h26 h26))))))))))))))))))))))) (by kernel_rfl)
            · have h4 := Option.some.inj h4
              subst h4
              exact Runs.path XTok PGmix [.r [.b false, .b false, .b false, .b true, .b true, .b true, .b true, .b true, .b true, .b true, .b true, .b true, .b true, .b true, .b false, .b false, .b true, .b false, .b true, .b false, .b false, .b false, .b false]] [] (an h6 (an h6 (an h6 (an h21 (an h21 (an h21 (an h22 (an h22 (an h21 (an h22 (an h21 (an (Eq.refl true) (an (Eq.refl true) (an (Eq.refl true) (an h23 (an h23 (an (Eq.refl true) (an h23 (an (Eq.refl true) (an h26 (an h26 (an h26 h26)))))))))))))))))))))) (by kernel_rfl)
        · rcases cnd_e h4 with ⟨h29, h4⟩ | ⟨h29, h4⟩
          · rcases cnd_e h4 with ⟨h30, h4⟩ | ⟨h30, h4⟩
            · obtain ⟨r31, h32, h4⟩ := bnd_e h4
              have h4 := Option.some.inj h4
              subst h4
              exact Runs.path XTok PGmix [.r [.b false, .b false, .b false, .b true, .b true, .b true, .b false, .b false, .b true, .b false, .b true, .b true, .b true, .b true, .b true, .b true, .b true, .b true, .b true, .b true, .b true, .val (iA r31), .b true, .b true]] [] (an h6 (an h6 (an h6 (an h21 (an h21 (an h21 (an h22 (an h22 (an h21 (an h22 (an h21 (an h29 (an h29 (an h29 (an h30 (an h30 (an h29 (an h30 (an h29 (an (Eq.refl true) (an (Eq.refl true) (an (h_IndexByte_ok (⟨#[95, 43, 45, 35]⟩ : ByteArray) (bt a0 (i1 : Int)) r31 h32) (an (Eq.refl true) (Eq.refl true)))))))))))))))))))))))) (by kernel_rfl)
            · rcases cnd_e h4 with ⟨h33, h4⟩ | ⟨h33, h4⟩
              · obtain ⟨r34, h35, h4⟩ := bnd_e h4
                have h4 := Option.some.inj h4
                subst h4
                exact Runs.path XTok PGmix [.r [.b false, .b false, .b false, .b true, .b true, .b true, .b false, .b false, .b true, .b false, .b true, .b true, .b true, .b true, .b false, .b false, .b true, .b false, .b true, .b true, .b true, .val (iA r34), .b true, .b true]] [] (an h6 (an h6 (an h6 (an h21 (an h21 (an h21 (an h22 (an h22 (an h21 (an h22 (an h21 (an h29 (an h29 (an h29 (an h30 (an h30 (an h29 (an h30 (an h29 (an h33 (an h33 (an (h_IndexByte_ok (⟨#[95, 43, 45, 35]⟩ : ByteArray) (bt a0 (i1 : Int)) r34 h35) (an h33 h33))))))))))))))))))))))) (by kernel_rfl)
              · have h4 := Option.some.inj h4
                subst h4
                exact Runs.path XTok PGmix [.r [.b false, .b false, .b false, .b true, .b true, .b true, .b false, .b false, .b true, .b false, .b true, .b true, .b true, .b true, .b false, .b false, .b true, .b false, .b true, .b false, .b false, .b false, .b false]] [] (an h6 (an h6 (an h6 (an h21 (an h21 (an h21 (an h22 (an h22 (an h21 (an h22 (an h21 (an h29 (an h29 (an h29 (an h30 (an h30 (an h29 (an h30 (an h29 (an h33 (an h33 (an h33 h33)))))))))))))))))))))) (by kernel_rfl)
          · have h4 := Option.some.inj h4
            subst h4
            exact Runs.path XTok PGmix [.r [.b false, .b false, .b false, .b true, .b true, .b true, .b false, .b false, .b true, .b false, .b true, .b false, .b false, .b false, .b false, .b false, .b false, .b false, .b false, .b false]] [] (an h6 (an h6 (an h6 (an h21 (an h21 (an h21 (an h22 (an h22 (an h21 (an h22 (an h21 (an h29 (an h29 (an h29 (an h29 (an h29 (an (Eq.refl false) (an (Eq.refl false) (an (Eq.refl false) (Eq.refl false)))))))))))))))))))) (by kernel_rfl)
      · have h4 := Option.some.inj h4
        subst h4
        exact Runs.path XTok PGmix [.r [.b false, .b false, .b false, .b false, .b false, .b false, .b false, .b false, .b false, .b false, .b false, .b false, .b false, .b false, .b false, .b false, .b false]] [] (an h6 (an h6 (an h6 (an h21 (an h21 (an h21 (an h21 (an h21 (an (Eq.refl false) (an (Eq.refl false) (an (Eq.refl false) (an (Eq.refl false) (an (Eq.refl false) (an (Eq.refl false) (an (Eq.refl false) (an (Eq.refl false) (Eq.refl false))))))))))))))))) (by kernel_rfl)
  rcases cnd_e h with ⟨h37, h⟩ | ⟨h37, h⟩
  · have h := Option.some.inj h
    subst h
    exact Runs.path XTok PGmix [.r [], .b true, .r [], .r [], .s q36_f q36_g [] (.nor q36_f' q36_g'), .b true, .r []] [] (an (lt_true hi) (an h2 (an R5 h37))) (by kernel_rfl)
  · have h := Option.some.inj h
    subst h
    exact Runs.path XTok PGmix [.r [], .b true, .r [], .r [], .s q36_f q36_g [] (.nor q36_f' q36_g'), .b false, .r [.eq 40 (iA ((i1 + 1 : Nat) : Int))]] [] (an (lt_true hi) (an h2 (an R5 (an h37 (wrap_eq hi hM))))) (by kernel_rfl)
theorem ref_IsWord_b0_e (a0 : ByteArray) : Runs PG 44 0 ref_IsWord_c0 (ref_IsWord_F0 a0 (a0.size) ) (ref_IsWord_H0 a0 (a0.size) ) (ref_IsWord_B0 a0 ()) := by
  exact Runs.path XTok PGmix [.r [], .b false] [] (lt_false (a0.size)) (by kernel_rfl)
theorem ref_IsWord_l0 (a0 : ByteArray) (r : Fin' Unit Bool) (h : forN (fun i1 s => ref_IsWord_b0 a0 i1 ) (a0.size) 0 () = some r) : Runs PG 44 0 (cL (cR (cL (cR ref_IsWord_c)))) (ref_IsWord_F0 a0 0 ) (ref_IsWord_H0 a0 0 ) (finOc (ref_IsWord_B0 a0) ref_IsWord_R r) :=
  Runs.loop' (by kernel_rfl) (forN_rounds (σ := Unit) (ρ := Bool) (body := fun i1 s => ref_IsWord_b0 a0 i1 ) (F := fun i1 s => ref_IsWord_F0 a0 i1 ) (H := fun i1 s => ref_IsWord_H0 a0 i1 ) (B := ref_IsWord_B0 a0) (R := ref_IsWord_R) (M := a0.size) (fun _ => rfl) (fun _ => rfl) (fun s => ref_IsWord_b0_e a0 ) (fun i s o hi h => ref_IsWord_b0_r a0 i o hi h) _ 0 _ r (Nat.zero_add _) h)
noncomputable def ref_IsWord (a0 : ByteArray) : Option Bool :=
 aft0 (forN (fun i1 s => ref_IsWord_b0 a0 i1 ) (a0.size) 0 ()) (
 bnd (ref_within (a0.size : Int) 1 40) fun r40 =>
 some r40)
 (fun r39 =>
 some r39)
theorem ref_IsWord_ok (a0 : ByteArray) (r : Bool) (h : ref_IsWord a0 = some r) : Spec PG 101 [sT a0] [] (bA r) [] := by
  unfold ref_IsWord at h
  rcases aft0_e h with ⟨h38, h⟩ | ⟨r39, h38, h⟩
  · obtain ⟨r40, h41, h⟩ := bnd_e h
    have h := Option.some.inj h
    subst h
    exact Spec.path XTok PGmix ref_IsWord_fn 0 [.r [], .r [], .s (ref_IsWord_F0 a0 0 ) (ref_IsWord_H0 a0 0 ) [] (ref_IsWord_B0 a0 ()), .r [.val (bA r40)]] (an (ref_IsWord_l0 a0 (.fin ()) h38) (ref_within_ok (a0.size : Int) 1 40 r40 h41)) (by kernel_rfl)
  · have h := Option.some.inj h
    subst h
    exact Spec.path XTok PGmix ref_IsWord_fn 0 [.r [], .r [], .s (ref_IsWord_F0 a0 0 ) (ref_IsWord_H0 a0 0 ) [] (ref_IsWord_R r39)] (ref_IsWord_l0 a0 (.ret r39) h38) (by kernel_rfl)

noncomputable def ref_IsPath_c : Code := (Go.Proofs.Tryz.f76.body).getD .skip
theorem ref_IsPath_fn : FnOk PG 76 ref_IsPath_c 19 [.tmp 2] := ⟨⟨Go.Proofs.Tryz.f76, by kernel_rfl, by kernel_rfl, by kernel_rfl, by kernel_rfl, by kernel_rfl⟩⟩
noncomputable def ref_IsPath_c0 : Code := cL (cL (cR (cL (cR ref_IsPath_c))))
noncomputable def ref_IsPath_R (r : Bool) : Oc := .ret [(2, bA r)] []
noncomputable def ref_IsPath_F0 (a0 : ByteArray) (r1 : List ByteArray) (i3 : Nat) : Fr := [(0, sA a0), (6, lA 1 (List.map e_str r1)), (7, iA (r1.length : Int)), (8, iA (i3 : Int))]
noncomputable def ref_IsPath_H0 (a0 : ByteArray) (r1 : List ByteArray) (i3 : Nat) : Hp := []
noncomputable def ref_IsPath_B0 (a0 : ByteArray) (r1 : List ByteArray) (s : Unit) : Oc := .ex 0 [(0, sA a0)] []
noncomputable def ref_IsPath_b0 (a0 : ByteArray) (r1 : List ByteArray) (i3 : Nat) : Option (Stp Unit Bool) :=
 bnd (atI r1 (i3 : Int)) fun x4 =>
 bnd (ref_IsWord x4) fun r6 =>
 cnd (!r6) (some (.ret false)) (some (.go ()))
theorem ref_IsPath_b0_r (a0 : ByteArray) (r1 : List ByteArray) (i3 : Nat) (o : Stp Unit Bool) (hi : i3 < r1.length) (h : ref_IsPath_b0 a0 r1 i3 = some o) :
    Runs PG 19 0 ref_IsPath_c0 (ref_IsPath_F0 a0 r1 i3 ) (ref_IsPath_H0 a0 r1 i3 ) (stpOc (fun s' => .nor (ref_IsPath_F0 a0 r1 (i3 + 1) ) (ref_IsPath_H0 a0 r1 (i3 + 1) )) (ref_IsPath_B0 a0 r1) ref_IsPath_R o) := by
  unfold ref_IsPath_b0 at h
  refine Runs.len (s := 6) (sz := 1) (xs := List.map e_str r1) (by kernel_rfl) fun hl => ?_
  have hM : r1.length ≤ lim := len_of hl
  obtain ⟨x4, h5, h⟩ := bnd_e h
  obtain ⟨r6, h7, h⟩ := bnd_e h
  rcases cnd_e h with ⟨h8, h⟩ | ⟨h8, h⟩
  · have h := Option.some.inj h
    subst h
    exact Runs.path XTok PGmix [.r [], .b true, .r [.el [sC x4]], .r [.val (bA r6)], .b true, .r []] [] (an (lt_true hi) (an (idx_ok e_str h5) (an (ref_IsWord_ok x4 r6 h7) h8))) (by kernel_rfl)
  · have h := Option.some.inj h
    subst h
    exact Runs.path XTok PGmix [.r [], .b true, .r [.el [sC x4]], .r [.val (bA r6)], .b false, .r [.eq 15 (iA ((i3 + 1 : Nat) : Int))]] [] (an (lt_true hi) (an (idx_ok e_str h5) (an (ref_IsWord_ok x4 r6 h7) (an h8 (wrap_eq hi hM))))) (by kernel_rfl)
theorem ref_IsPath_b0_e (a0 : ByteArray) (r1 : List ByteArray) : Runs PG 19 0 ref_IsPath_c0 (ref_IsPath_F0 a0 r1 (r1.length) ) (ref_IsPath_H0 a0 r1 (r1.length) ) (ref_IsPath_B0 a0 r1 ()) := by
  exact Runs.path XTok PGmix [.r [], .b false] [] (lt_false (r1.length)) (by kernel_rfl)
theorem ref_IsPath_l0 (a0 : ByteArray) (r1 : List ByteArray) (r : Fin' Unit Bool) (h : forN (fun i3 s => ref_IsPath_b0 a0 r1 i3 ) (r1.length) 0 () = some r) : Runs PG 19 0 (cL (cR (cL (cR ref_IsPath_c)))) (ref_IsPath_F0 a0 r1 0 ) (ref_IsPath_H0 a0 r1 0 ) (finOc (ref_IsPath_B0 a0 r1) ref_IsPath_R r) :=
  Runs.loop' (by kernel_rfl) (forN_rounds (σ := Unit) (ρ := Bool) (body := fun i3 s => ref_IsPath_b0 a0 r1 i3 ) (F := fun i3 s => ref_IsPath_F0 a0 r1 i3 ) (H := fun i3 s => ref_IsPath_H0 a0 r1 i3 ) (B := ref_IsPath_B0 a0 r1) (R := ref_IsPath_R) (M := r1.length) (fun _ => rfl) (fun _ => rfl) (fun s => ref_IsPath_b0_e a0 r1 ) (fun i s o hi h => ref_IsPath_b0_r a0 r1 i o hi h) _ 0 _ r (Nat.zero_add _) h)
noncomputable def ref_IsPath (a0 : ByteArray) : Option Bool :=
 bnd (strings_Split a0 (⟨#[47]⟩ : ByteArray)) fun r1 =>
 aft0 (forN (fun i3 s => ref_IsPath_b0 a0 r1 i3 ) (r1.length) 0 ()) (
 some (decide ((a0.size : Int) ≤ 200)))
 (fun r10 =>
 some r10)
theorem ref_IsPath_ok (a0 : ByteArray) (r : Bool) (h : ref_IsPath a0 = some r) : Spec PG 76 [sT a0] [] (bA r) [] := by
  unfold ref_IsPath at h
  obtain ⟨r1, h2, h⟩ := bnd_e h
  rcases aft0_e h with ⟨h9, h⟩ | ⟨r10, h9, h⟩
  · have h := Option.some.inj h
    subst h
    exact Spec.path XTok PGmix ref_IsPath_fn 0 [.r [], .r [.val (lA 1 (List.map e_str r1)), .eq 7 (iA (r1.length : Int))], .s (ref_IsPath_F0 a0 r1 0 ) (ref_IsPath_H0 a0 r1 0 ) [] (ref_IsPath_B0 a0 r1 ()), .r []] (an (strings_Split_ok a0 (⟨#[47]⟩ : ByteArray) r1 h2) (an (leni_eq e_str r1) (ref_IsPath_l0 a0 r1 (.fin ()) h9))) (by kernel_rfl)
  · have h := Option.some.inj h
    subst h
    exact Spec.path XTok PGmix ref_IsPath_fn 0 [.r [], .r [.val (lA 1 (List.map e_str r1)), .eq 7 (iA (r1.length : Int))], .s (ref_IsPath_F0 a0 r1 0 ) (ref_IsPath_H0 a0 r1 0 ) [] (ref_IsPath_R r10)] (an (strings_Split_ok a0 (⟨#[47]⟩ : ByteArray) r1 h2) (an (leni_eq e_str r1) (ref_IsPath_l0 a0 r1 (.ret r10) h9))) (by kernel_rfl)

noncomputable def ref_partOf_c : Code := (Go.Proofs.Tryz.f25.body).getD .skip
theorem ref_partOf_fn : FnOk PG 25 ref_partOf_c 20 [.tmp 4] := ⟨⟨Go.Proofs.Tryz.f25, by kernel_rfl, by kernel_rfl, by kernel_rfl, by kernel_rfl, by kernel_rfl⟩⟩
noncomputable def ref_partOf_c0 : Code := cL (cL (cR (cL (cR ref_partOf_c))))
noncomputable def ref_partOf_R (r : Int) : Oc := .ret [(4, iA r)] []
noncomputable def ref_partOf_F0 (a0 : List Part) (a1 : ByteArray) (i1 : Nat) : Fr := [(1, sA a1), (7, lA 2 (List.map e_Part a0)), (8, iA (a0.length : Int)), (9, iA (i1 : Int))]
noncomputable def ref_partOf_H0 (a0 : List Part) (a1 : ByteArray) (i1 : Nat) : Hp := []
noncomputable def ref_partOf_B0 (a0 : List Part) (a1 : ByteArray) (s : Unit) : Oc := .ex 0 [] []
noncomputable def ref_partOf_b0 (a0 : List Part) (a1 : ByteArray) (i1 : Nat) : Option (Stp Unit Int) :=
 bnd (atI a0 (i1 : Int)) fun x2 =>
 cnd (sEq x2.Name a1) (some (.ret (i1 : Int))) (some (.go ()))
theorem ref_partOf_b0_r (a0 : List Part) (a1 : ByteArray) (i1 : Nat) (o : Stp Unit Int) (hi : i1 < a0.length) (h : ref_partOf_b0 a0 a1 i1 = some o) :
    Runs PG 20 0 ref_partOf_c0 (ref_partOf_F0 a0 a1 i1 ) (ref_partOf_H0 a0 a1 i1 ) (stpOc (fun s' => .nor (ref_partOf_F0 a0 a1 (i1 + 1) ) (ref_partOf_H0 a0 a1 (i1 + 1) )) (ref_partOf_B0 a0 a1) ref_partOf_R o) := by
  unfold ref_partOf_b0 at h
  refine Runs.len (s := 7) (sz := 2) (xs := List.map e_Part a0) (by kernel_rfl) fun hl => ?_
  have hM : a0.length ≤ lim := len_of hl
  obtain ⟨x2, h3, h⟩ := bnd_e h
  rcases cnd_e h with ⟨h4, h⟩ | ⟨h4, h⟩
  · have h := Option.some.inj h
    subst h
    exact Runs.path XTok PGmix [.r [], .b true, .r [.el (e_Part x2), .id 0], .r [], .b true, .r []] [] (an (lt_true hi) (an (idx_ok e_Part h3) h4)) (by kernel_rfl)
  · have h := Option.some.inj h
    subst h
    exact Runs.path XTok PGmix [.r [], .b true, .r [.el (e_Part x2), .id 0], .r [], .b false, .r [.eq 19 (iA ((i1 + 1 : Nat) : Int))]] [] (an (lt_true hi) (an (idx_ok e_Part h3) (an h4 (wrap_eq hi hM)))) (by kernel_rfl)
theorem ref_partOf_b0_e (a0 : List Part) (a1 : ByteArray) : Runs PG 20 0 ref_partOf_c0 (ref_partOf_F0 a0 a1 (a0.length) ) (ref_partOf_H0 a0 a1 (a0.length) ) (ref_partOf_B0 a0 a1 ()) := by
  exact Runs.path XTok PGmix [.r [], .b false] [] (lt_false (a0.length)) (by kernel_rfl)
theorem ref_partOf_l0 (a0 : List Part) (a1 : ByteArray) (r : Fin' Unit Int) (h : forN (fun i1 s => ref_partOf_b0 a0 a1 i1 ) (a0.length) 0 () = some r) : Runs PG 20 0 (cL (cR (cL (cR ref_partOf_c)))) (ref_partOf_F0 a0 a1 0 ) (ref_partOf_H0 a0 a1 0 ) (finOc (ref_partOf_B0 a0 a1) ref_partOf_R r) :=
  Runs.loop' (by kernel_rfl) (forN_rounds (σ := Unit) (ρ := Int) (body := fun i1 s => ref_partOf_b0 a0 a1 i1 ) (F := fun i1 s => ref_partOf_F0 a0 a1 i1 ) (H := fun i1 s => ref_partOf_H0 a0 a1 i1 ) (B := ref_partOf_B0 a0 a1) (R := ref_partOf_R) (M := a0.length) (fun _ => rfl) (fun _ => rfl) (fun s => ref_partOf_b0_e a0 a1 ) (fun i s o hi h => ref_partOf_b0_r a0 a1 i o hi h) _ 0 _ r (Nat.zero_add _) h)
noncomputable def ref_partOf (a0 : List Part) (a1 : ByteArray) : Option Int :=
 aft0 (forN (fun i1 s => ref_partOf_b0 a0 a1 i1 ) (a0.length) 0 ()) (
 some (-1))
 (fun r6 =>
 some r6)
theorem ref_partOf_ok (a0 : List Part) (a1 : ByteArray) (r : Int) (h : ref_partOf a0 a1 = some r) : Spec PG 25 [lT 2 (List.map e_Part a0), sT a1] [] (iA r) [] := by
  unfold ref_partOf at h
  rcases aft0_e h with ⟨h5, h⟩ | ⟨r6, h5, h⟩
  · have h := Option.some.inj h
    subst h
    exact Spec.path XTok PGmix ref_partOf_fn 0 [.r [], .r [.eq 8 (iA (a0.length : Int))], .s (ref_partOf_F0 a0 a1 0 ) (ref_partOf_H0 a0 a1 0 ) [] (ref_partOf_B0 a0 a1 ()), .r []] (an (leni_eq e_Part a0) (ref_partOf_l0 a0 a1 (.fin ()) h5)) (by kernel_rfl)
  · have h := Option.some.inj h
    subst h
    exact Spec.path XTok PGmix ref_partOf_fn 0 [.r [], .r [.eq 8 (iA (a0.length : Int))], .s (ref_partOf_F0 a0 a1 0 ) (ref_partOf_H0 a0 a1 0 ) [] (ref_partOf_R r6)] (an (leni_eq e_Part a0) (ref_partOf_l0 a0 a1 (.ret r6) h5)) (by kernel_rfl)

noncomputable def ref_pinOf_c : Code := (Go.Proofs.Tryz.f57.body).getD .skip
theorem ref_pinOf_fn : FnOk PG 57 ref_pinOf_c 21 [.tmp 4] := ⟨⟨Go.Proofs.Tryz.f57, by kernel_rfl, by kernel_rfl, by kernel_rfl, by kernel_rfl, by kernel_rfl⟩⟩
noncomputable def ref_pinOf_c0 : Code := cL (cL (cR (cL (cR ref_pinOf_c))))
noncomputable def ref_pinOf_R (r : Int) : Oc := .ret [(4, iA r)] []
noncomputable def ref_pinOf_F0 (a0 : PartType) (a1 : ByteArray) (i1 : Nat) : Fr := [(1, sA a1), (8, lA 3 (List.map e_PinType a0.Pins)), (9, iA (a0.Pins.length : Int)), (10, iA (i1 : Int))]
noncomputable def ref_pinOf_H0 (a0 : PartType) (a1 : ByteArray) (i1 : Nat) : Hp := []
noncomputable def ref_pinOf_B0 (a0 : PartType) (a1 : ByteArray) (s : Unit) : Oc := .ex 0 [] []
noncomputable def ref_pinOf_b0 (a0 : PartType) (a1 : ByteArray) (i1 : Nat) : Option (Stp Unit Int) :=
 bnd (atI a0.Pins (i1 : Int)) fun x2 =>
 cnd (sEq x2.Name a1) (some (.ret (i1 : Int))) (some (.go ()))
theorem ref_pinOf_b0_r (a0 : PartType) (a1 : ByteArray) (i1 : Nat) (o : Stp Unit Int) (hi : i1 < a0.Pins.length) (h : ref_pinOf_b0 a0 a1 i1 = some o) :
    Runs PG 21 0 ref_pinOf_c0 (ref_pinOf_F0 a0 a1 i1 ) (ref_pinOf_H0 a0 a1 i1 ) (stpOc (fun s' => .nor (ref_pinOf_F0 a0 a1 (i1 + 1) ) (ref_pinOf_H0 a0 a1 (i1 + 1) )) (ref_pinOf_B0 a0 a1) ref_pinOf_R o) := by
  unfold ref_pinOf_b0 at h
  refine Runs.len (s := 8) (sz := 3) (xs := List.map e_PinType a0.Pins) (by kernel_rfl) fun hl => ?_
  have hM : a0.Pins.length ≤ lim := len_of hl
  obtain ⟨x2, h3, h⟩ := bnd_e h
  rcases cnd_e h with ⟨h4, h⟩ | ⟨h4, h⟩
  · have h := Option.some.inj h
    subst h
    exact Runs.path XTok PGmix [.r [], .b true, .r [.el (e_PinType x2), .id 0], .r [], .b true, .r []] [] (an (lt_true hi) (an (idx_ok e_PinType h3) h4)) (by kernel_rfl)
  · have h := Option.some.inj h
    subst h
    exact Runs.path XTok PGmix [.r [], .b true, .r [.el (e_PinType x2), .id 0], .r [], .b false, .r [.eq 20 (iA ((i1 + 1 : Nat) : Int))]] [] (an (lt_true hi) (an (idx_ok e_PinType h3) (an h4 (wrap_eq hi hM)))) (by kernel_rfl)
theorem ref_pinOf_b0_e (a0 : PartType) (a1 : ByteArray) : Runs PG 21 0 ref_pinOf_c0 (ref_pinOf_F0 a0 a1 (a0.Pins.length) ) (ref_pinOf_H0 a0 a1 (a0.Pins.length) ) (ref_pinOf_B0 a0 a1 ()) := by
  exact Runs.path XTok PGmix [.r [], .b false] [] (lt_false (a0.Pins.length)) (by kernel_rfl)
theorem ref_pinOf_l0 (a0 : PartType) (a1 : ByteArray) (r : Fin' Unit Int) (h : forN (fun i1 s => ref_pinOf_b0 a0 a1 i1 ) (a0.Pins.length) 0 () = some r) : Runs PG 21 0 (cL (cR (cL (cR ref_pinOf_c)))) (ref_pinOf_F0 a0 a1 0 ) (ref_pinOf_H0 a0 a1 0 ) (finOc (ref_pinOf_B0 a0 a1) ref_pinOf_R r) :=
  Runs.loop' (by kernel_rfl) (forN_rounds (σ := Unit) (ρ := Int) (body := fun i1 s => ref_pinOf_b0 a0 a1 i1 ) (F := fun i1 s => ref_pinOf_F0 a0 a1 i1 ) (H := fun i1 s => ref_pinOf_H0 a0 a1 i1 ) (B := ref_pinOf_B0 a0 a1) (R := ref_pinOf_R) (M := a0.Pins.length) (fun _ => rfl) (fun _ => rfl) (fun s => ref_pinOf_b0_e a0 a1 ) (fun i s o hi h => ref_pinOf_b0_r a0 a1 i o hi h) _ 0 _ r (Nat.zero_add _) h)
noncomputable def ref_pinOf (a0 : PartType) (a1 : ByteArray) : Option Int :=
 aft0 (forN (fun i1 s => ref_pinOf_b0 a0 a1 i1 ) (a0.Pins.length) 0 ()) (
 some (-1))
 (fun r6 =>
 some r6)
theorem ref_pinOf_ok (a0 : PartType) (a1 : ByteArray) (r : Int) (h : ref_pinOf a0 a1 = some r) : Spec PG 57 [gT (e_PartType a0), sT a1] [] (iA r) [] := by
  unfold ref_pinOf at h
  rcases aft0_e h with ⟨h5, h⟩ | ⟨r6, h5, h⟩
  · have h := Option.some.inj h
    subst h
    exact Spec.path XTok PGmix ref_pinOf_fn 0 [.r [.id 0], .r [.eq 9 (iA (a0.Pins.length : Int))], .s (ref_pinOf_F0 a0 a1 0 ) (ref_pinOf_H0 a0 a1 0 ) [] (ref_pinOf_B0 a0 a1 ()), .r []] (an (leni_eq e_PinType a0.Pins) (ref_pinOf_l0 a0 a1 (.fin ()) h5)) (by kernel_rfl)
  · have h := Option.some.inj h
    subst h
    exact Spec.path XTok PGmix ref_pinOf_fn 0 [.r [.id 0], .r [.eq 9 (iA (a0.Pins.length : Int))], .s (ref_pinOf_F0 a0 a1 0 ) (ref_pinOf_H0 a0 a1 0 ) [] (ref_pinOf_R r6)] (an (leni_eq e_PinType a0.Pins) (ref_pinOf_l0 a0 a1 (.ret r6) h5)) (by kernel_rfl)

noncomputable def ref_HasPin_c : Code := (Go.Proofs.Tryz.f77.body).getD .skip
theorem ref_HasPin_fn : FnOk PG 77 ref_HasPin_c 32 [.tmp 6] := ⟨⟨Go.Proofs.Tryz.f77, by kernel_rfl, by kernel_rfl, by kernel_rfl, by kernel_rfl, by kernel_rfl⟩⟩
noncomputable def ref_HasPin (a0 : List PartType) (a1 : Netlist) (a2 : Pin) : Option Bool :=
 bnd (ref_partOf a1.Parts a2.Part) fun r1 =>
 bnd1 (cnd (decide (r1 ≥ 0)) (bnd (atI a1.Parts r1) fun x7 =>
 bnd (ref_typeOf a0 x7.Type_) fun r9 =>
 bnd (atI a0 r9) fun x11 =>
 bnd (ref_pinOf x11 a2.Pin) fun r13 =>
 some (decide (r13 ≥ 0))) (some false)) fun v3 =>
 some v3
theorem ref_HasPin_ok (a0 : List PartType) (a1 : Netlist) (a2 : Pin) (r : Bool) (h : ref_HasPin a0 a1 a2 = some r) : Spec PG 77 [lT 2 (List.map e_PartType a0), gT (e_Netlist a1), gT (e_Pin a2)] [] (bA r) [] := by
  unfold ref_HasPin at h
  obtain ⟨r1, h2, h⟩ := bnd_e h
  obtain ⟨v3, h4, h⟩ := bnd1_e h
  let q15_f : Fr := [(0, lA 2 (List.map e_PartType a0)), (4, .t (.v (.ptr 0 0))), (5, .t (.v (.ptr 1 0))), (7, iA r1)]
  let q15_g : Hp := [(0, .cells 26 [.c (.sl 2 (List.map e_Part a1.Parts)), .c (.sl 3 (List.map e_Net a1.Nets))]), (1, .cells 55 [.c (sC a2.Part), .c (sC a2.Pin)])]
  let q15_f' : Fr := [(6, bA v3)]
  let q15_g' : Hp := []
  have R5 : Runs PG 32 0 (cL (cR (cR ref_HasPin_c))) q15_f q15_g (.nor q15_f' q15_g') := by
    rcases cnd_e h4 with ⟨h6, h4⟩ | ⟨h6, h4⟩
    · obtain ⟨x7, h8, h4⟩ := bnd_e h4
      obtain ⟨r9, h10, h4⟩ := bnd_e h4
      obtain ⟨x11, h12, h4⟩ := bnd_e h4
      obtain ⟨r13, h14, h4⟩ := bnd_e h4
      have h4 := Option.some.inj h4
      subst h4
      exact Runs.path XTok PGmix [.d [([], []), ([], []), ([], []), ([], [.b true]), ([], [.b true]), ([], [.b true]), ([0], [.b true]), ([], [.b true]), ([], [.b true, .el (e_Part x7)]), ([], [.b true]), ([], [.b true]), ([], [.b true, .val (iA r9)]), ([], [.b true, .el (e_PartType x11)]), ([], [.b true]), ([], [.b true]), ([1], [.b true]), ([], [.b true, .val (iA r13)]), ([], [.b true]), ([], [.b true]), ([], [])]] [] (an h6 (an h6 (an h6 (an h6 (an h6 (an h6 (an (idx_ok e_Part h8) (an h6 (an h6 (an h6 (an (ref_typeOf_ok a0 x7.Type_ r9 h10) (an h6 (an (idx_ok e_PartType h12) (an h6 (an h6 (an h6 (an h6 (an (ref_pinOf_ok x11 a2.Pin r13 h14) (an h6 h6))))))))))))))))))) (by kernel_rfl)
    · have h4 := Option.some.inj h4
      subst h4
      exact Runs.path XTok PGmix [.d [([], []), ([], []), ([], []), ([], [.b false]), ([], [.b false]), ([], [.b false]), ([], [.b false]), ([], [.b false]), ([], [.b false]), ([], [.b false]), ([], [.b false]), ([], [.b false]), ([], [.b false]), ([], [.b false]), ([], [.b false]), ([], [.b false]), ([], [.b false]), ([], [.b false]), ([], [.b false]), ([], [])]] [] (an h6 (an h6 (an h6 (an h6 (an h6 (an h6 (an h6 (an h6 (an h6 (an h6 (an h6 (an h6 (an h6 (an h6 (an h6 h6))))))))))))))) (by kernel_rfl)
  have h := Option.some.inj h
  subst h
  exact Spec.path XTok PGmix ref_HasPin_fn 0 [.r [.id 0, .id 1], .r [.val (iA r1)], .s q15_f q15_g [] (.nor q15_f' q15_g')] (an (ref_partOf_ok a1.Parts a2.Part r1 h2) R5) (by kernel_rfl)

noncomputable def slices_Index_api_Pin_api_Pin_c : Code := (Go.Proofs.Tryz.f124.body).getD .skip
theorem slices_Index_api_Pin_api_Pin_fn : FnOk PG 124 slices_Index_api_Pin_api_Pin_c 19 [.tmp 4] := ⟨⟨Go.Proofs.Tryz.f124, by kernel_rfl, by kernel_rfl, by kernel_rfl, by kernel_rfl, by kernel_rfl⟩⟩
noncomputable def slices_Index_api_Pin_api_Pin_c0 : Code := cL (cL (cR (cL (cR slices_Index_api_Pin_api_Pin_c))))
noncomputable def slices_Index_api_Pin_api_Pin_R (r : Int) : Oc := .ret [(4, iA r)] []
noncomputable def slices_Index_api_Pin_api_Pin_F0 (a0 : List Pin) (a1 : Pin) (i1 : Nat) : Fr := [(0, lA 2 (List.map e_Pin a0)), (3, .t (.v (.ptr 0 0))), (6, lA 2 (List.map e_Pin a0)), (7, iA (a0.length : Int)), (8, iA (i1 : Int))]
noncomputable def slices_Index_api_Pin_api_Pin_H0 (a0 : List Pin) (a1 : Pin) (i1 : Nat) : Hp := [(0, .cells 55 [.c (sC a1.Part), .c (sC a1.Pin)])]
noncomputable def slices_Index_api_Pin_api_Pin_B0 (a0 : List Pin) (a1 : Pin) (s : Unit) : Oc := .ex 0 [] []
noncomputable def slices_Index_api_Pin_api_Pin_b0 (a0 : List Pin) (a1 : Pin) (i1 : Nat) : Option (Stp Unit Int) :=
 bnd (atI a0 (i1 : Int)) fun x2 =>
 cnd (sEq a1.Part x2.Part && (sEq a1.Pin x2.Pin && true)) (some (.ret (i1 : Int))) (some (.go ()))
theorem slices_Index_api_Pin_api_Pin_b0_r (a0 : List Pin) (a1 : Pin) (i1 : Nat) (o : Stp Unit Int) (hi : i1 < a0.length) (h : slices_Index_api_Pin_api_Pin_b0 a0 a1 i1 = some o) :
    Runs PG 19 0 slices_Index_api_Pin_api_Pin_c0 (slices_Index_api_Pin_api_Pin_F0 a0 a1 i1 ) (slices_Index_api_Pin_api_Pin_H0 a0 a1 i1 ) (stpOc (fun s' => .nor (slices_Index_api_Pin_api_Pin_F0 a0 a1 (i1 + 1) ) (slices_Index_api_Pin_api_Pin_H0 a0 a1 (i1 + 1) )) (slices_Index_api_Pin_api_Pin_B0 a0 a1) slices_Index_api_Pin_api_Pin_R o) := by
  unfold slices_Index_api_Pin_api_Pin_b0 at h
  refine Runs.len (s := 6) (sz := 2) (xs := List.map e_Pin a0) (by kernel_rfl) fun hl => ?_
  have hM : a0.length ≤ lim := len_of hl
  obtain ⟨x2, h3, h⟩ := bnd_e h
  rcases cnd_e h with ⟨h4, h⟩ | ⟨h4, h⟩
  · have h := Option.some.inj h
    subst h
    exact Runs.path XTok PGmix [.r [], .b true, .r [], .d [([0], []), ([], []), ([], []), ([], [.el (e_Pin x2)]), ([], []), ([], [])], .b true, .r []] [] (an (lt_true hi) (an (idx_ok e_Pin h3) h4)) (by kernel_rfl)
  · have h := Option.some.inj h
    subst h
    exact Runs.path XTok PGmix [.r [], .b true, .r [], .d [([0], []), ([], []), ([], []), ([], [.el (e_Pin x2)]), ([], []), ([], [])], .b false, .r [.eq 18 (iA ((i1 + 1 : Nat) : Int))]] [] (an (lt_true hi) (an (idx_ok e_Pin h3) (an h4 (wrap_eq hi hM)))) (by kernel_rfl)
theorem slices_Index_api_Pin_api_Pin_b0_e (a0 : List Pin) (a1 : Pin) : Runs PG 19 0 slices_Index_api_Pin_api_Pin_c0 (slices_Index_api_Pin_api_Pin_F0 a0 a1 (a0.length) ) (slices_Index_api_Pin_api_Pin_H0 a0 a1 (a0.length) ) (slices_Index_api_Pin_api_Pin_B0 a0 a1 ()) := by
  exact Runs.path XTok PGmix [.r [], .b false] [] (lt_false (a0.length)) (by kernel_rfl)
theorem slices_Index_api_Pin_api_Pin_l0 (a0 : List Pin) (a1 : Pin) (r : Fin' Unit Int) (h : forN (fun i1 s => slices_Index_api_Pin_api_Pin_b0 a0 a1 i1 ) (a0.length) 0 () = some r) : Runs PG 19 0 (cL (cR (cL (cR slices_Index_api_Pin_api_Pin_c)))) (slices_Index_api_Pin_api_Pin_F0 a0 a1 0 ) (slices_Index_api_Pin_api_Pin_H0 a0 a1 0 ) (finOc (slices_Index_api_Pin_api_Pin_B0 a0 a1) slices_Index_api_Pin_api_Pin_R r) :=
  Runs.loop' (by kernel_rfl) (forN_rounds (σ := Unit) (ρ := Int) (body := fun i1 s => slices_Index_api_Pin_api_Pin_b0 a0 a1 i1 ) (F := fun i1 s => slices_Index_api_Pin_api_Pin_F0 a0 a1 i1 ) (H := fun i1 s => slices_Index_api_Pin_api_Pin_H0 a0 a1 i1 ) (B := slices_Index_api_Pin_api_Pin_B0 a0 a1) (R := slices_Index_api_Pin_api_Pin_R) (M := a0.length) (fun _ => rfl) (fun _ => rfl) (fun s => slices_Index_api_Pin_api_Pin_b0_e a0 a1 ) (fun i s o hi h => slices_Index_api_Pin_api_Pin_b0_r a0 a1 i o hi h) _ 0 _ r (Nat.zero_add _) h)
noncomputable def slices_Index_api_Pin_api_Pin (a0 : List Pin) (a1 : Pin) : Option Int :=
 aft0 (forN (fun i1 s => slices_Index_api_Pin_api_Pin_b0 a0 a1 i1 ) (a0.length) 0 ()) (
 some (-1))
 (fun r6 =>
 some r6)
theorem slices_Index_api_Pin_api_Pin_ok (a0 : List Pin) (a1 : Pin) (r : Int) (h : slices_Index_api_Pin_api_Pin a0 a1 = some r) : Spec PG 124 [lT 2 (List.map e_Pin a0), gT (e_Pin a1)] [] (iA r) [] := by
  unfold slices_Index_api_Pin_api_Pin at h
  rcases aft0_e h with ⟨h5, h⟩ | ⟨r6, h5, h⟩
  · have h := Option.some.inj h
    subst h
    exact Spec.path XTok PGmix slices_Index_api_Pin_api_Pin_fn 0 [.r [.id 0], .r [.eq 7 (iA (a0.length : Int))], .s (slices_Index_api_Pin_api_Pin_F0 a0 a1 0 ) (slices_Index_api_Pin_api_Pin_H0 a0 a1 0 ) [] (slices_Index_api_Pin_api_Pin_B0 a0 a1 ()), .r []] (an (leni_eq e_Pin a0) (slices_Index_api_Pin_api_Pin_l0 a0 a1 (.fin ()) h5)) (by kernel_rfl)
  · have h := Option.some.inj h
    subst h
    exact Spec.path XTok PGmix slices_Index_api_Pin_api_Pin_fn 0 [.r [.id 0], .r [.eq 7 (iA (a0.length : Int))], .s (slices_Index_api_Pin_api_Pin_F0 a0 a1 0 ) (slices_Index_api_Pin_api_Pin_H0 a0 a1 0 ) [] (slices_Index_api_Pin_api_Pin_R r6)] (an (leni_eq e_Pin a0) (slices_Index_api_Pin_api_Pin_l0 a0 a1 (.ret r6) h5)) (by kernel_rfl)

noncomputable def slices_Contains_api_Pin_api_Pin_c : Code := (Go.Proofs.Tryz.f102.body).getD .skip
theorem slices_Contains_api_Pin_api_Pin_fn : FnOk PG 102 slices_Contains_api_Pin_api_Pin_c 9 [.tmp 4] := ⟨⟨Go.Proofs.Tryz.f102, by kernel_rfl, by kernel_rfl, by kernel_rfl, by kernel_rfl, by kernel_rfl⟩⟩
noncomputable def slices_Contains_api_Pin_api_Pin (a0 : List Pin) (a1 : Pin) : Option Bool :=
 bnd (slices_Index_api_Pin_api_Pin a0 a1) fun r1 =>
 some (decide (r1 ≥ 0))
theorem slices_Contains_api_Pin_api_Pin_ok (a0 : List Pin) (a1 : Pin) (r : Bool) (h : slices_Contains_api_Pin_api_Pin a0 a1 = some r) : Spec PG 102 [lT 2 (List.map e_Pin a0), gT (e_Pin a1)] [] (bA r) [] := by
  unfold slices_Contains_api_Pin_api_Pin at h
  obtain ⟨r1, h2, h⟩ := bnd_e h
  have h := Option.some.inj h
  subst h
  exact Spec.path XTok PGmix slices_Contains_api_Pin_api_Pin_fn 0 [.r [.id 0], .r [.val (iA r1)]] (slices_Index_api_Pin_api_Pin_ok a0 a1 r1 h2) (by kernel_rfl)

noncomputable def ref_inNets_c : Code := (Go.Proofs.Tryz.f78.body).getD .skip
theorem ref_inNets_fn : FnOk PG 78 ref_inNets_c 18 [.tmp 4] := ⟨⟨Go.Proofs.Tryz.f78, by kernel_rfl, by kernel_rfl, by kernel_rfl, by kernel_rfl, by kernel_rfl⟩⟩
noncomputable def ref_inNets_c0 : Code := cL (cL (cR (cL (cR ref_inNets_c))))
noncomputable def ref_inNets_R (r : Bool) : Oc := .ret [(4, bA r)] []
noncomputable def ref_inNets_F0 (a0 : List Net) (a1 : Pin) (i1 : Nat) : Fr := [(3, .t (.v (.ptr 0 0))), (7, lA 3 (List.map e_Net a0)), (8, iA (a0.length : Int)), (9, iA (i1 : Int))]
noncomputable def ref_inNets_H0 (a0 : List Net) (a1 : Pin) (i1 : Nat) : Hp := [(0, .cells 55 [.c (sC a1.Part), .c (sC a1.Pin)])]
noncomputable def ref_inNets_B0 (a0 : List Net) (a1 : Pin) (s : Unit) : Oc := .ex 0 [] []
noncomputable def ref_inNets_b0 (a0 : List Net) (a1 : Pin) (i1 : Nat) : Option (Stp Unit Bool) :=
 bnd (atI a0 (i1 : Int)) fun x2 =>
 bnd (slices_Contains_api_Pin_api_Pin x2.Pins a1) fun r4 =>
 cnd r4 (some (.ret true)) (some (.go ()))
theorem ref_inNets_b0_r (a0 : List Net) (a1 : Pin) (i1 : Nat) (o : Stp Unit Bool) (hi : i1 < a0.length) (h : ref_inNets_b0 a0 a1 i1 = some o) :
    Runs PG 18 0 ref_inNets_c0 (ref_inNets_F0 a0 a1 i1 ) (ref_inNets_H0 a0 a1 i1 ) (stpOc (fun s' => .nor (ref_inNets_F0 a0 a1 (i1 + 1) ) (ref_inNets_H0 a0 a1 (i1 + 1) )) (ref_inNets_B0 a0 a1) ref_inNets_R o) := by
  unfold ref_inNets_b0 at h
  refine Runs.len (s := 7) (sz := 3) (xs := List.map e_Net a0) (by kernel_rfl) fun hl => ?_
  have hM : a0.length ≤ lim := len_of hl
  obtain ⟨x2, h3, h⟩ := bnd_e h
  obtain ⟨r4, h5, h⟩ := bnd_e h
  rcases cnd_e h with ⟨h6, h⟩ | ⟨h6, h⟩
  · have h := Option.some.inj h
    subst h
    exact Runs.path XTok PGmix [.r [], .b true, .r [.el (e_Net x2), .id 1], .r [.val (bA r4)], .b true, .r []] [] (an (lt_true hi) (an (idx_ok e_Net h3) (an (slices_Contains_api_Pin_api_Pin_ok x2.Pins a1 r4 h5) h6))) (by kernel_rfl)
  · have h := Option.some.inj h
    subst h
    exact Runs.path XTok PGmix [.r [], .b true, .r [.el (e_Net x2), .id 1], .r [.val (bA r4)], .b false, .r [.eq 17 (iA ((i1 + 1 : Nat) : Int))]] [] (an (lt_true hi) (an (idx_ok e_Net h3) (an (slices_Contains_api_Pin_api_Pin_ok x2.Pins a1 r4 h5) (an h6 (wrap_eq hi hM))))) (by kernel_rfl)
theorem ref_inNets_b0_e (a0 : List Net) (a1 : Pin) : Runs PG 18 0 ref_inNets_c0 (ref_inNets_F0 a0 a1 (a0.length) ) (ref_inNets_H0 a0 a1 (a0.length) ) (ref_inNets_B0 a0 a1 ()) := by
  exact Runs.path XTok PGmix [.r [], .b false] [] (lt_false (a0.length)) (by kernel_rfl)
theorem ref_inNets_l0 (a0 : List Net) (a1 : Pin) (r : Fin' Unit Bool) (h : forN (fun i1 s => ref_inNets_b0 a0 a1 i1 ) (a0.length) 0 () = some r) : Runs PG 18 0 (cL (cR (cL (cR ref_inNets_c)))) (ref_inNets_F0 a0 a1 0 ) (ref_inNets_H0 a0 a1 0 ) (finOc (ref_inNets_B0 a0 a1) ref_inNets_R r) :=
  Runs.loop' (by kernel_rfl) (forN_rounds (σ := Unit) (ρ := Bool) (body := fun i1 s => ref_inNets_b0 a0 a1 i1 ) (F := fun i1 s => ref_inNets_F0 a0 a1 i1 ) (H := fun i1 s => ref_inNets_H0 a0 a1 i1 ) (B := ref_inNets_B0 a0 a1) (R := ref_inNets_R) (M := a0.length) (fun _ => rfl) (fun _ => rfl) (fun s => ref_inNets_b0_e a0 a1 ) (fun i s o hi h => ref_inNets_b0_r a0 a1 i o hi h) _ 0 _ r (Nat.zero_add _) h)
noncomputable def ref_inNets (a0 : List Net) (a1 : Pin) : Option Bool :=
 aft0 (forN (fun i1 s => ref_inNets_b0 a0 a1 i1 ) (a0.length) 0 ()) (
 some false)
 (fun r8 =>
 some r8)
theorem ref_inNets_ok (a0 : List Net) (a1 : Pin) (r : Bool) (h : ref_inNets a0 a1 = some r) : Spec PG 78 [lT 3 (List.map e_Net a0), gT (e_Pin a1)] [] (bA r) [] := by
  unfold ref_inNets at h
  rcases aft0_e h with ⟨h7, h⟩ | ⟨r8, h7, h⟩
  · have h := Option.some.inj h
    subst h
    exact Spec.path XTok PGmix ref_inNets_fn 0 [.r [.id 0], .r [.eq 8 (iA (a0.length : Int))], .s (ref_inNets_F0 a0 a1 0 ) (ref_inNets_H0 a0 a1 0 ) [] (ref_inNets_B0 a0 a1 ()), .r []] (an (leni_eq e_Net a0) (ref_inNets_l0 a0 a1 (.fin ()) h7)) (by kernel_rfl)
  · have h := Option.some.inj h
    subst h
    exact Spec.path XTok PGmix ref_inNets_fn 0 [.r [.id 0], .r [.eq 8 (iA (a0.length : Int))], .s (ref_inNets_F0 a0 a1 0 ) (ref_inNets_H0 a0 a1 0 ) [] (ref_inNets_R r8)] (an (leni_eq e_Net a0) (ref_inNets_l0 a0 a1 (.ret r8) h7)) (by kernel_rfl)

noncomputable def ref_checkList_c : Code := (Go.Proofs.Tryz.f54.body).getD .skip
theorem ref_checkList_fn : FnOk PG 54 ref_checkList_c 132 [.tmp 4] := ⟨⟨Go.Proofs.Tryz.f54, by kernel_rfl, by kernel_rfl, by kernel_rfl, by kernel_rfl, by kernel_rfl⟩⟩
noncomputable def ref_checkList_c0 : Code := cL (cL (cR (cL (cR (cR ref_checkList_c)))))
noncomputable def ref_checkList_R (r : Int) : Oc := .ret [(4, iA r)] []
noncomputable def ref_checkList_F0 (a0 : List PartType) (a1 : Netlist) (i2 : Nat) : Fr := [(0, lA 2 (List.map e_PartType a0)), (3, .t (.v (.ptr 0 0))), (16, lA 2 (List.map e_Part a1.Parts)), (17, iA (a1.Parts.length : Int)), (18, iA (i2 : Int))]
noncomputable def ref_checkList_H0 (a0 : List PartType) (a1 : Netlist) (i2 : Nat) : Hp := [(0, .cells 26 [.c (.sl 2 (List.map e_Part a1.Parts)), .c (.sl 3 (List.map e_Net a1.Nets))])]
noncomputable def ref_checkList_B0 (a0 : List PartType) (a1 : Netlist) (s : Unit) : Oc := .ex 0 [(0, lA 2 (List.map e_PartType a0)), (3, .t (.v (.ptr 0 0)))] [(0, .cells 26 [.c (.sl 2 (List.map e_Part a1.Parts)), .c (.sl 3 (List.map e_Net a1.Nets))])]
noncomputable def ref_checkList_b0 (a0 : List PartType) (a1 : Netlist) (i2 : Nat) : Option (Stp Unit Int) :=
 bnd (atI a1.Parts (i2 : Int)) fun x3 =>
 bnd (ref_IsPath x3.Name) fun r5 =>
 cnd (!r5) (some (.ret 5)) (bnd (ref_typeOf a0 x3.Type_) fun r8 =>
 cnd (decide (r8 < 0)) (some (.ret 9)) (bnd1 (cnd (decide ((i2 : Int) > 0)) (bnd (atI a1.Parts (w64 ((i2 : Int) - 1))) fun x15 =>
 some (sLe x3.Name x15.Name)) (some false)) fun v11 =>
 cnd v11 (some (.ret 8)) (some (.go ()))))
theorem ref_checkList_b0_r (a0 : List PartType) (a1 : Netlist) (i2 : Nat) (o : Stp Unit Int) (hi : i2 < a1.Parts.length) (h : ref_checkList_b0 a0 a1 i2 = some o) :
    Runs PG 132 0 ref_checkList_c0 (ref_checkList_F0 a0 a1 i2 ) (ref_checkList_H0 a0 a1 i2 ) (stpOc (fun s' => .nor (ref_checkList_F0 a0 a1 (i2 + 1) ) (ref_checkList_H0 a0 a1 (i2 + 1) )) (ref_checkList_B0 a0 a1) ref_checkList_R o) := by
  unfold ref_checkList_b0 at h
  refine Runs.len (s := 16) (sz := 2) (xs := List.map e_Part a1.Parts) (by kernel_rfl) fun hl => ?_
  have hM : a1.Parts.length ≤ lim := len_of hl
  obtain ⟨x3, h4, h⟩ := bnd_e h
  obtain ⟨r5, h6, h⟩ := bnd_e h
  rcases cnd_e h with ⟨h7, h⟩ | ⟨h7, h⟩
  · have h := Option.some.inj h
    subst h
    exact Runs.path XTok PGmix [.r [], .b true, .r [.el (e_Part x3), .id 1], .r [.val (bA r5)], .b true, .r []] [] (an (lt_true hi) (an (idx_ok e_Part h4) (an (ref_IsPath_ok x3.Name r5 h6) h7))) (by kernel_rfl)
  · obtain ⟨r8, h9, h⟩ := bnd_e h
    rcases cnd_e h with ⟨h10, h⟩ | ⟨h10, h⟩
    · have h := Option.some.inj h
      subst h
      exact Runs.path XTok PGmix [.r [], .b true, .r [.el (e_Part x3), .id 1], .r [.val (bA r5)], .b false, .r [.val (iA r8)], .b true, .r []] [] (an (lt_true hi) (an (idx_ok e_Part h4) (an (ref_IsPath_ok x3.Name r5 h6) (an h7 (an (ref_typeOf_ok a0 x3.Type_ r8 h9) h10))))) (by kernel_rfl)
    · obtain ⟨v11, h12, h⟩ := bnd1_e h
      let q17_f : Fr := [(0, lA 2 (List.map e_PartType a0)), (3, .t (.v (.ptr 0 0))), (5, iA (i2 : Int)), (6, .t (.v (.ptr 1 0))), (16, lA 2 (List.map e_Part a1.Parts)), (17, iA (a1.Parts.length : Int)), (18, iA (i2 : Int))]
      let q17_g : Hp := [(0, .cells 26 [.c (.sl 2 (List.map e_Part a1.Parts)), .c (.sl 3 (List.map e_Net a1.Nets))]), (1, .cells 43 [.c (sC x3.Name), .c (sC x3.Type_)])]
      let q17_f' : Fr := [(0, lA 2 (List.map e_PartType a0)), (3, .t (.v (.ptr 0 0))), (16, lA 2 (List.map e_Part a1.Parts)), (17, iA (a1.Parts.length : Int)), (18, iA (i2 : Int)), (34, bA v11)]
      let q17_g' : Hp := [(0, .cells 26 [.c (.sl 2 (List.map e_Part a1.Parts)), .c (.sl 3 (List.map e_Net a1.Nets))])]
      have R13 : Runs PG 132 0 (cL (cR (cR (cR (cR (cL (cR (cL (cL (cR (cR ref_checkList_c0))))))))))) q17_f q17_g (.nor q17_f' q17_g') := by
        rcases cnd_e h12 with ⟨h14, h12⟩ | ⟨h14, h12⟩
        · obtain ⟨x15, h16, h12⟩ := bnd_e h12
          have h12 := Option.some.inj h12
          subst h12
          exact Runs.path XTok PGmix [.d [([], []), ([], []), ([], []), ([], [.b true]), ([1], [.b true]), ([], [.b true]), ([0], [.b true]), ([], [.b true]), ([], [.b true]), ([], [.b true, .el (e_Part x15)]), ([], [.b true]), ([], [.b true]), ([], [.b true]), ([], [.b true]), ([], [])]] [] (an h14 (an h14 (an h14 (an h14 (an h14 (an h14 (an h14 (an (idx_ok e_Part h16) (an h14 (an h14 (an h14 h14))))))))))) (by kernel_rfl)
        · have h12 := Option.some.inj h12
          subst h12
          exact Runs.path XTok PGmix [.d [([], []), ([], []), ([], []), ([], [.b false]), ([], [.b false]), ([], [.b false]), ([], [.b false]), ([], [.b false]), ([], [.b false]), ([], [.b false]), ([], [.b false]), ([], [.b false]), ([], [.b false]), ([], [.b false]), ([], [])]] [] (an h14 (an h14 (an h14 (an h14 (an h14 (an h14 (an h14 (an h14 (an h14 (an h14 h14)))))))))) (by kernel_rfl)
      rcases cnd_e h with ⟨h18, h⟩ | ⟨h18, h⟩
      · have h := Option.some.inj h
        subst h
        exact Runs.path XTok PGmix [.r [], .b true, .r [.el (e_Part x3), .id 1], .r [.val (bA r5)], .b false, .r [.val (iA r8)], .b false, .s q17_f q17_g [] (.nor q17_f' q17_g'), .b true, .r []] [] (an (lt_true hi) (an (idx_ok e_Part h4) (an (ref_IsPath_ok x3.Name r5 h6) (an h7 (an (ref_typeOf_ok a0 x3.Type_ r8 h9) (an h10 (an R13 h18))))))) (by kernel_rfl)
      · have h := Option.some.inj h
        subst h
        exact Runs.path XTok PGmix [.r [], .b true, .r [.el (e_Part x3), .id 1], .r [.val (bA r5)], .b false, .r [.val (iA r8)], .b false, .s q17_f q17_g [] (.nor q17_f' q17_g'), .b false, .r [.eq 49 (iA ((i2 + 1 : Nat) : Int))]] [] (an (lt_true hi) (an (idx_ok e_Part h4) (an (ref_IsPath_ok x3.Name r5 h6) (an h7 (an (ref_typeOf_ok a0 x3.Type_ r8 h9) (an h10 (an R13 (an h18 (wrap_eq hi hM))))))))) (by kernel_rfl)
theorem ref_checkList_b0_e (a0 : List PartType) (a1 : Netlist) : Runs PG 132 0 ref_checkList_c0 (ref_checkList_F0 a0 a1 (a1.Parts.length) ) (ref_checkList_H0 a0 a1 (a1.Parts.length) ) (ref_checkList_B0 a0 a1 ()) := by
  exact Runs.path XTok PGmix [.r [], .b false] [] (lt_false (a1.Parts.length)) (by kernel_rfl)
theorem ref_checkList_l0 (a0 : List PartType) (a1 : Netlist) (r : Fin' Unit Int) (h : forN (fun i2 s => ref_checkList_b0 a0 a1 i2 ) (a1.Parts.length) 0 () = some r) : Runs PG 132 0 (cL (cR (cL (cR (cR ref_checkList_c))))) (ref_checkList_F0 a0 a1 0 ) (ref_checkList_H0 a0 a1 0 ) (finOc (ref_checkList_B0 a0 a1) ref_checkList_R r) :=
  Runs.loop' (by kernel_rfl) (forN_rounds (σ := Unit) (ρ := Int) (body := fun i2 s => ref_checkList_b0 a0 a1 i2 ) (F := fun i2 s => ref_checkList_F0 a0 a1 i2 ) (H := fun i2 s => ref_checkList_H0 a0 a1 i2 ) (B := ref_checkList_B0 a0 a1) (R := ref_checkList_R) (M := a1.Parts.length) (fun _ => rfl) (fun _ => rfl) (fun s => ref_checkList_b0_e a0 a1 ) (fun i s o hi h => ref_checkList_b0_r a0 a1 i o hi h) _ 0 _ r (Nat.zero_add _) h)
noncomputable def ref_checkList_c1 : Code := cL (cL (cR (cL (cR (cR (cR (cR ref_checkList_c)))))))
noncomputable def ref_checkList_c2 : Code := cL (cL (cR (cL (cR (cR (cL (cL (cR (cR ref_checkList_c1)))))))))
noncomputable def ref_checkList_F2 (a0 : List PartType) (a1 : Netlist) (i22 : Nat) (x23 : Net) (i30 : Nat) : Fr := [(0, lA 2 (List.map e_PartType a0)), (3, .t (.v (.ptr 0 0))), (7, iA (i22 : Int)), (8, .t (.v (.ptr 1 0))), (55, lA 3 (List.map e_Net a1.Nets)), (56, iA (a1.Nets.length : Int)), (57, iA (i22 : Int)), (78, lA 2 (List.map e_Pin x23.Pins)), (79, iA (x23.Pins.length : Int)), (80, iA (i30 : Int))]
noncomputable def ref_checkList_H2 (a0 : List PartType) (a1 : Netlist) (i22 : Nat) (x23 : Net) (i30 : Nat) : Hp := [(0, .cells 26 [.c (.sl 2 (List.map e_Part a1.Parts)), .c (.sl 3 (List.map e_Net a1.Nets))]), (1, .cells 53 [.c (sC x23.Name), .c (.sl 2 (List.map e_Pin x23.Pins)), .c (.sl 1 (List.map e_str x23.Ports))])]
noncomputable def ref_checkList_B2 (a0 : List PartType) (a1 : Netlist) (i22 : Nat) (x23 : Net) (s : Unit) : Oc := .ex 6 [(0, lA 2 (List.map e_PartType a0)), (3, .t (.v (.ptr 0 0))), (7, iA (i22 : Int)), (8, .t (.v (.ptr 1 0))), (55, lA 3 (List.map e_Net a1.Nets)), (56, iA (a1.Nets.length : Int)), (57, iA (i22 : Int))] [(0, .cells 26 [.c (.sl 2 (List.map e_Part a1.Parts)), .c (.sl 3 (List.map e_Net a1.Nets))]), (1, .cells 53 [.c (sC x23.Name), .c (.sl 2 (List.map e_Pin x23.Pins)), .c (.sl 1 (List.map e_str x23.Ports))])]
noncomputable def ref_checkList_b2 (a0 : List PartType) (a1 : Netlist) (i22 : Nat) (x23 : Net) (i30 : Nat) : Option (Stp Unit Int) :=
 bnd (atI x23.Pins (i30 : Int)) fun x31 =>
 bnd (ref_HasPin a0 a1 x31) fun r33 =>
 cnd (!r33) (some (.ret 9)) (bnd1 (cnd (decide ((i30 : Int) > 0)) (bnd (atI x23.Pins (w64 ((i30 : Int) - 1))) fun x40 =>
 bnd (ref_before x40 x31) fun r42 =>
 some (!r42)) (some false)) fun v36 =>
 cnd v36 (some (.ret 8)) (grd ((0 : Int) ≤ 0 ∧ 0 ≤ (i22 : Int) ∧ (i22 : Int) ≤ (a1.Nets.length : Int)) <|
 bnd (ref_inNets ((a1.Nets.take (Int.toNat (i22 : Int))).drop (Int.toNat 0)) x31) fun r47 =>
 cnd r47 (some (.ret 7)) (some (.go ()))))
theorem ref_checkList_b2_r (a0 : List PartType) (a1 : Netlist) (i22 : Nat) (x23 : Net) (i30 : Nat) (o : Stp Unit Int) (hi : i30 < x23.Pins.length) (h : ref_checkList_b2 a0 a1 i22 x23 i30 = some o) :
    Runs PG 132 0 ref_checkList_c2 (ref_checkList_F2 a0 a1 i22 x23 i30 ) (ref_checkList_H2 a0 a1 i22 x23 i30 ) (stpOc (fun s' => .nor (ref_checkList_F2 a0 a1 i22 x23 (i30 + 1) ) (ref_checkList_H2 a0 a1 i22 x23 (i30 + 1) )) (ref_checkList_B2 a0 a1 i22 x23) ref_checkList_R o) := by
  unfold ref_checkList_b2 at h
  refine Runs.len (s := 78) (sz := 2) (xs := List.map e_Pin x23.Pins) (by kernel_rfl) fun hl => ?_
  have hM : x23.Pins.length ≤ lim := len_of hl
  obtain ⟨x31, h32, h⟩ := bnd_e h
  obtain ⟨r33, h34, h⟩ := bnd_e h
  rcases cnd_e h with ⟨h35, h⟩ | ⟨h35, h⟩
  · have h := Option.some.inj h
    subst h
    exact Runs.path XTok PGmix [.r [], .b true, .r [.el (e_Pin x31), .id 2], .r [.val (bA r33)], .b true, .r []] [] (an (lt_true hi) (an (idx_ok e_Pin h32) (an (ref_HasPin_ok a0 a1 x31 r33 h34) h35))) (by kernel_rfl)
  · obtain ⟨v36, h37, h⟩ := bnd1_e h
    let q44_f : Fr := [(0, lA 2 (List.map e_PartType a0)), (3, .t (.v (.ptr 0 0))), (7, iA (i22 : Int)), (8, .t (.v (.ptr 1 0))), (9, iA (i30 : Int)), (10, .t (.v (.ptr 2 0))), (55, lA 3 (List.map e_Net a1.Nets)), (56, iA (a1.Nets.length : Int)), (57, iA (i22 : Int)), (78, lA 2 (List.map e_Pin x23.Pins)), (79, iA (x23.Pins.length : Int)), (80, iA (i30 : Int))]
    let q44_g : Hp := [(0, .cells 26 [.c (.sl 2 (List.map e_Part a1.Parts)), .c (.sl 3 (List.map e_Net a1.Nets))]), (1, .cells 53 [.c (sC x23.Name), .c (.sl 2 (List.map e_Pin x23.Pins)), .c (.sl 1 (List.map e_str x23.Ports))]), (2, .cells 55 [.c (sC x31.Part), .c (sC x31.Pin)])]
    let q44_f' : Fr := [(0, lA 2 (List.map e_PartType a0)), (3, .t (.v (.ptr 0 0))), (7, iA (i22 : Int)), (8, .t (.v (.ptr 1 0))), (10, .t (.v (.ptr 2 0))), (55, lA 3 (List.map e_Net a1.Nets)), (56, iA (a1.Nets.length : Int)), (57, iA (i22 : Int)), (78, lA 2 (List.map e_Pin x23.Pins)), (79, iA (x23.Pins.length : Int)), (80, iA (i30 : Int)), (91, bA v36)]
    let q44_g' : Hp := [(0, .cells 26 [.c (.sl 2 (List.map e_Part a1.Parts)), .c (.sl 3 (List.map e_Net a1.Nets))]), (1, .cells 53 [.c (sC x23.Name), .c (.sl 2 (List.map e_Pin x23.Pins)), .c (.sl 1 (List.map e_str x23.Ports))]), (2, .cells 55 [.c (sC x31.Part), .c (sC x31.Pin)])]
    have R38 : Runs PG 132 0 (cL (cR (cR (cL (cR (cL (cL (cR (cR ref_checkList_c2))))))))) q44_f q44_g (.nor q44_f' q44_g') := by
      rcases cnd_e h37 with ⟨h39, h37⟩ | ⟨h39, h37⟩
      · obtain ⟨x40, h41, h37⟩ := bnd_e h37
        obtain ⟨r42, h43, h37⟩ := bnd_e h37
        have h37 := Option.some.inj h37
        subst h37
        exact Runs.path XTok PGmix [.d [([], []), ([], []), ([], []), ([], [.b true]), ([1], [.b true]), ([], [.b true]), ([], [.b true]), ([], [.b true, .el (e_Pin x40)]), ([], [.b true]), ([2], [.b true]), ([], [.b true, .val (bA r42)]), ([], [.b true]), ([], [.b true]), ([], [])]] [] (an h39 (an h39 (an h39 (an h39 (an h39 (an (idx_ok e_Pin h41) (an h39 (an h39 (an h39 (an (ref_before_ok x40 x31 r42 h43) (an h39 h39))))))))))) (by kernel_rfl)
      · have h37 := Option.some.inj h37
        subst h37
        exact Runs.path XTok PGmix [.d [([], []), ([], []), ([], []), ([], [.b false]), ([], [.b false]), ([], [.b false]), ([], [.b false]), ([], [.b false]), ([], [.b false]), ([], [.b false]), ([], [.b false]), ([], [.b false]), ([], [.b false]), ([], [])]] [] (an h39 (an h39 (an h39 (an h39 (an h39 (an h39 (an h39 (an h39 (an h39 h39))))))))) (by kernel_rfl)
    rcases cnd_e h with ⟨h45, h⟩ | ⟨h45, h⟩
    · have h := Option.some.inj h
      subst h
      exact Runs.path XTok PGmix [.r [], .b true, .r [.el (e_Pin x31), .id 2], .r [.val (bA r33)], .b false, .s q44_f q44_g [] (.nor q44_f' q44_g'), .b true, .r []] [] (an (lt_true hi) (an (idx_ok e_Pin h32) (an (ref_HasPin_ok a0 a1 x31 r33 h34) (an h35 (an R38 h45))))) (by kernel_rfl)
    · obtain ⟨h46, h⟩ := grd_e h
      obtain ⟨r47, h48, h⟩ := bnd_e h
      rcases cnd_e h with ⟨h49, h⟩ | ⟨h49, h⟩
      · have h := Option.some.inj h
        subst h
        exact Runs.path XTok PGmix [.r [], .b true, .r [.el (e_Pin x31), .id 2], .r [.val (bA r33)], .b false, .s q44_f q44_g [] (.nor q44_f' q44_g'), .b false, .d [([], []), ([0], []), ([], []), ([], [.eq 109 (lA 3 (List.map e_Net ((a1.Nets.take (Int.toNat (i22 : Int))).drop (Int.toNat 0))))]), ([2], []), ([], [.val (bA r47)]), ([], [])], .b true, .r []] [] (an (lt_true hi) (an (idx_ok e_Pin h32) (an (ref_HasPin_ok a0 a1 x31 r33 h34) (an h35 (an R38 (an h45 (an (cut_lh e_Net h46) (an (cut_eq 3 e_Net a1.Nets (Int.toNat (i22 : Int)) (Int.toNat 0)) (an (ref_inNets_ok ((a1.Nets.take (Int.toNat (i22 : Int))).drop (Int.toNat 0)) x31 r47 h48) h49))))))))) (by kernel_rfl)
      · have h := Option.some.inj h
        subst h
        exact Runs.path XTok PGmix [.r [], .b true, .r [.el (e_Pin x31), .id 2], .r [.val (bA r33)], .b false, .s q44_f q44_g [] (.nor q44_f' q44_g'), .b false, .d [([], []), ([0], []), ([], []), ([], [.eq 109 (lA 3 (List.map e_Net ((a1.Nets.take (Int.toNat (i22 : Int))).drop (Int.toNat 0))))]), ([2], []), ([], [.val (bA r47)]), ([], [])], .b false, .r [.eq 112 (iA ((i30 + 1 : Nat) : Int))]] [] (an (lt_true hi) (an (idx_ok e_Pin h32) (an (ref_HasPin_ok a0 a1 x31 r33 h34) (an h35 (an R38 (an h45 (an (cut_lh e_Net h46) (an (cut_eq 3 e_Net a1.Nets (Int.toNat (i22 : Int)) (Int.toNat 0)) (an (ref_inNets_ok ((a1.Nets.take (Int.toNat (i22 : Int))).drop (Int.toNat 0)) x31 r47 h48) (an h49 (wrap_eq hi hM))))))))))) (by kernel_rfl)
theorem ref_checkList_b2_e (a0 : List PartType) (a1 : Netlist) (i22 : Nat) (x23 : Net) : Runs PG 132 0 ref_checkList_c2 (ref_checkList_F2 a0 a1 i22 x23 (x23.Pins.length) ) (ref_checkList_H2 a0 a1 i22 x23 (x23.Pins.length) ) (ref_checkList_B2 a0 a1 i22 x23 ()) := by
  exact Runs.path XTok PGmix [.r [], .b false] [] (lt_false (x23.Pins.length)) (by kernel_rfl)
theorem ref_checkList_l2 (a0 : List PartType) (a1 : Netlist) (i22 : Nat) (x23 : Net) (r : Fin' Unit Int) (h : forN (fun i30 s => ref_checkList_b2 a0 a1 i22 x23 i30 ) (x23.Pins.length) 0 () = some r) : Runs PG 132 0 (cL (cR (cL (cR (cR (cL (cL (cR (cR ref_checkList_c1))))))))) (ref_checkList_F2 a0 a1 i22 x23 0 ) (ref_checkList_H2 a0 a1 i22 x23 0 ) (finOc (ref_checkList_B2 a0 a1 i22 x23) ref_checkList_R r) :=
  Runs.loop' (by kernel_rfl) (forN_rounds (σ := Unit) (ρ := Int) (body := fun i30 s => ref_checkList_b2 a0 a1 i22 x23 i30 ) (F := fun i30 s => ref_checkList_F2 a0 a1 i22 x23 i30 ) (H := fun i30 s => ref_checkList_H2 a0 a1 i22 x23 i30 ) (B := ref_checkList_B2 a0 a1 i22 x23) (R := ref_checkList_R) (M := x23.Pins.length) (fun _ => rfl) (fun _ => rfl) (fun s => ref_checkList_b2_e a0 a1 i22 x23 ) (fun i s o hi h => ref_checkList_b2_r a0 a1 i22 x23 i o hi h) _ 0 _ r (Nat.zero_add _) h)
noncomputable def ref_checkList_F1 (a0 : List PartType) (a1 : Netlist) (i22 : Nat) : Fr := [(0, lA 2 (List.map e_PartType a0)), (3, .t (.v (.ptr 0 0))), (55, lA 3 (List.map e_Net a1.Nets)), (56, iA (a1.Nets.length : Int)), (57, iA (i22 : Int))]
noncomputable def ref_checkList_H1 (a0 : List PartType) (a1 : Netlist) (i22 : Nat) : Hp := [(0, .cells 26 [.c (.sl 2 (List.map e_Part a1.Parts)), .c (.sl 3 (List.map e_Net a1.Nets))])]
noncomputable def ref_checkList_B1 (a0 : List PartType) (a1 : Netlist) (s : Unit) : Oc := .ex 3 [] []
noncomputable def ref_checkList_b1 (a0 : List PartType) (a1 : Netlist) (i22 : Nat) : Option (Stp Unit Int) :=
 bnd (atI a1.Nets (i22 : Int)) fun x23 =>
 bnd (ref_IsPath x23.Name) fun r25 =>
 cnd (!r25) (some (.ret 5)) (cnd ((x23.Pins.length : Int) == 0) (some (.ret 9)) (cnd (decide ((x23.Pins.length : Int) > 500)) (some (.ret 2)) (aft0 (forN (fun i30 s => ref_checkList_b2 a0 a1 i22 x23 i30 ) (x23.Pins.length) 0 ()) (
 cnd (decide ((x23.Ports.length : Int) > 0)) (some (.ret 3)) (bnd1 (cnd (decide ((i22 : Int) > 0)) (bnd (atI a1.Nets (w64 ((i22 : Int) - 1))) fun x57 =>
 some (sLe x23.Name x57.Name)) (some false)) fun v53 =>
 cnd v53 (some (.ret 8)) (some (.go ()))))
 (fun r51 =>
 some (.ret r51)))))
theorem ref_checkList_b1_r (a0 : List PartType) (a1 : Netlist) (i22 : Nat) (o : Stp Unit Int) (hi : i22 < a1.Nets.length) (h : ref_checkList_b1 a0 a1 i22 = some o) :
    Runs PG 132 0 ref_checkList_c1 (ref_checkList_F1 a0 a1 i22 ) (ref_checkList_H1 a0 a1 i22 ) (stpOc (fun s' => .nor (ref_checkList_F1 a0 a1 (i22 + 1) ) (ref_checkList_H1 a0 a1 (i22 + 1) )) (ref_checkList_B1 a0 a1) ref_checkList_R o) := by
  unfold ref_checkList_b1 at h
  refine Runs.len (s := 55) (sz := 3) (xs := List.map e_Net a1.Nets) (by kernel_rfl) fun hl => ?_
  have hM : a1.Nets.length ≤ lim := len_of hl
  obtain ⟨x23, h24, h⟩ := bnd_e h
  obtain ⟨r25, h26, h⟩ := bnd_e h
  rcases cnd_e h with ⟨h27, h⟩ | ⟨h27, h⟩
  · have h := Option.some.inj h
    subst h
    exact Runs.path XTok PGmix [.r [], .b true, .r [.el (e_Net x23), .id 1], .r [.val (bA r25)], .b true, .r []] [] (an (lt_true hi) (an (idx_ok e_Net h24) (an (ref_IsPath_ok x23.Name r25 h26) h27))) (by kernel_rfl)
  · rcases cnd_e h with ⟨h28, h⟩ | ⟨h28, h⟩
    · have h := Option.some.inj h
      subst h
      exact Runs.path XTok PGmix [.r [], .b true, .r [.el (e_Net x23), .id 1], .r [.val (bA r25)], .b false, .r [.eq 70 (iA (x23.Pins.length : Int))], .b true, .r []] [] (an (lt_true hi) (an (idx_ok e_Net h24) (an (ref_IsPath_ok x23.Name r25 h26) (an h27 (an (leni_eq e_Pin x23.Pins) h28))))) (by kernel_rfl)
    · rcases cnd_e h with ⟨h29, h⟩ | ⟨h29, h⟩
      · have h := Option.some.inj h
        subst h
        exact Runs.path XTok PGmix [.r [], .b true, .r [.el (e_Net x23), .id 1], .r [.val (bA r25)], .b false, .r [.eq 70 (iA (x23.Pins.length : Int))], .b false, .r [.eq 75 (iA (x23.Pins.length : Int))], .b true, .r []] [] (an (lt_true hi) (an (idx_ok e_Net h24) (an (ref_IsPath_ok x23.Name r25 h26) (an h27 (an (leni_eq e_Pin x23.Pins) (an h28 (an (leni_eq e_Pin x23.Pins) h29))))))) (by kernel_rfl)
      · rcases aft0_e h with ⟨h50, h⟩ | ⟨r51, h50, h⟩
        · rcases cnd_e h with ⟨h52, h⟩ | ⟨h52, h⟩
          · have h := Option.some.inj h
            subst h
            exact Runs.path XTok PGmix [.r [], .b true, .r [.el (e_Net x23), .id 1], .r [.val (bA r25)], .b false, .r [.eq 70 (iA (x23.Pins.length : Int))], .b false, .r [.eq 75 (iA (x23.Pins.length : Int))], .b false, .r [.eq 79 (iA (x23.Pins.length : Int))], .s (ref_checkList_F2 a0 a1 i22 x23 0 ) (ref_checkList_H2 a0 a1 i22 x23 0 ) [] (ref_checkList_B2 a0 a1 i22 x23 ()), .r [.eq 115 (iA (x23.Ports.length : Int))], .b true, .r []] [] (an (lt_true hi) (an (idx_ok e_Net h24) (an (ref_IsPath_ok x23.Name r25 h26) (an h27 (an (leni_eq e_Pin x23.Pins) (an h28 (an (leni_eq e_Pin x23.Pins) (an h29 (an (leni_eq e_Pin x23.Pins) (an (ref_checkList_l2 a0 a1 i22 x23 (.fin ()) h50) (an (leni_eq e_str x23.Ports) h52))))))))))) (by kernel_rfl)
          · obtain ⟨v53, h54, h⟩ := bnd1_e h
            let q59_f : Fr := [(0, lA 2 (List.map e_PartType a0)), (3, .t (.v (.ptr 0 0))), (7, iA (i22 : Int)), (8, .t (.v (.ptr 1 0))), (55, lA 3 (List.map e_Net a1.Nets)), (56, iA (a1.Nets.length : Int)), (57, iA (i22 : Int))]
            let q59_g : Hp := [(0, .cells 26 [.c (.sl 2 (List.map e_Part a1.Parts)), .c (.sl 3 (List.map e_Net a1.Nets))]), (1, .cells 53 [.c (sC x23.Name), .c (.sl 2 (List.map e_Pin x23.Pins)), .c (.sl 1 (List.map e_str x23.Ports))])]
            let q59_f' : Fr := [(0, lA 2 (List.map e_PartType a0)), (3, .t (.v (.ptr 0 0))), (55, lA 3 (List.map e_Net a1.Nets)), (56, iA (a1.Nets.length : Int)), (57, iA (i22 : Int)), (130, bA v53)]
            let q59_g' : Hp := [(0, .cells 26 [.c (.sl 2 (List.map e_Part a1.Parts)), .c (.sl 3 (List.map e_Net a1.Nets))])]
            have R55 : Runs PG 132 0 (cL (cR (cR (cR (cR (cL (cL (cR (cR ref_checkList_c1))))))))) q59_f q59_g (.nor q59_f' q59_g') := by
              rcases cnd_e h54 with ⟨h56, h54⟩ | ⟨h56, h54⟩
              · obtain ⟨x57, h58, h54⟩ := bnd_e h54
                have h54 := Option.some.inj h54
                subst h54
                exact Runs.path XTok PGmix [.d [([], []), ([], []), ([], []), ([], [.b true]), ([1], [.b true]), ([], [.b true]), ([0], [.b true]), ([], [.b true]), ([], [.b true]), ([], [.b true, .el (e_Net x57)]), ([], [.b true]), ([], [.b true]), ([], [.b true]), ([], [.b true])]] [] (an h56 (an h56 (an h56 (an h56 (an h56 (an h56 (an h56 (an (idx_ok e_Net h58) (an h56 (an h56 (an h56 h56))))))))))) (by kernel_rfl)
              · have h54 := Option.some.inj h54
                subst h54
                exact Runs.path XTok PGmix [.d [([], []), ([], []), ([], []), ([], [.b false]), ([], [.b false]), ([], [.b false]), ([], [.b false]), ([], [.b false]), ([], [.b false]), ([], [.b false]), ([], [.b false]), ([], [.b false]), ([], [.b false]), ([], [.b false])]] [] (an h56 (an h56 (an h56 (an h56 (an h56 (an h56 (an h56 (an h56 (an h56 (an h56 h56)))))))))) (by kernel_rfl)
            rcases cnd_e h with ⟨h60, h⟩ | ⟨h60, h⟩
            · have h := Option.some.inj h
              subst h
              exact Runs.path XTok PGmix [.r [], .b true, .r [.el (e_Net x23), .id 1], .r [.val (bA r25)], .b false, .r [.eq 70 (iA (x23.Pins.length : Int))], .b false, .r [.eq 75 (iA (x23.Pins.length : Int))], .b false, .r [.eq 79 (iA (x23.Pins.length : Int))], .s (ref_checkList_F2 a0 a1 i22 x23 0 ) (ref_checkList_H2 a0 a1 i22 x23 0 ) [] (ref_checkList_B2 a0 a1 i22 x23 ()), .r [.eq 115 (iA (x23.Ports.length : Int))], .b false, .s q59_f q59_g [] (.nor q59_f' q59_g'), .b true, .r []] [] (an (lt_true hi) (an (idx_ok e_Net h24) (an (ref_IsPath_ok x23.Name r25 h26) (an h27 (an (leni_eq e_Pin x23.Pins) (an h28 (an (leni_eq e_Pin x23.Pins) (an h29 (an (leni_eq e_Pin x23.Pins) (an (ref_checkList_l2 a0 a1 i22 x23 (.fin ()) h50) (an (leni_eq e_str x23.Ports) (an h52 (an R55 h60))))))))))))) (by kernel_rfl)
            · have h := Option.some.inj h
              subst h
              exact Runs.path XTok PGmix [.r [], .b true, .r [.el (e_Net x23), .id 1], .r [.val (bA r25)], .b false, .r [.eq 70 (iA (x23.Pins.length : Int))], .b false, .r [.eq 75 (iA (x23.Pins.length : Int))], .b false, .r [.eq 79 (iA (x23.Pins.length : Int))], .s (ref_checkList_F2 a0 a1 i22 x23 0 ) (ref_checkList_H2 a0 a1 i22 x23 0 ) [] (ref_checkList_B2 a0 a1 i22 x23 ()), .r [.eq 115 (iA (x23.Ports.length : Int))], .b false, .s q59_f q59_g [] (.nor q59_f' q59_g'), .b false, .r [.eq 131 (iA ((i22 + 1 : Nat) : Int))]] [] (an (lt_true hi) (an (idx_ok e_Net h24) (an (ref_IsPath_ok x23.Name r25 h26) (an h27 (an (leni_eq e_Pin x23.Pins) (an h28 (an (leni_eq e_Pin x23.Pins) (an h29 (an (leni_eq e_Pin x23.Pins) (an (ref_checkList_l2 a0 a1 i22 x23 (.fin ()) h50) (an (leni_eq e_str x23.Ports) (an h52 (an R55 (an h60 (wrap_eq hi hM))))))))))))))) (by kernel_rfl)
        · have h := Option.some.inj h
          subst h
          exact Runs.path XTok PGmix [.r [], .b true, .r [.el (e_Net x23), .id 1], .r [.val (bA r25)], .b false, .r [.eq 70 (iA (x23.Pins.length : Int))], .b false, .r [.eq 75 (iA (x23.Pins.length : Int))], .b false, .r [.eq 79 (iA (x23.Pins.length : Int))], .s (ref_checkList_F2 a0 a1 i22 x23 0 ) (ref_checkList_H2 a0 a1 i22 x23 0 ) [] (ref_checkList_R r51)] [] (an (lt_true hi) (an (idx_ok e_Net h24) (an (ref_IsPath_ok x23.Name r25 h26) (an h27 (an (leni_eq e_Pin x23.Pins) (an h28 (an (leni_eq e_Pin x23.Pins) (an h29 (an (leni_eq e_Pin x23.Pins) (ref_checkList_l2 a0 a1 i22 x23 (.ret r51) h50)))))))))) (by kernel_rfl)
theorem ref_checkList_b1_e (a0 : List PartType) (a1 : Netlist) : Runs PG 132 0 ref_checkList_c1 (ref_checkList_F1 a0 a1 (a1.Nets.length) ) (ref_checkList_H1 a0 a1 (a1.Nets.length) ) (ref_checkList_B1 a0 a1 ()) := by
  exact Runs.path XTok PGmix [.r [], .b false] [] (lt_false (a1.Nets.length)) (by kernel_rfl)
theorem ref_checkList_l1 (a0 : List PartType) (a1 : Netlist) (r : Fin' Unit Int) (h : forN (fun i22 s => ref_checkList_b1 a0 a1 i22 ) (a1.Nets.length) 0 () = some r) : Runs PG 132 0 (cL (cR (cL (cR (cR (cR (cR ref_checkList_c))))))) (ref_checkList_F1 a0 a1 0 ) (ref_checkList_H1 a0 a1 0 ) (finOc (ref_checkList_B1 a0 a1) ref_checkList_R r) :=
  Runs.loop' (by kernel_rfl) (forN_rounds (σ := Unit) (ρ := Int) (body := fun i22 s => ref_checkList_b1 a0 a1 i22 ) (F := fun i22 s => ref_checkList_F1 a0 a1 i22 ) (H := fun i22 s => ref_checkList_H1 a0 a1 i22 ) (B := ref_checkList_B1 a0 a1) (R := ref_checkList_R) (M := a1.Nets.length) (fun _ => rfl) (fun _ => rfl) (fun s => ref_checkList_b1_e a0 a1 ) (fun i s o hi h => ref_checkList_b1_r a0 a1 i o hi h) _ 0 _ r (Nat.zero_add _) h)
noncomputable def ref_checkList (a0 : List PartType) (a1 : Netlist) : Option Int :=
 cnd (decide ((a1.Parts.length : Int) > 1000)) (some 2) (aft0 (forN (fun i2 s => ref_checkList_b0 a0 a1 i2 ) (a1.Parts.length) 0 ()) (
 cnd (decide ((a1.Nets.length : Int) > 1000)) (some 2) (aft0 (forN (fun i22 s => ref_checkList_b1 a0 a1 i22 ) (a1.Nets.length) 0 ()) (
 some 0)
 (fun r62 =>
 some r62)))
 (fun r20 =>
 some r20))
theorem ref_checkList_ok (a0 : List PartType) (a1 : Netlist) (r : Int) (h : ref_checkList a0 a1 = some r) : Spec PG 54 [lT 2 (List.map e_PartType a0), gT (e_Netlist a1)] [] (iA r) [] := by
  unfold ref_checkList at h
  rcases cnd_e h with ⟨h1, h⟩ | ⟨h1, h⟩
  · have h := Option.some.inj h
    subst h
    exact Spec.path XTok PGmix ref_checkList_fn 0 [.r [.id 0], .r [.eq 13 (iA (a1.Parts.length : Int))], .b true, .r []] (an (leni_eq e_Part a1.Parts) h1) (by kernel_rfl)
  · rcases aft0_e h with ⟨h19, h⟩ | ⟨r20, h19, h⟩
    · rcases cnd_e h with ⟨h21, h⟩ | ⟨h21, h⟩
      · have h := Option.some.inj h
        subst h
        exact Spec.path XTok PGmix ref_checkList_fn 0 [.r [.id 0], .r [.eq 13 (iA (a1.Parts.length : Int))], .b false, .r [.eq 17 (iA (a1.Parts.length : Int))], .s (ref_checkList_F0 a0 a1 0 ) (ref_checkList_H0 a0 a1 0 ) [] (ref_checkList_B0 a0 a1 ()), .r [.eq 52 (iA (a1.Nets.length : Int))], .b true, .r []] (an (leni_eq e_Part a1.Parts) (an h1 (an (leni_eq e_Part a1.Parts) (an (ref_checkList_l0 a0 a1 (.fin ()) h19) (an (leni_eq e_Net a1.Nets) h21))))) (by kernel_rfl)
      · rcases aft0_e h with ⟨h61, h⟩ | ⟨r62, h61, h⟩
        · have h := Option.some.inj h
          subst h
          exact Spec.path XTok PGmix ref_checkList_fn 0 [.r [.id 0], .r [.eq 13 (iA (a1.Parts.length : Int))], .b false, .r [.eq 17 (iA (a1.Parts.length : Int))], .s (ref_checkList_F0 a0 a1 0 ) (ref_checkList_H0 a0 a1 0 ) [] (ref_checkList_B0 a0 a1 ()), .r [.eq 52 (iA (a1.Nets.length : Int))], .b false, .r [.eq 56 (iA (a1.Nets.length : Int))], .s (ref_checkList_F1 a0 a1 0 ) (ref_checkList_H1 a0 a1 0 ) [] (ref_checkList_B1 a0 a1 ()), .r []] (an (leni_eq e_Part a1.Parts) (an h1 (an (leni_eq e_Part a1.Parts) (an (ref_checkList_l0 a0 a1 (.fin ()) h19) (an (leni_eq e_Net a1.Nets) (an h21 (an (leni_eq e_Net a1.Nets) (ref_checkList_l1 a0 a1 (.fin ()) h61)))))))) (by kernel_rfl)
        · have h := Option.some.inj h
          subst h
          exact Spec.path XTok PGmix ref_checkList_fn 0 [.r [.id 0], .r [.eq 13 (iA (a1.Parts.length : Int))], .b false, .r [.eq 17 (iA (a1.Parts.length : Int))], .s (ref_checkList_F0 a0 a1 0 ) (ref_checkList_H0 a0 a1 0 ) [] (ref_checkList_B0 a0 a1 ()), .r [.eq 52 (iA (a1.Nets.length : Int))], .b false, .r [.eq 56 (iA (a1.Nets.length : Int))], .s (ref_checkList_F1 a0 a1 0 ) (ref_checkList_H1 a0 a1 0 ) [] (ref_checkList_R r62)] (an (leni_eq e_Part a1.Parts) (an h1 (an (leni_eq e_Part a1.Parts) (an (ref_checkList_l0 a0 a1 (.fin ()) h19) (an (leni_eq e_Net a1.Nets) (an h21 (an (leni_eq e_Net a1.Nets) (ref_checkList_l1 a0 a1 (.ret r62) h61)))))))) (by kernel_rfl)
    · have h := Option.some.inj h
      subst h
      exact Spec.path XTok PGmix ref_checkList_fn 0 [.r [.id 0], .r [.eq 13 (iA (a1.Parts.length : Int))], .b false, .r [.eq 17 (iA (a1.Parts.length : Int))], .s (ref_checkList_F0 a0 a1 0 ) (ref_checkList_H0 a0 a1 0 ) [] (ref_checkList_R r20)] (an (leni_eq e_Part a1.Parts) (an h1 (an (leni_eq e_Part a1.Parts) (ref_checkList_l0 a0 a1 (.ret r20) h19)))) (by kernel_rfl)

noncomputable def ref_checkType_c : Code := (Go.Proofs.Tryz.f97.body).getD .skip
theorem ref_checkType_fn : FnOk PG 97 ref_checkType_c 99 [.tmp 2] := ⟨⟨Go.Proofs.Tryz.f97, by kernel_rfl, by kernel_rfl, by kernel_rfl, by kernel_rfl, by kernel_rfl⟩⟩
noncomputable def ref_checkType_c0 : Code := cL (cL (cR (cL (cR (cR ref_checkType_c)))))
noncomputable def ref_checkType_R (r : Int) : Oc := .ret [(2, iA r)] []
noncomputable def ref_checkType_F0 (a0 : PartType) (i6 : Nat) : Fr := [(1, .t (.v (.ptr 0 0))), (25, lA 3 (List.map e_PinType a0.Pins)), (26, iA (a0.Pins.length : Int)), (27, iA (i6 : Int))]
noncomputable def ref_checkType_H0 (a0 : PartType) (i6 : Nat) : Hp := [(0, .cells 59 [.c (sC a0.Name), .c (.sl 3 (List.map e_PinType a0.Pins))])]
noncomputable def ref_checkType_B0 (a0 : PartType) (s : Unit) : Oc := .ex 1 [(1, .t (.v (.ptr 0 0)))] [(0, .cells 59 [.c (sC a0.Name), .c (.sl 3 (List.map e_PinType a0.Pins))])]
noncomputable def ref_checkType_b0 (a0 : PartType) (i6 : Nat) : Option (Stp Unit Int) :=
 bnd (atI a0.Pins (i6 : Int)) fun x7 =>
 bnd (ref_IsWord x7.Name) fun r9 =>
 cnd (!r9) (some (.ret 5)) (bnd (ref_within x7.Kind 1 7) fun r12 =>
 cnd (!r12) (some (.ret 4)) (bnd (ref_within x7.Group 0 200) fun r15 =>
 cnd (!r15) (some (.ret 1)) (bnd1 (cnd (decide ((i6 : Int) > 0)) (bnd (atI a0.Pins (w64 ((i6 : Int) - 1))) fun x22 =>
 some (sLe x7.Name x22.Name)) (some false)) fun v18 =>
 cnd v18 (some (.ret 8)) (some (.go ())))))
theorem ref_checkType_b0_r (a0 : PartType) (i6 : Nat) (o : Stp Unit Int) (hi : i6 < a0.Pins.length) (h : ref_checkType_b0 a0 i6 = some o) :
    Runs PG 99 0 ref_checkType_c0 (ref_checkType_F0 a0 i6 ) (ref_checkType_H0 a0 i6 ) (stpOc (fun s' => .nor (ref_checkType_F0 a0 (i6 + 1) ) (ref_checkType_H0 a0 (i6 + 1) )) (ref_checkType_B0 a0) ref_checkType_R o) := by
  unfold ref_checkType_b0 at h
  refine Runs.len (s := 25) (sz := 3) (xs := List.map e_PinType a0.Pins) (by kernel_rfl) fun hl => ?_
  have hM : a0.Pins.length ≤ lim := len_of hl
  obtain ⟨x7, h8, h⟩ := bnd_e h
  obtain ⟨r9, h10, h⟩ := bnd_e h
  rcases cnd_e h with ⟨h11, h⟩ | ⟨h11, h⟩
  · have h := Option.some.inj h
    subst h
    exact Runs.path XTok PGmix [.r [], .b true, .r [.el (e_PinType x7), .id 1], .r [.val (bA r9)], .b true, .r []] [] (an (lt_true hi) (an (idx_ok e_PinType h8) (an (ref_IsWord_ok x7.Name r9 h10) h11))) (by kernel_rfl)
  · obtain ⟨r12, h13, h⟩ := bnd_e h
    rcases cnd_e h with ⟨h14, h⟩ | ⟨h14, h⟩
    · have h := Option.some.inj h
      subst h
      exact Runs.path XTok PGmix [.r [], .b true, .r [.el (e_PinType x7), .id 1], .r [.val (bA r9)], .b false, .r [.val (bA r12)], .b true, .r []] [] (an (lt_true hi) (an (idx_ok e_PinType h8) (an (ref_IsWord_ok x7.Name r9 h10) (an h11 (an (ref_within_ok x7.Kind 1 7 r12 h13) h14))))) (by kernel_rfl)
    · obtain ⟨r15, h16, h⟩ := bnd_e h
      rcases cnd_e h with ⟨h17, h⟩ | ⟨h17, h⟩
      · have h := Option.some.inj h
        subst h
        exact Runs.path XTok PGmix [.r [], .b true, .r [.el (e_PinType x7), .id 1], .r [.val (bA r9)], .b false, .r [.val (bA r12)], .b false, .r [.val (bA r15)], .b true, .r []] [] (an (lt_true hi) (an (idx_ok e_PinType h8) (an (ref_IsWord_ok x7.Name r9 h10) (an h11 (an (ref_within_ok x7.Kind 1 7 r12 h13) (an h14 (an (ref_within_ok x7.Group 0 200 r15 h16) h17))))))) (by kernel_rfl)
      · obtain ⟨v18, h19, h⟩ := bnd1_e h
        let q24_f : Fr := [(1, .t (.v (.ptr 0 0))), (3, iA (i6 : Int)), (4, .t (.v (.ptr 1 0))), (25, lA 3 (List.map e_PinType a0.Pins)), (26, iA (a0.Pins.length : Int)), (27, iA (i6 : Int))]
        let q24_g : Hp := [(0, .cells 59 [.c (sC a0.Name), .c (.sl 3 (List.map e_PinType a0.Pins))]), (1, .cells 70 [.c (sC x7.Name), .c (iC x7.Kind), .c (iC x7.Group)])]
        let q24_f' : Fr := [(1, .t (.v (.ptr 0 0))), (25, lA 3 (List.map e_PinType a0.Pins)), (26, iA (a0.Pins.length : Int)), (27, iA (i6 : Int)), (47, bA v18)]
        let q24_g' : Hp := [(0, .cells 59 [.c (sC a0.Name), .c (.sl 3 (List.map e_PinType a0.Pins))])]
        have R20 : Runs PG 99 0 (cL (cR (cR (cR (cR (cR (cR (cL (cR (cL (cL (cR (cR ref_checkType_c0))))))))))))) q24_f q24_g (.nor q24_f' q24_g') := by
          rcases cnd_e h19 with ⟨h21, h19⟩ | ⟨h21, h19⟩
          · obtain ⟨x22, h23, h19⟩ := bnd_e h19
            have h19 := Option.some.inj h19
            subst h19
            exact Runs.path XTok PGmix [.d [([], []), ([], []), ([], []), ([], [.b true]), ([1], [.b true]), ([], [.b true]), ([0], [.b true]), ([], [.b true]), ([], [.b true]), ([], [.b true, .el (e_PinType x22)]), ([], [.b true]), ([], [.b true]), ([], [.b true]), ([], [.b true]), ([], [])]] [] (an h21 (an h21 (an h21 (an h21 (an h21 (an h21 (an h21 (an (idx_ok e_PinType h23) (an h21 (an h21 (an h21 h21))))))))))) (by kernel_rfl)
          · have h19 := Option.some.inj h19
            subst h19
            exact Runs.path XTok PGmix [.d [([], []), ([], []), ([], []), ([], [.b false]), ([], [.b false]), ([], [.b false]), ([], [.b false]), ([], [.b false]), ([], [.b false]), ([], [.b false]), ([], [.b false]), ([], [.b false]), ([], [.b false]), ([], [.b false]), ([], [])]] [] (an h21 (an h21 (an h21 (an h21 (an h21 (an h21 (an h21 (an h21 (an h21 (an h21 h21)))))))))) (by kernel_rfl)
        rcases cnd_e h with ⟨h25, h⟩ | ⟨h25, h⟩
        · have h := Option.some.inj h
          subst h
          exact Runs.path XTok PGmix [.r [], .b true, .r [.el (e_PinType x7), .id 1], .r [.val (bA r9)], .b false, .r [.val (bA r12)], .b false, .r [.val (bA r15)], .b false, .s q24_f q24_g [] (.nor q24_f' q24_g'), .b true, .r []] [] (an (lt_true hi) (an (idx_ok e_PinType h8) (an (ref_IsWord_ok x7.Name r9 h10) (an h11 (an (ref_within_ok x7.Kind 1 7 r12 h13) (an h14 (an (ref_within_ok x7.Group 0 200 r15 h16) (an h17 (an R20 h25))))))))) (by kernel_rfl)
        · have h := Option.some.inj h
          subst h
          exact Runs.path XTok PGmix [.r [], .b true, .r [.el (e_PinType x7), .id 1], .r [.val (bA r9)], .b false, .r [.val (bA r12)], .b false, .r [.val (bA r15)], .b false, .s q24_f q24_g [] (.nor q24_f' q24_g'), .b false, .r [.eq 62 (iA ((i6 + 1 : Nat) : Int))]] [] (an (lt_true hi) (an (idx_ok e_PinType h8) (an (ref_IsWord_ok x7.Name r9 h10) (an h11 (an (ref_within_ok x7.Kind 1 7 r12 h13) (an h14 (an (ref_within_ok x7.Group 0 200 r15 h16) (an h17 (an R20 (an h25 (wrap_eq hi hM))))))))))) (by kernel_rfl)
theorem ref_checkType_b0_e (a0 : PartType) : Runs PG 99 0 ref_checkType_c0 (ref_checkType_F0 a0 (a0.Pins.length) ) (ref_checkType_H0 a0 (a0.Pins.length) ) (ref_checkType_B0 a0 ()) := by
  exact Runs.path XTok PGmix [.r [], .b false] [] (lt_false (a0.Pins.length)) (by kernel_rfl)
theorem ref_checkType_l0 (a0 : PartType) (r : Fin' Unit Int) (h : forN (fun i6 s => ref_checkType_b0 a0 i6 ) (a0.Pins.length) 0 () = some r) : Runs PG 99 0 (cL (cR (cL (cR (cR ref_checkType_c))))) (ref_checkType_F0 a0 0 ) (ref_checkType_H0 a0 0 ) (finOc (ref_checkType_B0 a0) ref_checkType_R r) :=
  Runs.loop' (by kernel_rfl) (forN_rounds (σ := Unit) (ρ := Int) (body := fun i6 s => ref_checkType_b0 a0 i6 ) (F := fun i6 s => ref_checkType_F0 a0 i6 ) (H := fun i6 s => ref_checkType_H0 a0 i6 ) (B := ref_checkType_B0 a0) (R := ref_checkType_R) (M := a0.Pins.length) (fun _ => rfl) (fun _ => rfl) (fun s => ref_checkType_b0_e a0 ) (fun i s o hi h => ref_checkType_b0_r a0 i o hi h) _ 0 _ r (Nat.zero_add _) h)
noncomputable def ref_checkType_c1 : Code := cL (cL (cR (cL (cR (cR (cR ref_checkType_c))))))
noncomputable def ref_checkType_c2 : Code := cL (cL (cR (cR (cL (cL (cR (cR ref_checkType_c1)))))))
noncomputable def ref_checkType_F2 (a0 : PartType) (i28 : Nat) (x29 : PinType) (i32 : Nat) : Fr := [(1, .t (.v (.ptr 0 0))), (6, .t (.v (.ptr 1 0))), (64, lA 3 (List.map e_PinType a0.Pins)), (65, iA (a0.Pins.length : Int)), (66, iA (i28 : Int)), (74, lA 3 (List.map e_PinType ((a0.Pins.take (Int.toNat (i28 : Int))).drop (Int.toNat 0)))), (75, iA (((a0.Pins.take (Int.toNat (i28 : Int))).drop (Int.toNat 0)).length : Int)), (76, iA (i32 : Int))]
noncomputable def ref_checkType_H2 (a0 : PartType) (i28 : Nat) (x29 : PinType) (i32 : Nat) : Hp := [(0, .cells 59 [.c (sC a0.Name), .c (.sl 3 (List.map e_PinType a0.Pins))]), (1, .cells 70 [.c (sC x29.Name), .c (iC x29.Kind), .c (iC x29.Group)])]
noncomputable def ref_checkType_B2 (a0 : PartType) (i28 : Nat) (x29 : PinType) (s : Unit) : Oc := .ex 6 [(1, .t (.v (.ptr 0 0))), (64, lA 3 (List.map e_PinType a0.Pins)), (65, iA (a0.Pins.length : Int)), (66, iA (i28 : Int))] [(0, .cells 59 [.c (sC a0.Name), .c (.sl 3 (List.map e_PinType a0.Pins))])]
noncomputable def ref_checkType_b2 (a0 : PartType) (i28 : Nat) (x29 : PinType) (i32 : Nat) : Option (Stp Unit Int) :=
 bnd (atI ((a0.Pins.take (Int.toNat (i28 : Int))).drop (Int.toNat 0)) (i32 : Int)) fun x33 =>
 bnd1 (cnd (decide (x29.Group > 0)) (cnd (x29.Group == x33.Group) (some (x29.Kind != x33.Kind)) (some false)) (some false)) fun v35 =>
 cnd v35 (some (.ret 12)) (some (.go ()))
theorem ref_checkType_b2_r (a0 : PartType) (i28 : Nat) (x29 : PinType) (i32 : Nat) (o : Stp Unit Int) (hi : i32 < ((a0.Pins.take (Int.toNat (i28 : Int))).drop (Int.toNat 0)).length) (h : ref_checkType_b2 a0 i28 x29 i32 = some o) :
    Runs PG 99 0 ref_checkType_c2 (ref_checkType_F2 a0 i28 x29 i32 ) (ref_checkType_H2 a0 i28 x29 i32 ) (stpOc (fun s' => .nor (ref_checkType_F2 a0 i28 x29 (i32 + 1) ) (ref_checkType_H2 a0 i28 x29 (i32 + 1) )) (ref_checkType_B2 a0 i28 x29) ref_checkType_R o) := by
  unfold ref_checkType_b2 at h
  refine Runs.len (s := 74) (sz := 3) (xs := List.map e_PinType ((a0.Pins.take (Int.toNat (i28 : Int))).drop (Int.toNat 0))) (by kernel_rfl) fun hl => ?_
  have hM : ((a0.Pins.take (Int.toNat (i28 : Int))).drop (Int.toNat 0)).length ≤ lim := len_of hl
  obtain ⟨x33, h34, h⟩ := bnd_e h
  obtain ⟨v35, h36, h⟩ := bnd1_e h
  let q40_f : Fr := [(1, .t (.v (.ptr 0 0))), (6, .t (.v (.ptr 1 0))), (8, .t (.v (.ptr 2 0))), (64, lA 3 (List.map e_PinType a0.Pins)), (65, iA (a0.Pins.length : Int)), (66, iA (i28 : Int)), (74, lA 3 (List.map e_PinType ((a0.Pins.take (Int.toNat (i28 : Int))).drop (Int.toNat 0)))), (75, iA (((a0.Pins.take (Int.toNat (i28 : Int))).drop (Int.toNat 0)).length : Int)), (76, iA (i32 : Int))]
  let q40_g : Hp := [(0, .cells 59 [.c (sC a0.Name), .c (.sl 3 (List.map e_PinType a0.Pins))]), (1, .cells 70 [.c (sC x29.Name), .c (iC x29.Kind), .c (iC x29.Group)]), (2, .cells 70 [.c (sC x33.Name), .c (iC x33.Kind), .c (iC x33.Group)])]
  let q40_f' : Fr := [(1, .t (.v (.ptr 0 0))), (6, .t (.v (.ptr 1 0))), (64, lA 3 (List.map e_PinType a0.Pins)), (65, iA (a0.Pins.length : Int)), (66, iA (i28 : Int)), (74, lA 3 (List.map e_PinType ((a0.Pins.take (Int.toNat (i28 : Int))).drop (Int.toNat 0)))), (75, iA (((a0.Pins.take (Int.toNat (i28 : Int))).drop (Int.toNat 0)).length : Int)), (76, iA (i32 : Int)), (96, bA v35)]
  let q40_g' : Hp := [(0, .cells 59 [.c (sC a0.Name), .c (.sl 3 (List.map e_PinType a0.Pins))]), (1, .cells 70 [.c (sC x29.Name), .c (iC x29.Kind), .c (iC x29.Group)])]
  have R37 : Runs PG 99 0 (cL (cR (cL (cL (cR (cR ref_checkType_c2)))))) q40_f q40_g (.nor q40_f' q40_g') := by
    rcases cnd_e h36 with ⟨h38, h36⟩ | ⟨h38, h36⟩
    · rcases cnd_e h36 with ⟨h39, h36⟩ | ⟨h39, h36⟩
      · have h36 := Option.some.inj h36
        subst h36
        exact Runs.path XTok PGmix [.r [.b true, .b true, .b true, .b true, .b true, .b true, .b true, .b true, .b true, .b true, .b true, .b true]] [] (an h38 (an h38 (an h38 (an h38 (an h38 (an h38 (an h39 (an h39 (an h39 (an h39 (an h39 h39))))))))))) (by kernel_rfl)
      · have h36 := Option.some.inj h36
        subst h36
        exact Runs.path XTok PGmix [.r [.b true, .b true, .b true, .b true, .b true, .b true, .b false, .b false, .b false, .b false, .b false, .b false]] [] (an h38 (an h38 (an h38 (an h38 (an h38 (an h38 (an h39 (an h39 (an h39 (an h39 (an h39 h39))))))))))) (by kernel_rfl)
    · have h36 := Option.some.inj h36
      subst h36
      exact Runs.path XTok PGmix [.r [.b false, .b false, .b false, .b false, .b false, .b false, .b false, .b false, .b false, .b false, .b false, .b false]] [] (an h38 (an h38 (an h38 (an h38 (an h38 (an h38 (an (Eq.refl false) (an (Eq.refl false) (an (Eq.refl false) (an (Eq.refl false) (an (Eq.refl false) (Eq.refl false)))))))))))) (by kernel_rfl)
  rcases cnd_e h with ⟨h41, h⟩ | ⟨h41, h⟩
  · have h := Option.some.inj h
    subst h
    exact Runs.path XTok PGmix [.r [], .b true, .r [.el (e_PinType x33), .id 2], .s q40_f q40_g [] (.nor q40_f' q40_g'), .b true, .r []] [] (an (lt_true hi) (an (idx_ok e_PinType h34) (an R37 h41))) (by kernel_rfl)
  · have h := Option.some.inj h
    subst h
    exact Runs.path XTok PGmix [.r [], .b true, .r [.el (e_PinType x33), .id 2], .s q40_f q40_g [] (.nor q40_f' q40_g'), .b false, .r [.eq 97 (iA ((i32 + 1 : Nat) : Int))]] [] (an (lt_true hi) (an (idx_ok e_PinType h34) (an R37 (an h41 (wrap_eq hi hM))))) (by kernel_rfl)
theorem ref_checkType_b2_e (a0 : PartType) (i28 : Nat) (x29 : PinType) : Runs PG 99 0 ref_checkType_c2 (ref_checkType_F2 a0 i28 x29 (((a0.Pins.take (Int.toNat (i28 : Int))).drop (Int.toNat 0)).length) ) (ref_checkType_H2 a0 i28 x29 (((a0.Pins.take (Int.toNat (i28 : Int))).drop (Int.toNat 0)).length) ) (ref_checkType_B2 a0 i28 x29 ()) := by
  exact Runs.path XTok PGmix [.r [], .b false] [] (lt_false (((a0.Pins.take (Int.toNat (i28 : Int))).drop (Int.toNat 0)).length)) (by kernel_rfl)
theorem ref_checkType_l2 (a0 : PartType) (i28 : Nat) (x29 : PinType) (r : Fin' Unit Int) (h : forN (fun i32 s => ref_checkType_b2 a0 i28 x29 i32 ) (((a0.Pins.take (Int.toNat (i28 : Int))).drop (Int.toNat 0)).length) 0 () = some r) : Runs PG 99 0 (cL (cR (cR (cL (cL (cR (cR ref_checkType_c1))))))) (ref_checkType_F2 a0 i28 x29 0 ) (ref_checkType_H2 a0 i28 x29 0 ) (finOc (ref_checkType_B2 a0 i28 x29) ref_checkType_R r) :=
  Runs.loop' (by kernel_rfl) (forN_rounds (σ := Unit) (ρ := Int) (body := fun i32 s => ref_checkType_b2 a0 i28 x29 i32 ) (F := fun i32 s => ref_checkType_F2 a0 i28 x29 i32 ) (H := fun i32 s => ref_checkType_H2 a0 i28 x29 i32 ) (B := ref_checkType_B2 a0 i28 x29) (R := ref_checkType_R) (M := ((a0.Pins.take (Int.toNat (i28 : Int))).drop (Int.toNat 0)).length) (fun _ => rfl) (fun _ => rfl) (fun s => ref_checkType_b2_e a0 i28 x29 ) (fun i s o hi h => ref_checkType_b2_r a0 i28 x29 i o hi h) _ 0 _ r (Nat.zero_add _) h)
noncomputable def ref_checkType_F1 (a0 : PartType) (i28 : Nat) : Fr := [(1, .t (.v (.ptr 0 0))), (64, lA 3 (List.map e_PinType a0.Pins)), (65, iA (a0.Pins.length : Int)), (66, iA (i28 : Int))]
noncomputable def ref_checkType_H1 (a0 : PartType) (i28 : Nat) : Hp := [(0, .cells 59 [.c (sC a0.Name), .c (.sl 3 (List.map e_PinType a0.Pins))])]
noncomputable def ref_checkType_B1 (a0 : PartType) (s : Unit) : Oc := .ex 4 [] []
noncomputable def ref_checkType_b1 (a0 : PartType) (i28 : Nat) : Option (Stp Unit Int) :=
 bnd (atI a0.Pins (i28 : Int)) fun x29 =>
 grd ((0 : Int) ≤ 0 ∧ 0 ≤ (i28 : Int) ∧ (i28 : Int) ≤ (a0.Pins.length : Int)) <|
 aft0 (forN (fun i32 s => ref_checkType_b2 a0 i28 x29 i32 ) (((a0.Pins.take (Int.toNat (i28 : Int))).drop (Int.toNat 0)).length) 0 ()) (
 some (.go ()))
 (fun r43 =>
 some (.ret r43))
theorem ref_checkType_b1_r (a0 : PartType) (i28 : Nat) (o : Stp Unit Int) (hi : i28 < a0.Pins.length) (h : ref_checkType_b1 a0 i28 = some o) :
    Runs PG 99 0 ref_checkType_c1 (ref_checkType_F1 a0 i28 ) (ref_checkType_H1 a0 i28 ) (stpOc (fun s' => .nor (ref_checkType_F1 a0 (i28 + 1) ) (ref_checkType_H1 a0 (i28 + 1) )) (ref_checkType_B1 a0) ref_checkType_R o) := by
  unfold ref_checkType_b1 at h
  refine Runs.len (s := 64) (sz := 3) (xs := List.map e_PinType a0.Pins) (by kernel_rfl) fun hl => ?_
  have hM : a0.Pins.length ≤ lim := len_of hl
  obtain ⟨x29, h30, h⟩ := bnd_e h
  obtain ⟨h31, h⟩ := grd_e h
  rcases aft0_e h with ⟨h42, h⟩ | ⟨r43, h42, h⟩
  · have h := Option.some.inj h
    subst h
    exact Runs.path XTok PGmix [.r [], .b true, .r [.el (e_PinType x29), .id 1], .r [.eq 74 (lA 3 (List.map e_PinType ((a0.Pins.take (Int.toNat (i28 : Int))).drop (Int.toNat 0)))), .eq 75 (iA (((a0.Pins.take (Int.toNat (i28 : Int))).drop (Int.toNat 0)).length : Int))], .s (ref_checkType_F2 a0 i28 x29 0 ) (ref_checkType_H2 a0 i28 x29 0 ) [] (ref_checkType_B2 a0 i28 x29 ()), .r [.eq 98 (iA ((i28 + 1 : Nat) : Int))]] [] (an (lt_true hi) (an (idx_ok e_PinType h30) (an (cut_lh e_PinType h31) (an (cut_eq 3 e_PinType a0.Pins (Int.toNat (i28 : Int)) (Int.toNat 0)) (an (leni_eq e_PinType ((a0.Pins.take (Int.toNat (i28 : Int))).drop (Int.toNat 0))) (an (ref_checkType_l2 a0 i28 x29 (.fin ()) h42) (wrap_eq hi hM))))))) (by kernel_rfl)
  · have h := Option.some.inj h
    subst h
    exact Runs.path XTok PGmix [.r [], .b true, .r [.el (e_PinType x29), .id 1], .r [.eq 74 (lA 3 (List.map e_PinType ((a0.Pins.take (Int.toNat (i28 : Int))).drop (Int.toNat 0)))), .eq 75 (iA (((a0.Pins.take (Int.toNat (i28 : Int))).drop (Int.toNat 0)).length : Int))], .s (ref_checkType_F2 a0 i28 x29 0 ) (ref_checkType_H2 a0 i28 x29 0 ) [] (ref_checkType_R r43)] [] (an (lt_true hi) (an (idx_ok e_PinType h30) (an (cut_lh e_PinType h31) (an (cut_eq 3 e_PinType a0.Pins (Int.toNat (i28 : Int)) (Int.toNat 0)) (an (leni_eq e_PinType ((a0.Pins.take (Int.toNat (i28 : Int))).drop (Int.toNat 0))) (ref_checkType_l2 a0 i28 x29 (.ret r43) h42)))))) (by kernel_rfl)
theorem ref_checkType_b1_e (a0 : PartType) : Runs PG 99 0 ref_checkType_c1 (ref_checkType_F1 a0 (a0.Pins.length) ) (ref_checkType_H1 a0 (a0.Pins.length) ) (ref_checkType_B1 a0 ()) := by
  exact Runs.path XTok PGmix [.r [], .b false] [] (lt_false (a0.Pins.length)) (by kernel_rfl)
theorem ref_checkType_l1 (a0 : PartType) (r : Fin' Unit Int) (h : forN (fun i28 s => ref_checkType_b1 a0 i28 ) (a0.Pins.length) 0 () = some r) : Runs PG 99 0 (cL (cR (cL (cR (cR (cR ref_checkType_c)))))) (ref_checkType_F1 a0 0 ) (ref_checkType_H1 a0 0 ) (finOc (ref_checkType_B1 a0) ref_checkType_R r) :=
  Runs.loop' (by kernel_rfl) (forN_rounds (σ := Unit) (ρ := Int) (body := fun i28 s => ref_checkType_b1 a0 i28 ) (F := fun i28 s => ref_checkType_F1 a0 i28 ) (H := fun i28 s => ref_checkType_H1 a0 i28 ) (B := ref_checkType_B1 a0) (R := ref_checkType_R) (M := a0.Pins.length) (fun _ => rfl) (fun _ => rfl) (fun s => ref_checkType_b1_e a0 ) (fun i s o hi h => ref_checkType_b1_r a0 i o hi h) _ 0 _ r (Nat.zero_add _) h)
noncomputable def ref_checkType (a0 : PartType) : Option Int :=
 bnd (ref_IsWord a0.Name) fun r1 =>
 cnd (!r1) (some 5) (cnd ((a0.Pins.length : Int) == 0) (some 9) (cnd (decide ((a0.Pins.length : Int) > 200)) (some 2) (aft0 (forN (fun i6 s => ref_checkType_b0 a0 i6 ) (a0.Pins.length) 0 ()) (
 aft0 (forN (fun i28 s => ref_checkType_b1 a0 i28 ) (a0.Pins.length) 0 ()) (
 some 0)
 (fun r45 =>
 some r45))
 (fun r27 =>
 some r27))))
theorem ref_checkType_ok (a0 : PartType) (r : Int) (h : ref_checkType a0 = some r) : Spec PG 97 [gT (e_PartType a0)] [] (iA r) [] := by
  unfold ref_checkType at h
  obtain ⟨r1, h2, h⟩ := bnd_e h
  rcases cnd_e h with ⟨h3, h⟩ | ⟨h3, h⟩
  · have h := Option.some.inj h
    subst h
    exact Spec.path XTok PGmix ref_checkType_fn 0 [.r [.id 0], .r [.val (bA r1)], .b true, .r []] (an (ref_IsWord_ok a0.Name r1 h2) h3) (by kernel_rfl)
  · rcases cnd_e h with ⟨h4, h⟩ | ⟨h4, h⟩
    · have h := Option.some.inj h
      subst h
      exact Spec.path XTok PGmix ref_checkType_fn 0 [.r [.id 0], .r [.val (bA r1)], .b false, .r [.eq 17 (iA (a0.Pins.length : Int))], .b true, .r []] (an (ref_IsWord_ok a0.Name r1 h2) (an h3 (an (leni_eq e_PinType a0.Pins) h4))) (by kernel_rfl)
    · rcases cnd_e h with ⟨h5, h⟩ | ⟨h5, h⟩
      · have h := Option.some.inj h
        subst h
        exact Spec.path XTok PGmix ref_checkType_fn 0 [.r [.id 0], .r [.val (bA r1)], .b false, .r [.eq 17 (iA (a0.Pins.length : Int))], .b false, .r [.eq 22 (iA (a0.Pins.length : Int))], .b true, .r []] (an (ref_IsWord_ok a0.Name r1 h2) (an h3 (an (leni_eq e_PinType a0.Pins) (an h4 (an (leni_eq e_PinType a0.Pins) h5))))) (by kernel_rfl)
      · rcases aft0_e h with ⟨h26, h⟩ | ⟨r27, h26, h⟩
        · rcases aft0_e h with ⟨h44, h⟩ | ⟨r45, h44, h⟩
          · have h := Option.some.inj h
            subst h
            exact Spec.path XTok PGmix ref_checkType_fn 0 [.r [.id 0], .r [.val (bA r1)], .b false, .r [.eq 17 (iA (a0.Pins.length : Int))], .b false, .r [.eq 22 (iA (a0.Pins.length : Int))], .b false, .r [.eq 26 (iA (a0.Pins.length : Int))], .s (ref_checkType_F0 a0 0 ) (ref_checkType_H0 a0 0 ) [] (ref_checkType_B0 a0 ()), .r [.eq 65 (iA (a0.Pins.length : Int))], .s (ref_checkType_F1 a0 0 ) (ref_checkType_H1 a0 0 ) [] (ref_checkType_B1 a0 ()), .r []] (an (ref_IsWord_ok a0.Name r1 h2) (an h3 (an (leni_eq e_PinType a0.Pins) (an h4 (an (leni_eq e_PinType a0.Pins) (an h5 (an (leni_eq e_PinType a0.Pins) (an (ref_checkType_l0 a0 (.fin ()) h26) (an (leni_eq e_PinType a0.Pins) (ref_checkType_l1 a0 (.fin ()) h44)))))))))) (by kernel_rfl)
          · have h := Option.some.inj h
            subst h
            exact Spec.path XTok PGmix ref_checkType_fn 0 [.r [.id 0], .r [.val (bA r1)], .b false, .r [.eq 17 (iA (a0.Pins.length : Int))], .b false, .r [.eq 22 (iA (a0.Pins.length : Int))], .b false, .r [.eq 26 (iA (a0.Pins.length : Int))], .s (ref_checkType_F0 a0 0 ) (ref_checkType_H0 a0 0 ) [] (ref_checkType_B0 a0 ()), .r [.eq 65 (iA (a0.Pins.length : Int))], .s (ref_checkType_F1 a0 0 ) (ref_checkType_H1 a0 0 ) [] (ref_checkType_R r45)] (an (ref_IsWord_ok a0.Name r1 h2) (an h3 (an (leni_eq e_PinType a0.Pins) (an h4 (an (leni_eq e_PinType a0.Pins) (an h5 (an (leni_eq e_PinType a0.Pins) (an (ref_checkType_l0 a0 (.fin ()) h26) (an (leni_eq e_PinType a0.Pins) (ref_checkType_l1 a0 (.ret r45) h44)))))))))) (by kernel_rfl)
        · have h := Option.some.inj h
          subst h
          exact Spec.path XTok PGmix ref_checkType_fn 0 [.r [.id 0], .r [.val (bA r1)], .b false, .r [.eq 17 (iA (a0.Pins.length : Int))], .b false, .r [.eq 22 (iA (a0.Pins.length : Int))], .b false, .r [.eq 26 (iA (a0.Pins.length : Int))], .s (ref_checkType_F0 a0 0 ) (ref_checkType_H0 a0 0 ) [] (ref_checkType_R r27)] (an (ref_IsWord_ok a0.Name r1 h2) (an h3 (an (leni_eq e_PinType a0.Pins) (an h4 (an (leni_eq e_PinType a0.Pins) (an h5 (an (leni_eq e_PinType a0.Pins) (ref_checkType_l0 a0 (.ret r27) h26)))))))) (by kernel_rfl)

noncomputable def ref_CheckTypes_c : Code := (Go.Proofs.Tryz.f69.body).getD .skip
theorem ref_CheckTypes_fn : FnOk PG 69 ref_CheckTypes_c 35 [.tmp 2] := ⟨⟨Go.Proofs.Tryz.f69, by kernel_rfl, by kernel_rfl, by kernel_rfl, by kernel_rfl, by kernel_rfl⟩⟩
noncomputable def ref_CheckTypes_c0 : Code := cL (cL (cR (cL (cR (cR ref_CheckTypes_c)))))
noncomputable def ref_CheckTypes_R (r : Int) : Oc := .ret [(2, iA r)] []
noncomputable def ref_CheckTypes_F0 (a0 : List PartType) (i2 : Nat) : Fr := [(0, lA 2 (List.map e_PartType a0)), (9, lA 2 (List.map e_PartType a0)), (10, iA (a0.length : Int)), (11, iA (i2 : Int))]
noncomputable def ref_CheckTypes_H0 (a0 : List PartType) (i2 : Nat) : Hp := []
noncomputable def ref_CheckTypes_B0 (a0 : List PartType) (s : Unit) : Oc := .ex 0 [] []
noncomputable def ref_CheckTypes_b0 (a0 : List PartType) (i2 : Nat) : Option (Stp Unit Int) :=
 bnd (atI a0 (i2 : Int)) fun x3 =>
 bnd (ref_checkType x3) fun r5 =>
 cnd (r5 != 0) (some (.ret r5)) (bnd1 (cnd (decide ((i2 : Int) > 0)) (bnd (atI a0 (w64 ((i2 : Int) - 1))) fun x12 =>
 some (sLe x3.Name x12.Name)) (some false)) fun v8 =>
 cnd v8 (some (.ret 8)) (some (.go ())))
theorem ref_CheckTypes_b0_r (a0 : List PartType) (i2 : Nat) (o : Stp Unit Int) (hi : i2 < a0.length) (h : ref_CheckTypes_b0 a0 i2 = some o) :
    Runs PG 35 0 ref_CheckTypes_c0 (ref_CheckTypes_F0 a0 i2 ) (ref_CheckTypes_H0 a0 i2 ) (stpOc (fun s' => .nor (ref_CheckTypes_F0 a0 (i2 + 1) ) (ref_CheckTypes_H0 a0 (i2 + 1) )) (ref_CheckTypes_B0 a0) ref_CheckTypes_R o) := by
  unfold ref_CheckTypes_b0 at h
  refine Runs.len (s := 9) (sz := 2) (xs := List.map e_PartType a0) (by kernel_rfl) fun hl => ?_
  have hM : a0.length ≤ lim := len_of hl
  obtain ⟨x3, h4, h⟩ := bnd_e h
  obtain ⟨r5, h6, h⟩ := bnd_e h
  rcases cnd_e h with ⟨h7, h⟩ | ⟨h7, h⟩
  · have h := Option.some.inj h
    subst h
    exact Runs.path XTok PGmix [.r [], .b true, .r [.el (e_PartType x3), .id 0], .r [.val (iA r5)], .r [], .b true, .r []] [] (an (lt_true hi) (an (idx_ok e_PartType h4) (an (ref_checkType_ok x3 r5 h6) h7))) (by kernel_rfl)
  · obtain ⟨v8, h9, h⟩ := bnd1_e h
    let q14_f : Fr := [(0, lA 2 (List.map e_PartType a0)), (3, iA (i2 : Int)), (4, .t (.v (.ptr 0 0))), (9, lA 2 (List.map e_PartType a0)), (10, iA (a0.length : Int)), (11, iA (i2 : Int))]
    let q14_g : Hp := [(0, .cells 59 [.c (sC x3.Name), .c (.sl 3 (List.map e_PinType x3.Pins))])]
    let q14_f' : Fr := [(0, lA 2 (List.map e_PartType a0)), (9, lA 2 (List.map e_PartType a0)), (10, iA (a0.length : Int)), (11, iA (i2 : Int)), (33, bA v8)]
    let q14_g' : Hp := []
    have R10 : Runs PG 35 0 (cL (cR (cR (cL (cL (cR (cR ref_CheckTypes_c0))))))) q14_f q14_g (.nor q14_f' q14_g') := by
      rcases cnd_e h9 with ⟨h11, h9⟩ | ⟨h11, h9⟩
      · obtain ⟨x12, h13, h9⟩ := bnd_e h9
        have h9 := Option.some.inj h9
        subst h9
        exact Runs.path XTok PGmix [.d [([], []), ([], []), ([], []), ([], [.b true]), ([0], [.b true]), ([], [.b true]), ([], [.b true]), ([], [.b true]), ([], [.b true, .el (e_PartType x12)]), ([], [.b true]), ([], [.b true]), ([], [.b true]), ([], [.b true])]] [] (an h11 (an h11 (an h11 (an h11 (an h11 (an h11 (an (idx_ok e_PartType h13) (an h11 (an h11 (an h11 h11)))))))))) (by kernel_rfl)
      · have h9 := Option.some.inj h9
        subst h9
        exact Runs.path XTok PGmix [.d [([], []), ([], []), ([], []), ([], [.b false]), ([], [.b false]), ([], [.b false]), ([], [.b false]), ([], [.b false]), ([], [.b false]), ([], [.b false]), ([], [.b false]), ([], [.b false]), ([], [.b false])]] [] (an h11 (an h11 (an h11 (an h11 (an h11 (an h11 (an h11 (an h11 (an h11 h11))))))))) (by kernel_rfl)
    rcases cnd_e h with ⟨h15, h⟩ | ⟨h15, h⟩
    · have h := Option.some.inj h
      subst h
      exact Runs.path XTok PGmix [.r [], .b true, .r [.el (e_PartType x3), .id 0], .r [.val (iA r5)], .r [], .b false, .s q14_f q14_g [] (.nor q14_f' q14_g'), .b true, .r []] [] (an (lt_true hi) (an (idx_ok e_PartType h4) (an (ref_checkType_ok x3 r5 h6) (an h7 (an R10 h15))))) (by kernel_rfl)
    · have h := Option.some.inj h
      subst h
      exact Runs.path XTok PGmix [.r [], .b true, .r [.el (e_PartType x3), .id 0], .r [.val (iA r5)], .r [], .b false, .s q14_f q14_g [] (.nor q14_f' q14_g'), .b false, .r [.eq 34 (iA ((i2 + 1 : Nat) : Int))]] [] (an (lt_true hi) (an (idx_ok e_PartType h4) (an (ref_checkType_ok x3 r5 h6) (an h7 (an R10 (an h15 (wrap_eq hi hM))))))) (by kernel_rfl)
theorem ref_CheckTypes_b0_e (a0 : List PartType) : Runs PG 35 0 ref_CheckTypes_c0 (ref_CheckTypes_F0 a0 (a0.length) ) (ref_CheckTypes_H0 a0 (a0.length) ) (ref_CheckTypes_B0 a0 ()) := by
  exact Runs.path XTok PGmix [.r [], .b false] [] (lt_false (a0.length)) (by kernel_rfl)
theorem ref_CheckTypes_l0 (a0 : List PartType) (r : Fin' Unit Int) (h : forN (fun i2 s => ref_CheckTypes_b0 a0 i2 ) (a0.length) 0 () = some r) : Runs PG 35 0 (cL (cR (cL (cR (cR ref_CheckTypes_c))))) (ref_CheckTypes_F0 a0 0 ) (ref_CheckTypes_H0 a0 0 ) (finOc (ref_CheckTypes_B0 a0) ref_CheckTypes_R r) :=
  Runs.loop' (by kernel_rfl) (forN_rounds (σ := Unit) (ρ := Int) (body := fun i2 s => ref_CheckTypes_b0 a0 i2 ) (F := fun i2 s => ref_CheckTypes_F0 a0 i2 ) (H := fun i2 s => ref_CheckTypes_H0 a0 i2 ) (B := ref_CheckTypes_B0 a0) (R := ref_CheckTypes_R) (M := a0.length) (fun _ => rfl) (fun _ => rfl) (fun s => ref_CheckTypes_b0_e a0 ) (fun i s o hi h => ref_CheckTypes_b0_r a0 i o hi h) _ 0 _ r (Nat.zero_add _) h)
noncomputable def ref_CheckTypes (a0 : List PartType) : Option Int :=
 cnd (decide ((a0.length : Int) > 200)) (some 2) (aft0 (forN (fun i2 s => ref_CheckTypes_b0 a0 i2 ) (a0.length) 0 ()) (
 some 0)
 (fun r17 =>
 some r17))
theorem ref_CheckTypes_ok (a0 : List PartType) (r : Int) (h : ref_CheckTypes a0 = some r) : Spec PG 69 [lT 2 (List.map e_PartType a0)] [] (iA r) [] := by
  unfold ref_CheckTypes at h
  rcases cnd_e h with ⟨h1, h⟩ | ⟨h1, h⟩
  · have h := Option.some.inj h
    subst h
    exact Spec.path XTok PGmix ref_CheckTypes_fn 0 [.r [], .r [.eq 7 (iA (a0.length : Int))], .b true, .r []] (an (leni_eq e_PartType a0) h1) (by kernel_rfl)
  · rcases aft0_e h with ⟨h16, h⟩ | ⟨r17, h16, h⟩
    · have h := Option.some.inj h
      subst h
      exact Spec.path XTok PGmix ref_CheckTypes_fn 0 [.r [], .r [.eq 7 (iA (a0.length : Int))], .b false, .r [.eq 10 (iA (a0.length : Int))], .s (ref_CheckTypes_F0 a0 0 ) (ref_CheckTypes_H0 a0 0 ) [] (ref_CheckTypes_B0 a0 ()), .r []] (an (leni_eq e_PartType a0) (an h1 (an (leni_eq e_PartType a0) (ref_CheckTypes_l0 a0 (.fin ()) h16)))) (by kernel_rfl)
    · have h := Option.some.inj h
      subst h
      exact Spec.path XTok PGmix ref_CheckTypes_fn 0 [.r [], .r [.eq 7 (iA (a0.length : Int))], .b false, .r [.eq 10 (iA (a0.length : Int))], .s (ref_CheckTypes_F0 a0 0 ) (ref_CheckTypes_H0 a0 0 ) [] (ref_CheckTypes_R r17)] (an (leni_eq e_PartType a0) (an h1 (an (leni_eq e_PartType a0) (ref_CheckTypes_l0 a0 (.ret r17) h16)))) (by kernel_rfl)

noncomputable def ref_CheckList_c : Code := (Go.Proofs.Tryz.f36.body).getD .skip
theorem ref_CheckList_fn : FnOk PG 36 ref_CheckList_c 14 [.tmp 4] := ⟨⟨Go.Proofs.Tryz.f36, by kernel_rfl, by kernel_rfl, by kernel_rfl, by kernel_rfl, by kernel_rfl⟩⟩
noncomputable def ref_CheckList (a0 : List PartType) (a1 : Netlist) : Option Int :=
 bnd (ref_CheckTypes a0) fun r1 =>
 cnd (r1 != 0) (some r1) (bnd (ref_checkList a0 a1) fun r4 =>
 some r4)
theorem ref_CheckList_ok (a0 : List PartType) (a1 : Netlist) (r : Int) (h : ref_CheckList a0 a1 = some r) : Spec PG 36 [lT 2 (List.map e_PartType a0), gT (e_Netlist a1)] [] (iA r) [] := by
  unfold ref_CheckList at h
  obtain ⟨r1, h2, h⟩ := bnd_e h
  rcases cnd_e h with ⟨h3, h⟩ | ⟨h3, h⟩
  · have h := Option.some.inj h
    subst h
    exact Spec.path XTok PGmix ref_CheckList_fn 0 [.r [.id 0], .r [.val (iA r1)], .r [], .b true, .r []] (an (ref_CheckTypes_ok a0 r1 h2) h3) (by kernel_rfl)
  · obtain ⟨r4, h5, h⟩ := bnd_e h
    have h := Option.some.inj h
    subst h
    exact Spec.path XTok PGmix ref_CheckList_fn 0 [.r [.id 0], .r [.val (iA r1)], .r [], .b false, .r [.val (iA r4)]] (an (ref_CheckTypes_ok a0 r1 h2) (an h3 (ref_checkList_ok a0 a1 r4 h5))) (by kernel_rfl)

noncomputable def ref_sortedPins_c : Code := (Go.Proofs.Tryz.f38.body).getD .skip
theorem ref_sortedPins_fn : FnOk PG 38 ref_sortedPins_c 35 [.tmp 2] := ⟨⟨Go.Proofs.Tryz.f38, by kernel_rfl, by kernel_rfl, by kernel_rfl, by kernel_rfl, by kernel_rfl⟩⟩
noncomputable def ref_sortedPins_c0 : Code := cL (cL (cR (cL (cR (cR ref_sortedPins_c)))))
noncomputable def ref_sortedPins_R (r : List Pin) : Oc := .ret [(2, lA 2 (List.map e_Pin r))] []
noncomputable def ref_sortedPins_c1 : Code := cL (cL (cL (cR (cR (cL (cL (cR (cR ref_sortedPins_c0))))))))
noncomputable def ref_sortedPins_F1 (a0 : List Pin) (i1 : Nat) (y2 : List Pin) (x3 : Pin) (y5 : Int) : Fr := [(3, .t (.v (.rt 0))), (5, .t (.v (.ptr 1 0))), (6, iA y5), (7, lA 2 (List.map e_Pin a0)), (8, iA (a0.length : Int)), (9, iA (i1 : Int))]
noncomputable def ref_sortedPins_H1 (a0 : List Pin) (i1 : Nat) (y2 : List Pin) (x3 : Pin) (y5 : Int) : Hp := [(0, .row 55 2 (List.map e_Pin y2)), (1, .cells 55 [.c (sC x3.Part), .c (sC x3.Pin)])]
noncomputable def ref_sortedPins_B1 (a0 : List Pin) (i1 : Nat) (y2 : List Pin) (x3 : Pin) (s : Int) : Oc := .ex 2 [(3, .t (.v (.rt 0))), (5, .t (.v (.ptr 1 0))), (6, iA s), (7, lA 2 (List.map e_Pin a0)), (8, iA (a0.length : Int)), (9, iA (i1 : Int))] [(0, .row 55 2 (List.map e_Pin y2)), (1, .cells 55 [.c (sC x3.Part), .c (sC x3.Pin)])]
noncomputable def ref_sortedPins_b1 (a0 : List Pin) (i1 : Nat) (y2 : List Pin) (x3 : Pin) (y5 : Int) : Option (Stp Int (List Pin)) :=
 bnd1 (cnd (decide (y5 > 0)) (bnd (atI y2 (w64 (y5 - 1))) fun x10 =>
 bnd (ref_before x3 x10) fun r12 =>
 some r12) (some false)) fun v6 =>
 cnd v6 (some (.go (w64 (y5 - 1)))) (some (.brk y5))
theorem ref_sortedPins_b1_r (a0 : List Pin) (i1 : Nat) (y2 : List Pin) (x3 : Pin) (y5 : Int) (o : Stp Int (List Pin)) (h : ref_sortedPins_b1 a0 i1 y2 x3 y5 = some o) :
    Runs PG 35 0 ref_sortedPins_c1 (ref_sortedPins_F1 a0 i1 y2 x3 y5) (ref_sortedPins_H1 a0 i1 y2 x3 y5) (stpOc (fun s' => .nor (ref_sortedPins_F1 a0 i1 y2 x3 s') (ref_sortedPins_H1 a0 i1 y2 x3 s')) (ref_sortedPins_B1 a0 i1 y2 x3) ref_sortedPins_R o) := by
  unfold ref_sortedPins_b1 at h
  obtain ⟨v6, h7, h⟩ := bnd1_e h
  let q14_f : Fr := [(3, .t (.v (.rt 0))), (5, .t (.v (.ptr 1 0))), (6, iA y5), (7, lA 2 (List.map e_Pin a0)), (8, iA (a0.length : Int)), (9, iA (i1 : Int))]
  let q14_g : Hp := [(0, .row 55 2 (List.map e_Pin y2)), (1, .cells 55 [.c (sC x3.Part), .c (sC x3.Pin)])]
  let q14_f' : Fr := [(3, .t (.v (.rt 0))), (5, .t (.v (.ptr 1 0))), (6, iA y5), (7, lA 2 (List.map e_Pin a0)), (8, iA (a0.length : Int)), (9, iA (i1 : Int)), (25, bA v6)]
  let q14_g' : Hp := [(0, .row 55 2 (List.map e_Pin y2)), (1, .cells 55 [.c (sC x3.Part), .c (sC x3.Pin)])]
  have R8 : Runs PG 35 0 (cL (cL ref_sortedPins_c1)) q14_f q14_g (.nor q14_f' q14_g') := by
    rcases cnd_e h7 with ⟨h9, h7⟩ | ⟨h9, h7⟩
    · obtain ⟨x10, h11, h7⟩ := bnd_e h7
      obtain ⟨r12, h13, h7⟩ := bnd_e h7
      have h7 := Option.some.inj h7
      subst h7
      exact Runs.path XTok PGmix [.d [([], []), ([], []), ([], []), ([1], [.b true]), ([], [.b true]), ([], [.b true]), ([], [.b true]), ([0], [.b true]), ([0], [.b true, .el (e_Pin x10)]), ([], [.b true, .val (bA r12)]), ([], [.b true])]] [] (an h9 (an h9 (an h9 (an h9 (an h9 (an (idx_lt e_Pin h11) (an h9 (an (idx_el e_Pin h11) (an h9 (an (ref_before_ok x3 x10 r12 h13) h9)))))))))) (by kernel_rfl)
    · have h7 := Option.some.inj h7
      subst h7
      exact Runs.path XTok PGmix [.d [([], []), ([], []), ([], []), ([], [.b false]), ([], [.b false]), ([], [.b false]), ([], [.b false]), ([], [.b false]), ([], [.b false]), ([], [.b false]), ([], [.b false])]] [] (an h9 (an h9 (an h9 (an h9 (an h9 (an h9 (an h9 h9))))))) (by kernel_rfl)
  rcases cnd_e h with ⟨h15, h⟩ | ⟨h15, h⟩
  · have h := Option.some.inj h
    subst h
    exact Runs.path XTok PGmix [.s q14_f q14_g [] (.nor q14_f' q14_g'), .b true, .r []] [] (an R8 h15) (by kernel_rfl)
  · have h := Option.some.inj h
    subst h
    exact Runs.path XTok PGmix [.s q14_f q14_g [] (.nor q14_f' q14_g'), .b false] [] (an R8 h15) (by kernel_rfl)
theorem ref_sortedPins_l1 (a0 : List Pin) (i1 : Nat) (y2 : List Pin) (x3 : Pin) (y5 : Int) (r : Fin' Int (List Pin)) (h : loop (fun s => ref_sortedPins_b1 a0 i1 y2 x3 s) y5 = some r) : Runs PG 35 0 (cL (cL (cR (cR (cL (cL (cR (cR ref_sortedPins_c0)))))))) (ref_sortedPins_F1 a0 i1 y2 x3 y5) (ref_sortedPins_H1 a0 i1 y2 x3 y5) (finOc (ref_sortedPins_B1 a0 i1 y2 x3) ref_sortedPins_R r) :=
  Runs.loop' (by kernel_rfl) (loop_rounds (σ := Int) (ρ := (List Pin)) (body := fun s => ref_sortedPins_b1 a0 i1 y2 x3 s) (F := fun s => ref_sortedPins_F1 a0 i1 y2 x3 s) (H := fun s => ref_sortedPins_H1 a0 i1 y2 x3 s) (B := ref_sortedPins_B1 a0 i1 y2 x3) (R := ref_sortedPins_R) (fun _ => rfl) (fun _ => rfl) (fun s o h => ref_sortedPins_b1_r a0 i1 y2 x3 s o h) h)
noncomputable def ref_sortedPins_F0 (a0 : List Pin) (i1 : Nat) (y2 : List Pin) : Fr := [(3, .t (.v (.rt 0))), (7, lA 2 (List.map e_Pin a0)), (8, iA (a0.length : Int)), (9, iA (i1 : Int))]
noncomputable def ref_sortedPins_H0 (a0 : List Pin) (i1 : Nat) (y2 : List Pin) : Hp := [(0, .row 55 2 (List.map e_Pin y2))]
noncomputable def ref_sortedPins_B0 (a0 : List Pin) (s : List Pin) : Oc := .ex 0 [(3, .t (.v (.rt 0)))] [(0, .row 55 2 (List.map e_Pin s))]
noncomputable def ref_sortedPins_b0 (a0 : List Pin) (i1 : Nat) (y2 : List Pin) : Option (Stp (List Pin) (List Pin)) :=
 bnd (atI a0 (i1 : Int)) fun x3 =>
 aft1 (loop (fun s => ref_sortedPins_b1 a0 i1 y2 x3 s) (y2.length : Int)) (fun u16 =>
 bnd (h_Insert_Pin y2 u16 [x3]) fun r19 =>
 some (.go r19))
 (fun r18 =>
 some (.ret r18))
theorem ref_sortedPins_b0_r (a0 : List Pin) (i1 : Nat) (y2 : List Pin) (o : Stp (List Pin) (List Pin)) (hi : i1 < a0.length) (h : ref_sortedPins_b0 a0 i1 y2 = some o) :
    Runs PG 35 0 ref_sortedPins_c0 (ref_sortedPins_F0 a0 i1 y2) (ref_sortedPins_H0 a0 i1 y2) (stpOc (fun s' => .nor (ref_sortedPins_F0 a0 (i1 + 1) s') (ref_sortedPins_H0 a0 (i1 + 1) s')) (ref_sortedPins_B0 a0) ref_sortedPins_R o) := by
  unfold ref_sortedPins_b0 at h
  refine Runs.len (s := 7) (sz := 2) (xs := List.map e_Pin a0) (by kernel_rfl) fun hl => ?_
  have hM : a0.length ≤ lim := len_of hl
  obtain ⟨x3, h4, h⟩ := bnd_e h
  rcases aft1_e h with ⟨u16, h17, h⟩ | ⟨r18, h17, h⟩
  · obtain ⟨r19, h20, h⟩ := bnd_e h
    have h := Option.some.inj h
    subst h
    exact Runs.path XTok PGmix [.r [], .b true, .r [.el (e_Pin x3), .id 1], .r [.eq 14 (iA (y2.length : Int))], .s (ref_sortedPins_F1 a0 i1 y2 x3 (y2.length : Int)) (ref_sortedPins_H1 a0 i1 y2 x3 (y2.length : Int)) [] (ref_sortedPins_B1 a0 i1 y2 x3 u16), .r [.id 2, .row (List.map e_Pin [x3]), .call [(0, 0), (1, 2), (2, 3)] [.v (.rt 0), iT u16, .v (.rt 1)] [(0, .row 55 2 (List.map e_Pin y2)), (1, .row 55 2 (List.map e_Pin [x3]))] (.t (.v (.rt 2))) [(2, .row 55 2 (List.map e_Pin r19))]], .r [.eq 33 (iA ((i1 + 1 : Nat) : Int))]] [(0, 3)] (an (lt_true hi) (an (idx_ok e_Pin h4) (an (leni_eq e_Pin y2) (an (ref_sortedPins_l1 a0 i1 y2 x3 (y2.length : Int) (.fin u16) h17) (an (Eq.refl (List.flatten (List.map e_Pin [x3]))) (an (an (h_Insert_Pin_ok y2 u16 [x3] r19 h20) (an (Eq.refl ([.v (.rt 0), iT u16, .v (.rt 2)] : List TV)) (Eq.refl (renH (asg [(0, 0), (1, 2), (2, 3)]) [(0, .row 55 2 (List.map e_Pin y2)), (1, .row 55 2 (List.map e_Pin [x3]))])))) (wrap_eq hi hM))))))) (by kernel_rfl)
  · have h := Option.some.inj h
    subst h
    exact Runs.path XTok PGmix [.r [], .b true, .r [.el (e_Pin x3), .id 1], .r [.eq 14 (iA (y2.length : Int))], .s (ref_sortedPins_F1 a0 i1 y2 x3 (y2.length : Int)) (ref_sortedPins_H1 a0 i1 y2 x3 (y2.length : Int)) [] (ref_sortedPins_R r18)] [] (an (lt_true hi) (an (idx_ok e_Pin h4) (an (leni_eq e_Pin y2) (ref_sortedPins_l1 a0 i1 y2 x3 (y2.length : Int) (.ret r18) h17)))) (by kernel_rfl)
theorem ref_sortedPins_b0_e (a0 : List Pin) (y2 : List Pin) : Runs PG 35 0 ref_sortedPins_c0 (ref_sortedPins_F0 a0 (a0.length) y2) (ref_sortedPins_H0 a0 (a0.length) y2) (ref_sortedPins_B0 a0 y2) := by
  exact Runs.path XTok PGmix [.r [], .b false] [] (lt_false (a0.length)) (by kernel_rfl)
theorem ref_sortedPins_l0 (a0 : List Pin) (y2 : List Pin) (r : Fin' (List Pin) (List Pin)) (h : forN (fun i1 s => ref_sortedPins_b0 a0 i1 s) (a0.length) 0 y2 = some r) : Runs PG 35 0 (cL (cR (cL (cR (cR ref_sortedPins_c))))) (ref_sortedPins_F0 a0 0 y2) (ref_sortedPins_H0 a0 0 y2) (finOc (ref_sortedPins_B0 a0) ref_sortedPins_R r) :=
  Runs.loop' (by kernel_rfl) (forN_rounds (σ := (List Pin)) (ρ := (List Pin)) (body := fun i1 s => ref_sortedPins_b0 a0 i1 s) (F := fun i1 s => ref_sortedPins_F0 a0 i1 s) (H := fun i1 s => ref_sortedPins_H0 a0 i1 s) (B := ref_sortedPins_B0 a0) (R := ref_sortedPins_R) (M := a0.length) (fun _ => rfl) (fun _ => rfl) (fun s => ref_sortedPins_b0_e a0 s) (fun i s o hi h => ref_sortedPins_b0_r a0 i s o hi h) _ 0 _ r (Nat.zero_add _) h)
noncomputable def ref_sortedPins (a0 : List Pin) : Option (List Pin) :=
 aft1 (forN (fun i1 s => ref_sortedPins_b0 a0 i1 s) (a0.length) 0 []) (fun u21 =>
 some u21)
 (fun r23 =>
 some r23)
theorem ref_sortedPins_ok (a0 : List Pin) (r : List Pin) (h : ref_sortedPins a0 = some r) : Spec PG 38 [lT 2 (List.map e_Pin a0)] [] (lA 2 (List.map e_Pin r)) [] := by
  unfold ref_sortedPins at h
  rcases aft1_e h with ⟨u21, h22, h⟩ | ⟨r23, h22, h⟩
  · have h := Option.some.inj h
    subst h
    exact Spec.path XTok PGmix ref_sortedPins_fn 0 [.r [.nl 2], .r [.mk 0 55 2], .r [.eq 8 (iA (a0.length : Int))], .s (ref_sortedPins_F0 a0 0 []) (ref_sortedPins_H0 a0 0 []) [] (ref_sortedPins_B0 a0 u21), .r [], .f 0] (an (leni_eq e_Pin a0) (ref_sortedPins_l0 a0 [] (.fin u21) h22)) (by kernel_rfl)
  · have h := Option.some.inj h
    subst h
    exact Spec.path XTok PGmix ref_sortedPins_fn 0 [.r [.nl 2], .r [.mk 0 55 2], .r [.eq 8 (iA (a0.length : Int))], .s (ref_sortedPins_F0 a0 0 []) (ref_sortedPins_H0 a0 0 []) [] (ref_sortedPins_R r23)] (an (leni_eq e_Pin a0) (ref_sortedPins_l0 a0 [] (.ret r23) h22)) (by kernel_rfl)

noncomputable def slices_Grow_api_Pin_api_Pin_c : Code := (Go.Proofs.Tryz.f72.body).getD .skip
theorem slices_Grow_api_Pin_api_Pin_fn : FnOk PG 72 slices_Grow_api_Pin_api_Pin_c 27 [.tmp 4] := ⟨⟨Go.Proofs.Tryz.f72, by kernel_rfl, by kernel_rfl, by kernel_rfl, by kernel_rfl, by kernel_rfl⟩⟩
noncomputable def slices_Grow_api_Pin_api_Pin (a1 : Int) : Option (List Pin) :=
 bnd0 (cnd (decide (a1 < 0)) (none) (some ())) <|
 bnd1 (cnd (decide ((w64 (a1 - (w64 (0 - 0)))) > 0)) (grd (0 = (0 : Int) ∧ 0 = (0 : Int)) <|
 grd ((0 : Int) ≤ w64 (a1 - (w64 (0 - 0))) ∧ w64 (a1 - (w64 (0 - 0))) ≤ (lim : Int)) <|
 grd ((0 : Int) ≤ (0 : Int) ∧ (0 : Int) ≤ (0 : Int) ∧ (0 : Int) ≤ ((List.replicate (Int.toNat (w64 (a1 - (w64 (0 - 0))))) ((⟨(⟨#[]⟩ : ByteArray), (⟨#[]⟩ : ByteArray)⟩ : Pin) : Pin)).length : Int)) <|
 some ((List.replicate (Int.toNat (w64 (a1 - (w64 (0 - 0))))) ((⟨(⟨#[]⟩ : ByteArray), (⟨#[]⟩ : ByteArray)⟩ : Pin) : Pin)).take (((0 : Int) - (0 : Int)).toNat))) (some [])) fun v5 =>
 some v5
theorem slices_Grow_api_Pin_api_Pin_ok (a1 : Int) (r : List Pin) (h : slices_Grow_api_Pin_api_Pin a1 = some r) : Spec PG 72 [.v (.c (.nil)), iT a1] [] (.t (.v (.rt 0))) [(0, .row 55 2 (List.map e_Pin r))] := by
  unfold slices_Grow_api_Pin_api_Pin at h
  obtain ⟨h1, h⟩ := bnd0_e h
  let q4_f : Fr := [(0, .t (.v (.c (.nil)))), (1, iA a1), (6, bA (decide (a1 < 0)))]
  let q4_g : Hp := []
  let q4_f' : Fr := [(0, .t (.v (.c (.nil)))), (1, iA a1)]
  let q4_g' : Hp := []
  have R2 : Runs PG 27 0 (cR (cL (cR slices_Grow_api_Pin_api_Pin_c))) q4_f q4_g (.nor q4_f' q4_g') := by
    rcases cnd_e h1 with ⟨h3, h1⟩ | ⟨h3, h1⟩
    · cases h1
    · exact Runs.path XTok PGmix [.b false] [] h3 (by kernel_rfl)
  obtain ⟨v5, h6, h⟩ := bnd1_e h
  let q12_f : Fr := [(0, .t (.v (.c (.nil)))), (1, iA (w64 (a1 - (w64 (0 - 0))))), (16, bA (decide ((w64 (a1 - (w64 (0 - 0)))) > 0)))]
  let q12_g : Hp := []
  let q12_f' : Fr := [(0, .t (.v (.rt 1)))]
  let q12_g' : Hp := [(1, .row 55 2 (List.map e_Pin v5))]
  have R7 : Runs PG 27 0 (cR (cR (cL (cR (cR slices_Grow_api_Pin_api_Pin_c))))) q12_f q12_g (.nor q12_f' q12_g') := by
    rcases cnd_e h6 with ⟨h8, h6⟩ | ⟨h8, h6⟩
    · obtain ⟨h9, h6⟩ := grd_e h6
      obtain ⟨h10, h6⟩ := grd_e h6
      obtain ⟨h11, h6⟩ := grd_e h6
      have h6 := Option.some.inj h6
      subst h6
      exact Runs.path XTok PGmix [.b true, .r [.id 0, .row (List.map e_Pin (List.replicate (Int.toNat (w64 (a1 - (w64 (0 - 0))))) ((⟨(⟨#[]⟩ : ByteArray), (⟨#[]⟩ : ByteArray)⟩ : Pin) : Pin))), .el (e_Pin (⟨(⟨#[]⟩ : ByteArray), (⟨#[]⟩ : ByteArray)⟩ : Pin))], .h 0 1 (List.map e_Pin ((List.replicate (Int.toNat (w64 (a1 - (w64 (0 - 0))))) ((⟨(⟨#[]⟩ : ByteArray), (⟨#[]⟩ : ByteArray)⟩ : Pin) : Pin)).take (((0 : Int) - (0 : Int)).toNat)))] [] (an h8 (an trivial (an h9 (an (app0_ok e_Pin (⟨(⟨#[]⟩ : ByteArray), (⟨#[]⟩ : ByteArray)⟩ : Pin) h10) (an (cut_lh e_Pin h11) (take_ok e_Pin (List.replicate (Int.toNat (w64 (a1 - (w64 (0 - 0))))) ((⟨(⟨#[]⟩ : ByteArray), (⟨#[]⟩ : ByteArray)⟩ : Pin) : Pin)) (((0 : Int) - (0 : Int)).toNat))))))) (by kernel_rfl)
    · have h6 := Option.some.inj h6
      subst h6
      exact Runs.path XTok PGmix [.b false, .os 0 0 55 2] [(1, 0)] h8 (by kernel_rfl)
  have h := Option.some.inj h
  subst h
  exact Spec.path XTok PGmix slices_Grow_api_Pin_api_Pin_fn 0 [.r [.nl 2], .r [], .s q4_f q4_g [] (.nor q4_f' q4_g'), .r [], .r [], .s q12_f q12_g [] (.nor q12_f' q12_g'), .r [], .w [(4, .t (.v (.rt 0)))] [(0, .row 55 2 (List.map e_Pin v5))] [(0, 1)]] (an R2 (an trivial R7)) (by kernel_rfl)

noncomputable def slices_Concat_api_Pin_api_Pin_c : Code := (Go.Proofs.Tryz.f39.body).getD .skip
theorem slices_Concat_api_Pin_api_Pin_fn : FnOk PG 39 slices_Concat_api_Pin_api_Pin_c 36 [.tmp 2] := ⟨⟨Go.Proofs.Tryz.f39, by kernel_rfl, by kernel_rfl, by kernel_rfl, by kernel_rfl, by kernel_rfl⟩⟩
noncomputable def slices_Concat_api_Pin_api_Pin_c0 : Code := cL (cL (cR (cL (cR (cR slices_Concat_api_Pin_api_Pin_c)))))
noncomputable def slices_Concat_api_Pin_api_Pin_R (r : List Pin) : Oc := .ret [(2, .t (.v (.rt 0)))] [(0, .row 55 2 (List.map e_Pin r))]
noncomputable def slices_Concat_api_Pin_api_Pin_F0 (a0 : List (List Pin)) (i1 : Nat) (y2 : Int) : Fr := [(0, lA 1 (List.map e_sl_Pin a0)), (3, iA y2), (9, lA 1 (List.map e_sl_Pin a0)), (10, iA (a0.length : Int)), (11, iA (i1 : Int))]
noncomputable def slices_Concat_api_Pin_api_Pin_H0 (a0 : List (List Pin)) (i1 : Nat) (y2 : Int) : Hp := []
noncomputable def slices_Concat_api_Pin_api_Pin_B0 (a0 : List (List Pin)) (s : Int) : Oc := .ex 0 [(0, lA 1 (List.map e_sl_Pin a0)), (3, iA s)] []
noncomputable def slices_Concat_api_Pin_api_Pin_b0 (a0 : List (List Pin)) (i1 : Nat) (y2 : Int) : Option (Stp Int (List Pin)) :=
 bnd (atI a0 (i1 : Int)) fun x3 =>
 bnd0 (cnd (decide ((w64 (y2 + (x3.length : Int))) < 0)) (none) (some ())) <|
 some (.go (w64 (y2 + (x3.length : Int))))
theorem slices_Concat_api_Pin_api_Pin_b0_r (a0 : List (List Pin)) (i1 : Nat) (y2 : Int) (o : Stp Int (List Pin)) (hi : i1 < a0.length) (h : slices_Concat_api_Pin_api_Pin_b0 a0 i1 y2 = some o) :
    Runs PG 36 0 slices_Concat_api_Pin_api_Pin_c0 (slices_Concat_api_Pin_api_Pin_F0 a0 i1 y2) (slices_Concat_api_Pin_api_Pin_H0 a0 i1 y2) (stpOc (fun s' => .nor (slices_Concat_api_Pin_api_Pin_F0 a0 (i1 + 1) s') (slices_Concat_api_Pin_api_Pin_H0 a0 (i1 + 1) s')) (slices_Concat_api_Pin_api_Pin_B0 a0) slices_Concat_api_Pin_api_Pin_R o) := by
  unfold slices_Concat_api_Pin_api_Pin_b0 at h
  refine Runs.len (s := 9) (sz := 1) (xs := List.map e_sl_Pin a0) (by kernel_rfl) fun hl => ?_
  have hM : a0.length ≤ lim := len_of hl
  obtain ⟨x3, h4, h⟩ := bnd_e h
  obtain ⟨h5, h⟩ := bnd0_e h
  let q8_f : Fr := [(0, lA 1 (List.map e_sl_Pin a0)), (3, iA (w64 (y2 + (x3.length : Int)))), (9, lA 1 (List.map e_sl_Pin a0)), (10, iA (a0.length : Int)), (11, iA (i1 : Int)), (20, bA (decide ((w64 (y2 + (x3.length : Int))) < 0)))]
  let q8_g : Hp := []
  let q8_f' : Fr := [(0, lA 1 (List.map e_sl_Pin a0)), (3, iA (w64 (y2 + (x3.length : Int)))), (9, lA 1 (List.map e_sl_Pin a0)), (10, iA (a0.length : Int)), (11, iA (i1 : Int))]
  let q8_g' : Hp := []
  have R6 : Runs PG 36 0 (cR (cR (cR (cL (cL (cR (cR slices_Concat_api_Pin_api_Pin_c0))))))) q8_f q8_g (.nor q8_f' q8_g') := by
    rcases cnd_e h5 with ⟨h7, h5⟩ | ⟨h7, h5⟩
    · cases h5
    · exact Runs.path XTok PGmix [.b false] [] h7 (by kernel_rfl)
  have h := Option.some.inj h
  subst h
  exact Runs.path XTok PGmix [.r [], .b true, .r [.el [.sl 2 (List.map e_Pin x3)]], .r [.eq 17 (iA (x3.length : Int))], .r [], .s q8_f q8_g [] (.nor q8_f' q8_g'), .r [.eq 22 (iA ((i1 + 1 : Nat) : Int))]] [] (an (lt_true hi) (an (idx_ok e_sl_Pin h4) (an (leni_eq e_Pin x3) (an R6 (wrap_eq hi hM))))) (by kernel_rfl)
theorem slices_Concat_api_Pin_api_Pin_b0_e (a0 : List (List Pin)) (y2 : Int) : Runs PG 36 0 slices_Concat_api_Pin_api_Pin_c0 (slices_Concat_api_Pin_api_Pin_F0 a0 (a0.length) y2) (slices_Concat_api_Pin_api_Pin_H0 a0 (a0.length) y2) (slices_Concat_api_Pin_api_Pin_B0 a0 y2) := by
  exact Runs.path XTok PGmix [.r [], .b false] [] (lt_false (a0.length)) (by kernel_rfl)
theorem slices_Concat_api_Pin_api_Pin_l0 (a0 : List (List Pin)) (y2 : Int) (r : Fin' Int (List Pin)) (h : forN (fun i1 s => slices_Concat_api_Pin_api_Pin_b0 a0 i1 s) (a0.length) 0 y2 = some r) : Runs PG 36 0 (cL (cR (cL (cR (cR slices_Concat_api_Pin_api_Pin_c))))) (slices_Concat_api_Pin_api_Pin_F0 a0 0 y2) (slices_Concat_api_Pin_api_Pin_H0 a0 0 y2) (finOc (slices_Concat_api_Pin_api_Pin_B0 a0) slices_Concat_api_Pin_api_Pin_R r) :=
  Runs.loop' (by kernel_rfl) (forN_rounds (σ := Int) (ρ := (List Pin)) (body := fun i1 s => slices_Concat_api_Pin_api_Pin_b0 a0 i1 s) (F := fun i1 s => slices_Concat_api_Pin_api_Pin_F0 a0 i1 s) (H := fun i1 s => slices_Concat_api_Pin_api_Pin_H0 a0 i1 s) (B := slices_Concat_api_Pin_api_Pin_B0 a0) (R := slices_Concat_api_Pin_api_Pin_R) (M := a0.length) (fun _ => rfl) (fun _ => rfl) (fun s => slices_Concat_api_Pin_api_Pin_b0_e a0 s) (fun i s o hi h => slices_Concat_api_Pin_api_Pin_b0_r a0 i s o hi h) _ 0 _ r (Nat.zero_add _) h)
noncomputable def slices_Concat_api_Pin_api_Pin_c1 : Code := cL (cL (cR (cL (cR (cR (cR (cR slices_Concat_api_Pin_api_Pin_c)))))))
noncomputable def slices_Concat_api_Pin_api_Pin_F1 (a0 : List (List Pin)) (i14 : Nat) (y15 : List Pin) : Fr := [(6, .t (.v (.rt 0))), (25, lA 1 (List.map e_sl_Pin a0)), (26, iA (a0.length : Int)), (27, iA (i14 : Int))]
noncomputable def slices_Concat_api_Pin_api_Pin_H1 (a0 : List (List Pin)) (i14 : Nat) (y15 : List Pin) : Hp := [(0, .row 55 2 (List.map e_Pin y15))]
noncomputable def slices_Concat_api_Pin_api_Pin_B1 (a0 : List (List Pin)) (s : List Pin) : Oc := .ex 2 [(6, .t (.v (.rt 0)))] [(0, .row 55 2 (List.map e_Pin s))]
noncomputable def slices_Concat_api_Pin_api_Pin_b1 (a0 : List (List Pin)) (i14 : Nat) (y15 : List Pin) : Option (Stp (List Pin) (List Pin)) :=
 bnd (atI a0 (i14 : Int)) fun x16 =>
 grd (y15.length + x16.length ≤ lim) <|
 some (.go (y15 ++ x16))
theorem slices_Concat_api_Pin_api_Pin_b1_r (a0 : List (List Pin)) (i14 : Nat) (y15 : List Pin) (o : Stp (List Pin) (List Pin)) (hi : i14 < a0.length) (h : slices_Concat_api_Pin_api_Pin_b1 a0 i14 y15 = some o) :
    Runs PG 36 0 slices_Concat_api_Pin_api_Pin_c1 (slices_Concat_api_Pin_api_Pin_F1 a0 i14 y15) (slices_Concat_api_Pin_api_Pin_H1 a0 i14 y15) (stpOc (fun s' => .nor (slices_Concat_api_Pin_api_Pin_F1 a0 (i14 + 1) s') (slices_Concat_api_Pin_api_Pin_H1 a0 (i14 + 1) s')) (slices_Concat_api_Pin_api_Pin_B1 a0) slices_Concat_api_Pin_api_Pin_R o) := by
  unfold slices_Concat_api_Pin_api_Pin_b1 at h
  refine Runs.len (s := 25) (sz := 1) (xs := List.map e_sl_Pin a0) (by kernel_rfl) fun hl => ?_
  have hM : a0.length ≤ lim := len_of hl
  obtain ⟨x16, h17, h⟩ := bnd_e h
  obtain ⟨h18, h⟩ := grd_e h
  have h := Option.some.inj h
  subst h
  exact Runs.path XTok PGmix [.r [], .b true, .r [.el [.sl 2 (List.map e_Pin x16)]], .r [.id 1, .row (List.map e_Pin (y15 ++ x16))], .r [.eq 34 (iA ((i14 + 1 : Nat) : Int))]] [(0, 1)] (an (lt_true hi) (an (idx_ok e_sl_Pin h17) (an (app_ok e_Pin h18) (wrap_eq hi hM)))) (by kernel_rfl)
theorem slices_Concat_api_Pin_api_Pin_b1_e (a0 : List (List Pin)) (y15 : List Pin) : Runs PG 36 0 slices_Concat_api_Pin_api_Pin_c1 (slices_Concat_api_Pin_api_Pin_F1 a0 (a0.length) y15) (slices_Concat_api_Pin_api_Pin_H1 a0 (a0.length) y15) (slices_Concat_api_Pin_api_Pin_B1 a0 y15) := by
  exact Runs.path XTok PGmix [.r [], .b false] [] (lt_false (a0.length)) (by kernel_rfl)
theorem slices_Concat_api_Pin_api_Pin_l1 (a0 : List (List Pin)) (y15 : List Pin) (r : Fin' (List Pin) (List Pin)) (h : forN (fun i14 s => slices_Concat_api_Pin_api_Pin_b1 a0 i14 s) (a0.length) 0 y15 = some r) : Runs PG 36 0 (cL (cR (cL (cR (cR (cR (cR slices_Concat_api_Pin_api_Pin_c))))))) (slices_Concat_api_Pin_api_Pin_F1 a0 0 y15) (slices_Concat_api_Pin_api_Pin_H1 a0 0 y15) (finOc (slices_Concat_api_Pin_api_Pin_B1 a0) slices_Concat_api_Pin_api_Pin_R r) :=
  Runs.loop' (by kernel_rfl) (forN_rounds (σ := (List Pin)) (ρ := (List Pin)) (body := fun i14 s => slices_Concat_api_Pin_api_Pin_b1 a0 i14 s) (F := fun i14 s => slices_Concat_api_Pin_api_Pin_F1 a0 i14 s) (H := fun i14 s => slices_Concat_api_Pin_api_Pin_H1 a0 i14 s) (B := slices_Concat_api_Pin_api_Pin_B1 a0) (R := slices_Concat_api_Pin_api_Pin_R) (M := a0.length) (fun _ => rfl) (fun _ => rfl) (fun s => slices_Concat_api_Pin_api_Pin_b1_e a0 s) (fun i s o hi h => slices_Concat_api_Pin_api_Pin_b1_r a0 i s o hi h) _ 0 _ r (Nat.zero_add _) h)
noncomputable def slices_Concat_api_Pin_api_Pin (a0 : List (List Pin)) : Option (List Pin) :=
 aft1 (forN (fun i1 s => slices_Concat_api_Pin_api_Pin_b0 a0 i1 s) (a0.length) 0 0) (fun u9 =>
 bnd (slices_Grow_api_Pin_api_Pin u9) fun r12 =>
 aft1 (forN (fun i14 s => slices_Concat_api_Pin_api_Pin_b1 a0 i14 s) (a0.length) 0 r12) (fun u19 =>
 some u19)
 (fun r21 =>
 some r21))
 (fun r11 =>
 some r11)
theorem slices_Concat_api_Pin_api_Pin_ok (a0 : List (List Pin)) (r : List Pin) (h : slices_Concat_api_Pin_api_Pin a0 = some r) : Spec PG 39 [lT 1 (List.map e_sl_Pin a0)] [] (.t (.v (.rt 0))) [(0, .row 55 2 (List.map e_Pin r))] := by
  unfold slices_Concat_api_Pin_api_Pin at h
  rcases aft1_e h with ⟨u9, h10, h⟩ | ⟨r11, h10, h⟩
  · obtain ⟨r12, h13, h⟩ := bnd_e h
    rcases aft1_e h with ⟨u19, h20, h⟩ | ⟨r21, h20, h⟩
    · have h := Option.some.inj h
      subst h
      exact Spec.path XTok PGmix slices_Concat_api_Pin_api_Pin_fn 0 [.r [.nl 2], .r [], .r [.eq 10 (iA (a0.length : Int))], .s (slices_Concat_api_Pin_api_Pin_F0 a0 0 0) (slices_Concat_api_Pin_api_Pin_H0 a0 0 0) [] (slices_Concat_api_Pin_api_Pin_B0 a0 u9), .r [.call [(0, 0)] [.v (.c (.nil)), iT u9] [] (.t (.v (.rt 0))) [(0, .row 55 2 (List.map e_Pin r12))]], .r [.eq 26 (iA (a0.length : Int))], .s (slices_Concat_api_Pin_api_Pin_F1 a0 0 r12) (slices_Concat_api_Pin_api_Pin_H1 a0 0 r12) [] (slices_Concat_api_Pin_api_Pin_B1 a0 u19), .r []] (an (leni_eq e_sl_Pin a0) (an (slices_Concat_api_Pin_api_Pin_l0 a0 0 (.fin u9) h10) (an (an (slices_Grow_api_Pin_api_Pin_ok u9 r12 h13) (an (Eq.refl ([.v (.c (.nil)), iT u9] : List TV)) (Eq.refl (renH (asg [(0, 0)]) [])))) (an (leni_eq e_sl_Pin a0) (slices_Concat_api_Pin_api_Pin_l1 a0 r12 (.fin u19) h20))))) (by kernel_rfl)
    · have h := Option.some.inj h
      subst h
      exact Spec.path XTok PGmix slices_Concat_api_Pin_api_Pin_fn 0 [.r [.nl 2], .r [], .r [.eq 10 (iA (a0.length : Int))], .s (slices_Concat_api_Pin_api_Pin_F0 a0 0 0) (slices_Concat_api_Pin_api_Pin_H0 a0 0 0) [] (slices_Concat_api_Pin_api_Pin_B0 a0 u9), .r [.call [(0, 0)] [.v (.c (.nil)), iT u9] [] (.t (.v (.rt 0))) [(0, .row 55 2 (List.map e_Pin r12))]], .r [.eq 26 (iA (a0.length : Int))], .s (slices_Concat_api_Pin_api_Pin_F1 a0 0 r12) (slices_Concat_api_Pin_api_Pin_H1 a0 0 r12) [] (slices_Concat_api_Pin_api_Pin_R r21)] (an (leni_eq e_sl_Pin a0) (an (slices_Concat_api_Pin_api_Pin_l0 a0 0 (.fin u9) h10) (an (an (slices_Grow_api_Pin_api_Pin_ok u9 r12 h13) (an (Eq.refl ([.v (.c (.nil)), iT u9] : List TV)) (Eq.refl (renH (asg [(0, 0)]) [])))) (an (leni_eq e_sl_Pin a0) (slices_Concat_api_Pin_api_Pin_l1 a0 r12 (.ret r21) h20))))) (by kernel_rfl)
  · have h := Option.some.inj h
    subst h
    exact Spec.path XTok PGmix slices_Concat_api_Pin_api_Pin_fn 0 [.r [.nl 2], .r [], .r [.eq 10 (iA (a0.length : Int))], .s (slices_Concat_api_Pin_api_Pin_F0 a0 0 0) (slices_Concat_api_Pin_api_Pin_H0 a0 0 0) [] (slices_Concat_api_Pin_api_Pin_R r11)] (an (leni_eq e_sl_Pin a0) (slices_Concat_api_Pin_api_Pin_l0 a0 0 (.ret r11) h10)) (by kernel_rfl)
end Go.Proofs.YtlbndchfmdogeaaGreatDoor.Sym
