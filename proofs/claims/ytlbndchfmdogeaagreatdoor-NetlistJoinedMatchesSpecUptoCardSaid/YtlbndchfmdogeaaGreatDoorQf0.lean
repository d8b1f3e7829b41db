/- Printed by gen2.py: the plain forms of functions, and that calling them gives what these give. Conditions: none. -/
import Derived.Test.YtlbndchfmdogeaaGreatDoorQb
set_option linter.unusedVariables false
set_option maxHeartbeats 4000000
namespace Go.Proofs.YtlbndchfmdogeaaGreatDoor.Sym
open Go Go.RowKit
noncomputable def nl_IsWord_c : Code := (Go.Proofs.Tryz.f82.body).getD .skip
theorem nl_IsWord_fn : FnOk PG 82 nl_IsWord_c 49 [.tmp 2] := ⟨⟨Go.Proofs.Tryz.f82, by kernel_rfl, by kernel_rfl, by kernel_rfl, by kernel_rfl, by kernel_rfl⟩⟩
noncomputable def nl_IsWord_c0 : Code := cL (cL (cR (cL (cR nl_IsWord_c))))
noncomputable def nl_IsWord_R (r : Bool) : Oc := .ret [(2, bA r)] []
noncomputable def nl_IsWord_F0 (a0 : ByteArray) (i1 : Nat) : Fr := [(0, sA a0), (5, sA a0), (6, iA (a0.size : Int)), (7, iA (i1 : Int))]
noncomputable def nl_IsWord_H0 (a0 : ByteArray) (i1 : Nat) : Hp := []
noncomputable def nl_IsWord_B0 (a0 : ByteArray) (s : Unit) : Oc := .ex 0 [(0, sA a0)] []
noncomputable def nl_IsWord_b0 (a0 : ByteArray) (i1 : Nat) : Option (Stp Unit Bool) :=
 grd ((0 : Int) ≤ (i1 : Int) ∧ (i1 : Int) < (a0.size : Int)) <|
 bnd1 (cnd (decide ((bt a0 (i1 : Int)) < 65)) (cnd (decide ((bt a0 (i1 : Int)) < 97)) (cnd (decide ((bt a0 (i1 : Int)) < 48)) (bnd (h_IndexByte (⟨#[95, 43, 45, 35]⟩ : ByteArray) (bt a0 (i1 : Int))) fun r9 =>
 some (decide (r9 < 0))) (cnd (decide ((bt a0 (i1 : Int)) > 57)) (bnd (h_IndexByte (⟨#[95, 43, 45, 35]⟩ : ByteArray) (bt a0 (i1 : Int))) fun r12 =>
 some (decide (r12 < 0))) (some false))) (cnd (decide ((bt a0 (i1 : Int)) > 122)) (cnd (decide ((bt a0 (i1 : Int)) < 48)) (bnd (h_IndexByte (⟨#[95, 43, 45, 35]⟩ : ByteArray) (bt a0 (i1 : Int))) fun r16 =>
 some (decide (r16 < 0))) (cnd (decide ((bt a0 (i1 : Int)) > 57)) (bnd (h_IndexByte (⟨#[95, 43, 45, 35]⟩ : ByteArray) (bt a0 (i1 : Int))) fun r19 =>
 some (decide (r19 < 0))) (some false))) (some false))) (cnd (decide ((bt a0 (i1 : Int)) > 90)) (cnd (decide ((bt a0 (i1 : Int)) < 97)) (cnd (decide ((bt a0 (i1 : Int)) < 48)) (bnd (h_IndexByte (⟨#[95, 43, 45, 35]⟩ : ByteArray) (bt a0 (i1 : Int))) fun r24 =>
 some (decide (r24 < 0))) (cnd (decide ((bt a0 (i1 : Int)) > 57)) (bnd (h_IndexByte (⟨#[95, 43, 45, 35]⟩ : ByteArray) (bt a0 (i1 : Int))) fun r27 =>
 some (decide (r27 < 0))) (some false))) (cnd (decide ((bt a0 (i1 : Int)) > 122)) (cnd (decide ((bt a0 (i1 : Int)) < 48)) (bnd (h_IndexByte (⟨#[95, 43, 45, 35]⟩ : ByteArray) (bt a0 (i1 : Int))) fun r31 =>
 some (decide (r31 < 0))) (cnd (decide ((bt a0 (i1 : Int)) > 57)) (bnd (h_IndexByte (⟨#[95, 43, 45, 35]⟩ : ByteArray) (bt a0 (i1 : Int))) fun r34 =>
 some (decide (r34 < 0))) (some false))) (some false))) (some false))) fun v3 =>
 cnd v3 (some (.ret false)) (some (.go ()))
theorem nl_IsWord_b0_r (a0 : ByteArray) (i1 : Nat) (o : Stp Unit Bool) (hi : i1 < a0.size) (h : nl_IsWord_b0 a0 i1 = some o) :
    Runs PG 49 0 nl_IsWord_c0 (nl_IsWord_F0 a0 i1 ) (nl_IsWord_H0 a0 i1 ) (stpOc (fun s' => .nor (nl_IsWord_F0 a0 (i1 + 1) ) (nl_IsWord_H0 a0 (i1 + 1) )) (nl_IsWord_B0 a0) nl_IsWord_R o) := by
  unfold nl_IsWord_b0 at h
  refine Runs.slen (s := 5) (b := a0) (by kernel_rfl) fun hM => ?_
  obtain ⟨h2, h⟩ := grd_e h
  obtain ⟨v3, h4, h⟩ := bnd1_e h
  let q36_f : Fr := [(0, sA a0), (4, .t (.v (.c (.v (.int .u8 (bt a0 (i1 : Int))))))), (5, sA a0), (6, iA (a0.size : Int)), (7, iA (i1 : Int))]
  let q36_g : Hp := []
  let q36_f' : Fr := [(0, sA a0), (5, sA a0), (6, iA (a0.size : Int)), (7, iA (i1 : Int)), (39, bA v3)]
  let q36_g' : Hp := []
  have R5 : Runs PG 49 0 (cL (cR (cR (cL (cL (cR (cR nl_IsWord_c0))))))) q36_f q36_g (.nor q36_f' q36_g') := by
    rcases cnd_e h4 with ⟨h6, h4⟩ | ⟨h6, h4⟩
    · rcases cnd_e h4 with ⟨h7, h4⟩ | ⟨h7, h4⟩
      · rcases cnd_e h4 with ⟨h8, h4⟩ | ⟨h8, h4⟩
        · obtain ⟨r9, h10, h4⟩ := bnd_e h4
          have h4 := Option.some.inj h4
          subst h4
          exact Runs.path XTok PGmix [.r [.b true, .b true, .b true, .b true, .b true, .b true, .b true, .b true, .b true, .b true, .b true, .b true, .b true, .b true, .b true, .b true, .b true, .b true, .b true, .b true, .b true, .val (iA r9), .b true, .b true]] [] (an h6 (an h6 (an h6 (an (Eq.refl true) (an (Eq.refl true) (an (Eq.refl true) (an h7 (an h7 (an (Eq.refl true) (an h7 (an (Eq.refl true) (an (Eq.refl true) (an (Eq.refl true) (an (Eq.refl true) (an h8 (an h8 (an (Eq.refl true) (an h8 (an (Eq.refl true) (an (Eq.refl true) (an (Eq.refl true) (an (h_IndexByte_ok (⟨#[95, 43, 45, 35]⟩ : ByteArray) (bt a0 (i1 : Int)) r9 h10) (an (Eq.refl true) (Eq.refl true)))))))))))))))))))))))) (by kernel_rfl)
        · rcases cnd_e h4 with ⟨h11, h4⟩ | ⟨h11, h4⟩
          · obtain ⟨r12, h13, h4⟩ := bnd_e h4
            have h4 := Option.some.inj h4
            subst h4
            exact Runs.path XTok PGmix [.r [.b true, .b true, .b true, .b true, .b true, .b true, .b true, .b true, .b true, .b true, .b true, .b true, .b true, .b true, .b false, .b false, .b true, .b false, .b true, .b true, .b true, .val (iA r12), .b true, .b true]] [] (an h6 (an h6 (an h6 (an (Eq.refl true) (an (Eq.refl true) (an (Eq.refl true) (an h7 (an h7 (an (Eq.refl true) (an h7 (an (Eq.refl true) (an (Eq.refl true) (an (Eq.refl true) (an (Eq.refl true) (an h8 (an h8 (an (Eq.refl true) (an h8 (an (Eq.refl true) (an h11 (an h11 (an (h_IndexByte_ok (⟨#[95, 43, 45, 35]⟩ : ByteArray) (bt a0 (i1 : Int)) r12 h13) (an h11 h11))))))))))))))))))))))) (by kernel_rfl)
          · have h4 := Option.some.inj h4
            subst h4
            exact Runs.path XTok PGmix [.r [.b true, .b true, .b true, .b true, .b true, .b true, .b true, .b true, .b true, .b true, .b true, .b true, .b true, .b true, .b false, .b false, .b true, .b false, .b true, .b false, .b false, .b false, .b false]] [] (an h6 (an h6 (an h6 (an (Eq.refl true) (an (Eq.refl true) (an (Eq.refl true) (an h7 (an h7 (an (Eq.refl true) (an h7 (an (Eq.refl true) (an (Eq.refl true) (an (Eq.refl true) (an (Eq.refl true) (an h8 (an h8 (an (Eq.refl true) (an h8 (an (Eq.refl true) (an h11 (an h11 (an h11 h11)))))))))))))))))))))) (by kernel_rfl)
      · rcases cnd_e h4 with ⟨h14, h4⟩ | ⟨h14, h4⟩
        · rcases cnd_e h4 with ⟨h15, h4⟩ | ⟨h15, h4⟩
          · obtain ⟨r16, h17, h4⟩ := bnd_e h4
            have h4 := Option.some.inj h4
            subst h4
            exact Runs.path XTok PGmix [.r [.b true, .b true, .b true, .b true, .b true, .b true, .b false, .b false, .b true, .b false, .b true, .b true, .b true, .b true, .b true, .b true, .b true, .b true, .b true, .b true, .b true, .val (iA r16), .b true, .b true]] [] (an h6 (an h6 (an h6 (an (Eq.refl true) (an (Eq.refl true) (an (Eq.refl true) (an h7 (an h7 (an (Eq.refl true) (an h7 (an (Eq.refl true) (an h14 (an h14 (an h14 (an h15 (an h15 (an h14 (an h15 (an h14 (an (Eq.refl true) (an (Eq.refl true) (an (h_IndexByte_ok (⟨#[95, 43, 45, 35]⟩ : ByteArray) (bt a0 (i1 : Int)) r16 h17) (an (Eq.refl true) (Eq.refl true)))))))))))))))))))))))) (by kernel_rfl)
          · rcases cnd_e h4 with ⟨h18, h4⟩ | ⟨h18, h4⟩
            · obtain ⟨r19, h20, h4⟩ := bnd_e h4
              have h4 := Option.some.inj h4
              subst h4
              exact Runs.path XTok PGmix [.r [.b true, .b true, .b true, .b true, .b true, .b true, .b false, .b false, .b true, .b false, .b true, .b true, .b true, .b true, .b false, .b false, .b true, .b false, .b true, .b true, .b true, .val (iA r19), .b true, .b true]] [] (an h6 (an h6 (an h6 (an (Eq.refl true) (an (Eq.refl true) (an (Eq.refl true) (an h7 (an h7 (an (Eq.refl true) (an h7 (an (Eq.refl true) (an h14 (an h14 (an h14 (an h15 (an h15 (an h14 (an h15 (an h14 (an h18 (an h18 (an (h_IndexByte_ok (⟨#[95, 43, 45, 35]⟩ : ByteArray) (bt a0 (i1 : Int)) r19 h20) (an h18 h18))))))))))))))))))))))) (by kernel_rfl)
            · have h4 := Option.some.inj h4
              subst h4
              exact Runs.path XTok PGmix [.r [.b true, .b true, .b true, .b true, .b true, .b true, .b false, .b false, .b true, .b false, .b true, .b true, .b true, .b true, .b false, .b false, .b true, .b false, .b true, .b false, .b false, .b false, .b false]] [] (an h6 (an h6 (an h6 (an (Eq.refl true) (an (Eq.refl true) (an (Eq.refl true) (an h7 (an h7 (an (Eq.refl true) (an h7 (an (Eq.refl true) (an h14 (an h14 (an h14 (an h15 (an h15 (an h14 (an h15 (an h14 (an h18 (an h18 (an h18 h18)))))))))))))))))))))) (by kernel_rfl)
        · have h4 := Option.some.inj h4
          subst h4
          exact Runs.path XTok PGmix [.r [.b true, .b true, .b true, .b true, .b true, .b true, .b false, .b false, .b true, .b false, .b true, .b false, .b false, .b false, .b false, .b false, .b false, .b false, .b false, .b false]] [] (an h6 (an h6 (an h6 (an (Eq.refl true) (an (Eq.refl true) (an (Eq.refl true) (an h7 (an h7 (an (Eq.refl true) (an h7 (an (Eq.refl true) (an h14 (an h14 (an h14 (an h14 (an h14 (an (Eq.refl false) (an (Eq.refl false) (an (Eq.refl false) (Eq.refl false)))))))))))))))))))) (by kernel_rfl)
    · rcases cnd_e h4 with ⟨h21, h4⟩ | ⟨h21, h4⟩
      · rcases cnd_e h4 with ⟨h22, h4⟩ | ⟨h22, h4⟩
        · rcases cnd_e h4 with ⟨h23, h4⟩ | ⟨h23, h4⟩
          · obtain ⟨r24, h25, h4⟩ := bnd_e h4
            have h4 := Option.some.inj h4
            subst h4
            exact Runs.path XTok PGmix [.r [.b false, .b false, .b false, .b true, .b true, .b true, .b true, .b true, .b true, .b true, .b true, .b true, .b true, .b true, .b true, .b true, .b true, .b true, .b true, .b true, .b true, .val (iA r24), .b true, .b true]] [] (an h6 (an h6 (an h6 (an h21 (an h21 (an h21 (an h22 (an h22 (an h21 (an h22 (an h21 (an (Eq.refl true) (an (Eq.refl true) (an (Eq.refl true) (an h23 (an h23 (an (Eq.refl true) (an h23 (an (Eq.refl true) (an (Eq.refl true) (an (Eq.refl true) (an (h_IndexByte_ok (⟨#[95, 43, 45, 35]⟩ : ByteArray) (bt a0 (i1 : Int)) r24 h25) (an (Eq.refl true) (Eq.refl true)))))))))))))))))))))))) (by kernel_rfl)
          · rcases cnd_e h4 with ⟨h26, h4⟩ | ⟨h26, h4⟩
            · obtain ⟨r27, h28, h4⟩ := bnd_e h4
              have h4 := Option.some.inj h4
              subst h4
              exact Runs.path XTok PGmix [.r [.b false, .b false, .b false, .b true, .b true, .b true, .b true, .b true, .b true, .b true, .b true, .b true, .b true, .b true, .b false, .b false, .b true, .b false, .b true, .b true, .b true, .val (iA r27), .b true, .b true]] [] (an h6 (an h6 (an h6 (an h21 (an h21 (an h21 (an h22 (an h22 (an h21 (an h22 (an h21 (an (Eq.refl true) (an (Eq.refl true) (an (Eq.refl true) (an h23 (an h23 (an (Eq.refl true) (an h23 (an (Eq.refl true) (an h26 (an h26 (an (h_IndexByte_ok (⟨#[95, 43, 45, 35]⟩ : ByteArray) (bt a0 (i1 : Int)) r27 h28) (an h26 h26))))))))))))))))))))))) (by kernel_rfl)
            · have h4 := Option.some.inj h4
              subst h4
              exact Runs.path XTok PGmix [.r [.b false, .b false, .b false, .b true, .b true, .b true, .b true, .b true, .b true, .b true, .b true, .b true, .b true, .b true, .b false, .b false, .b true, .b false, .b true, .b false, .b false, .b false, .b false]] [] (an h6 (an h6 (an h6 (an h21 (an h21 (an h21 (an h22 (an h22 (an h21 (an h22 (an h21 (an (Eq.refl true) (an (Eq.refl true) (an (Eq.refl true) (an h23 (an h23 (an (Eq.refl true) (an h23 (an (Eq.refl true) (an h26 (an h26 (an h26 h26)))))))))))))))))))))) (by kernel_rfl)
        · rcases cnd_e h4 with ⟨h29, h4⟩ | ⟨h29, h4⟩
          · rcases cnd_e h4 with ⟨h30, h4⟩ | ⟨h30, h4⟩
            · obtain ⟨r31, h32, h4⟩ := bnd_e h4
              have h4 := Option.some.inj h4
              subst h4
              exact Runs.path XTok PGmix [.r [.b false, .b false, .b false, .b true, .b true, .b true, .b false, .b false, .b true, .b false, .b true, .b true, .b true, .b true, .b true, .b true, .b true, .b true, .b true, .b true, .b true, .val (iA r31), .b true, .b true]] [] (an h6 (an h6 (an h6 (an h21 (an h21 (an h21 (an h22 (an h22 (an h21 (an h22 (an h21 (an h29 (an h29 (an h29 (an h30 (an h30 (an h29 (an h30 (an h29 (an (Eq.refl true) (an (Eq.refl true) (an (h_IndexByte_ok (⟨#[95, 43, 45, 35]⟩ : ByteArray) (bt a0 (i1 : Int)) r31 h32) (an (Eq.refl true) (Eq.refl true)))))))))))))))))))))))) (by kernel_rfl)
            · rcases cnd_e h4 with ⟨h33, h4⟩ | ⟨h33, h4⟩
              · obtain ⟨r34, h35, h4⟩ := bnd_e h4
                have h4 := Option.some.inj h4
                subst h4
                exact Runs.path XTok PGmix [.r [.b false, .b false, .b false, .b true, .b true, .b true, .b false, .b false, .b true, .b false, .b true, .b true, .b true, .b true, .b false, .b false, .b true, .b false, .b true, .b true, .b true, .val (iA r34), .b true, .b true]] [] (an h6 (an h6 (an h6 (an h21 (an h21 (an h21 (an h22 (an h22 (an h21 (an h22 (an h21 (an h29 (an h29 (an h29 (an h30 (an h30 (an h29 (an h30 (an h29 (an h33 (an h33 (an (h_IndexByte_ok (⟨#[95, 43, 45, 35]⟩ : ByteArray) (bt a0 (i1 : Int)) r34 h35) (an h33 h33))))))))))))))))))))))) (by kernel_rfl)
              · have h4 := Option.some.inj h4
                subst h4
                exact Runs.path XTok PGmix [.r [.b false, .b false, .b false, .b true, .b true, .b true, .b false, .b false, .b true, .b false, .b true, .b true, .b true, .b true, .b false, .b false, .b true, .b false, .b true, .b false, .b false, .b false, .b false]] [] (an h6 (an h6 (an h6 (an h21 (an h21 (an h21 (an h22 (an h22 (an h21 (an h22 (an h21 (an h29 (an h29 (an h29 (an h30 (an h30 (an h29 (an h30 (an h29 (an h33 (an h33 (an h33 h33)))))))))))))))))))))) (by kernel_rfl)
          · have h4 := Option.some.inj h4
            subst h4
            exact Runs.path XTok PGmix [.r [.b false, .b false, .b false, .b true, .b true, .b true, .b false, .b false, .b true, .b false, .b true, .b false, .b false, .b false, .b false, .b false, .b false, .b false, .b false, .b false]] [] (an h6 (an h6 (an h6 (an h21 (an h21 (an h21 (an h22 (an h22 (an h21 (an h22 (an h21 (an h29 (an h29 (an h29 (an h29 (an h29 (an (Eq.refl false) (an (Eq.refl false) (an (Eq.refl false) (Eq.refl false)))))))))))))))))))) (by kernel_rfl)
      · have h4 := Option.some.inj h4
        subst h4
        exact Runs.path XTok PGmix [.r [.b false, .b false, .b false, .b false, .b false, .b false, .b false, .b false, .b false, .b false, .b false, .b false, .b false, .b false, .b false, .b false, .b false]] [] (an h6 (an h6 (an h6 (an h21 (an h21 (an h21 (an h21 (an h21 (an (Eq.refl false) (an (Eq.refl false) (an (Eq.refl false) (an (Eq.refl false) (an (Eq.refl false) (an (Eq.refl false) (an (Eq.refl false) (an (Eq.refl false) (Eq.refl false))))))))))))))))) (by kernel_rfl)
  rcases cnd_e h with ⟨h37, h⟩ | ⟨h37, h⟩
  · have h := Option.some.inj h
    subst h
    exact Runs.path XTok PGmix [.r [], .b true, .r [], .r [], .s q36_f q36_g [] (.nor q36_f' q36_g'), .b true, .r []] [] (an (lt_true hi) (an h2 (an R5 h37))) (by kernel_rfl)
  · have h := Option.some.inj h
    subst h
    exact Runs.path XTok PGmix [.r [], .b true, .r [], .r [], .s q36_f q36_g [] (.nor q36_f' q36_g'), .b false, .r [.eq 40 (iA ((i1 + 1 : Nat) : Int))]] [] (an (lt_true hi) (an h2 (an R5 (an h37 (wrap_eq hi hM))))) (by kernel_rfl)
theorem nl_IsWord_b0_e (a0 : ByteArray) : Runs PG 49 0 nl_IsWord_c0 (nl_IsWord_F0 a0 (a0.size) ) (nl_IsWord_H0 a0 (a0.size) ) (nl_IsWord_B0 a0 ()) := by
  exact Runs.path XTok PGmix [.r [], .b false] [] (lt_false (a0.size)) (by kernel_rfl)
theorem nl_IsWord_l0 (a0 : ByteArray) (r : Fin' Unit Bool) (h : forN (fun i1 s => nl_IsWord_b0 a0 i1 ) (a0.size) 0 () = some r) : Runs PG 49 0 (cL (cR (cL (cR nl_IsWord_c)))) (nl_IsWord_F0 a0 0 ) (nl_IsWord_H0 a0 0 ) (finOc (nl_IsWord_B0 a0) nl_IsWord_R r) :=
  Runs.loop' (by kernel_rfl) (forN_rounds (σ := Unit) (ρ := Bool) (body := fun i1 s => nl_IsWord_b0 a0 i1 ) (F := fun i1 s => nl_IsWord_F0 a0 i1 ) (H := fun i1 s => nl_IsWord_H0 a0 i1 ) (B := nl_IsWord_B0 a0) (R := nl_IsWord_R) (M := a0.size) (fun _ => rfl) (fun _ => rfl) (fun s => nl_IsWord_b0_e a0 ) (fun i s o hi h => nl_IsWord_b0_r a0 i o hi h) _ 0 _ r (Nat.zero_add _) h)
noncomputable def nl_IsWord (a0 : ByteArray) : Option Bool :=
 aft0 (forN (fun i1 s => nl_IsWord_b0 a0 i1 ) (a0.size) 0 ()) (
 bnd1 (cnd (decide ((a0.size : Int) ≥ 1)) (some (decide ((a0.size : Int) ≤ 40))) (some false)) fun v40 =>
 some v40)
 (fun r39 =>
 some r39)
theorem nl_IsWord_ok (a0 : ByteArray) (r : Bool) (h : nl_IsWord a0 = some r) : Spec PG 82 [sT a0] [] (bA r) [] := by
  unfold nl_IsWord at h
  rcases aft0_e h with ⟨h38, h⟩ | ⟨r39, h38, h⟩
  · obtain ⟨v40, h41, h⟩ := bnd1_e h
    let q44_f : Fr := [(0, sA a0)]
    let q44_g : Hp := []
    let q44_f' : Fr := [(2, bA v40)]
    let q44_g' : Hp := []
    have R42 : Runs PG 49 0 (cL (cR (cR nl_IsWord_c))) q44_f q44_g (.nor q44_f' q44_g') := by
      rcases cnd_e h41 with ⟨h43, h41⟩ | ⟨h43, h41⟩
      · have h41 := Option.some.inj h41
        subst h41
        exact Runs.path XTok PGmix [.r [.b true, .b true, .b true, .b true]] [] (an h43 (an h43 (an h43 h43))) (by kernel_rfl)
      · have h41 := Option.some.inj h41
        subst h41
        exact Runs.path XTok PGmix [.r [.b false, .b false, .b false, .b false]] [] (an h43 (an h43 (an h43 h43))) (by kernel_rfl)
    have h := Option.some.inj h
    subst h
    exact Spec.path XTok PGmix nl_IsWord_fn 0 [.r [], .r [], .s (nl_IsWord_F0 a0 0 ) (nl_IsWord_H0 a0 0 ) [] (nl_IsWord_B0 a0 ()), .s q44_f q44_g [] (.nor q44_f' q44_g')] (an (nl_IsWord_l0 a0 (.fin ()) h38) R42) (by kernel_rfl)
  · have h := Option.some.inj h
    subst h
    exact Spec.path XTok PGmix nl_IsWord_fn 0 [.r [], .r [], .s (nl_IsWord_F0 a0 0 ) (nl_IsWord_H0 a0 0 ) [] (nl_IsWord_R r39)] (nl_IsWord_l0 a0 (.ret r39) h38) (by kernel_rfl)

noncomputable def slices_IndexFunc_api_PinType_api_PinType_c : Code := (Go.Proofs.Tryz.f52.body).getD .skip
theorem slices_IndexFunc_api_PinType_api_PinType_fn : FnOk PG 52 slices_IndexFunc_api_PinType_api_PinType_c 19 [.tmp 4] := ⟨⟨Go.Proofs.Tryz.f52, by kernel_rfl, by kernel_rfl, by kernel_rfl, by kernel_rfl, by kernel_rfl⟩⟩
noncomputable def slices_IndexFunc_api_PinType_api_PinType_c0 : Code := cL (cL (cR (cL (cR slices_IndexFunc_api_PinType_api_PinType_c))))
noncomputable def slices_IndexFunc_api_PinType_api_PinType_R (r : Int) : Oc := .ret [(4, iA r)] []
noncomputable def slices_IndexFunc_api_PinType_api_PinType_F0 (a1_k : FuncId) (a1_c : List C) (a0 : List PinType) (i1 : Nat) : Fr := [(0, lA 3 (List.map e_PinType a0)), (1, .t (.v (.c (.fn a1_k a1_c)))), (6, lA 3 (List.map e_PinType a0)), (7, iA (a0.length : Int)), (8, iA (i1 : Int))]
noncomputable def slices_IndexFunc_api_PinType_api_PinType_H0 (a1_k : FuncId) (a1_c : List C) (a0 : List PinType) (i1 : Nat) : Hp := []
noncomputable def slices_IndexFunc_api_PinType_api_PinType_B0 (a1_k : FuncId) (a1_c : List C) (a0 : List PinType) (s : Unit) : Oc := .ex 0 [] []
noncomputable def slices_IndexFunc_api_PinType_api_PinType_b0 (a1 : PinType → Option Bool) (a0 : List PinType) (i1 : Nat) : Option (Stp Unit Int) :=
 bnd (atI a0 (i1 : Int)) fun x2 =>
 bnd (a1 x2) fun r4 =>
 cnd r4 (some (.ret (i1 : Int))) (some (.go ()))
theorem slices_IndexFunc_api_PinType_api_PinType_b0_r (a1_k : FuncId) (a1_c : List C) (a1 : PinType → Option Bool) (a1_ok : ∀ (z0 : PinType) (r : Bool), a1 z0 = some r → Spec PG a1_k ([gT (e_PinType z0)] ++ List.map (fun x => TV.v (CV.c x)) a1_c) [] (bA r) []) (a0 : List PinType) (i1 : Nat) (o : Stp Unit Int) (hi : i1 < a0.length) (h : slices_IndexFunc_api_PinType_api_PinType_b0 a1 a0 i1 = some o) :
    Runs PG 19 0 slices_IndexFunc_api_PinType_api_PinType_c0 (slices_IndexFunc_api_PinType_api_PinType_F0 a1_k a1_c a0 i1 ) (slices_IndexFunc_api_PinType_api_PinType_H0 a1_k a1_c a0 i1 ) (stpOc (fun s' => .nor (slices_IndexFunc_api_PinType_api_PinType_F0 a1_k a1_c a0 (i1 + 1) ) (slices_IndexFunc_api_PinType_api_PinType_H0 a1_k a1_c a0 (i1 + 1) )) (slices_IndexFunc_api_PinType_api_PinType_B0 a1_k a1_c a0) slices_IndexFunc_api_PinType_api_PinType_R o) := by
  unfold slices_IndexFunc_api_PinType_api_PinType_b0 at h
  refine Runs.len (s := 6) (sz := 3) (xs := List.map e_PinType a0) (by kernel_rfl) fun hl => ?_
  have hM : a0.length ≤ lim := len_of hl
  obtain ⟨x2, h3, h⟩ := bnd_e h
  obtain ⟨r4, h5, h⟩ := bnd_e h
  rcases cnd_e h with ⟨h6, h⟩ | ⟨h6, h⟩
  · have h := Option.some.inj h
    subst h
    exact Runs.path XTok PGmix [.r [], .b true, .r [], .r [.el (e_PinType x2), .val (bA r4)], .b true, .r []] [] (an (lt_true hi) (an (idx_ok e_PinType h3) (an (a1_ok x2 r4 h5) h6))) (by kernel_rfl)
  · have h := Option.some.inj h
    subst h
    exact Runs.path XTok PGmix [.r [], .b true, .r [], .r [.el (e_PinType x2), .val (bA r4)], .b false, .r [.eq 18 (iA ((i1 + 1 : Nat) : Int))]] [] (an (lt_true hi) (an (idx_ok e_PinType h3) (an (a1_ok x2 r4 h5) (an h6 (wrap_eq hi hM))))) (by kernel_rfl)
theorem slices_IndexFunc_api_PinType_api_PinType_b0_e (a1_k : FuncId) (a1_c : List C) (a1 : PinType → Option Bool) (a1_ok : ∀ (z0 : PinType) (r : Bool), a1 z0 = some r → Spec PG a1_k ([gT (e_PinType z0)] ++ List.map (fun x => TV.v (CV.c x)) a1_c) [] (bA r) []) (a0 : List PinType) : Runs PG 19 0 slices_IndexFunc_api_PinType_api_PinType_c0 (slices_IndexFunc_api_PinType_api_PinType_F0 a1_k a1_c a0 (a0.length) ) (slices_IndexFunc_api_PinType_api_PinType_H0 a1_k a1_c a0 (a0.length) ) (slices_IndexFunc_api_PinType_api_PinType_B0 a1_k a1_c a0 ()) := by
  exact Runs.path XTok PGmix [.r [], .b false] [] (lt_false (a0.length)) (by kernel_rfl)
theorem slices_IndexFunc_api_PinType_api_PinType_l0 (a1_k : FuncId) (a1_c : List C) (a1 : PinType → Option Bool) (a1_ok : ∀ (z0 : PinType) (r : Bool), a1 z0 = some r → Spec PG a1_k ([gT (e_PinType z0)] ++ List.map (fun x => TV.v (CV.c x)) a1_c) [] (bA r) []) (a0 : List PinType) (r : Fin' Unit Int) (h : forN (fun i1 s => slices_IndexFunc_api_PinType_api_PinType_b0 a1 a0 i1 ) (a0.length) 0 () = some r) : Runs PG 19 0 (cL (cR (cL (cR slices_IndexFunc_api_PinType_api_PinType_c)))) (slices_IndexFunc_api_PinType_api_PinType_F0 a1_k a1_c a0 0 ) (slices_IndexFunc_api_PinType_api_PinType_H0 a1_k a1_c a0 0 ) (finOc (slices_IndexFunc_api_PinType_api_PinType_B0 a1_k a1_c a0) slices_IndexFunc_api_PinType_api_PinType_R r) :=
  Runs.loop' (by kernel_rfl) (forN_rounds (σ := Unit) (ρ := Int) (body := fun i1 s => slices_IndexFunc_api_PinType_api_PinType_b0 a1 a0 i1 ) (F := fun i1 s => slices_IndexFunc_api_PinType_api_PinType_F0 a1_k a1_c a0 i1 ) (H := fun i1 s => slices_IndexFunc_api_PinType_api_PinType_H0 a1_k a1_c a0 i1 ) (B := slices_IndexFunc_api_PinType_api_PinType_B0 a1_k a1_c a0) (R := slices_IndexFunc_api_PinType_api_PinType_R) (M := a0.length) (fun _ => rfl) (fun _ => rfl) (fun s => slices_IndexFunc_api_PinType_api_PinType_b0_e a1_k a1_c a1 a1_ok a0 ) (fun i s o hi h => slices_IndexFunc_api_PinType_api_PinType_b0_r a1_k a1_c a1 a1_ok a0 i o hi h) _ 0 _ r (Nat.zero_add _) h)
noncomputable def slices_IndexFunc_api_PinType_api_PinType (a0 : List PinType) (a1 : PinType → Option Bool) : Option Int :=
 aft0 (forN (fun i1 s => slices_IndexFunc_api_PinType_api_PinType_b0 a1 a0 i1 ) (a0.length) 0 ()) (
 some (-1))
 (fun r8 =>
 some r8)
theorem slices_IndexFunc_api_PinType_api_PinType_ok (a0 : List PinType) (a1_k : FuncId) (a1_c : List C) (a1 : PinType → Option Bool) (a1_ok : ∀ (z0 : PinType) (r : Bool), a1 z0 = some r → Spec PG a1_k ([gT (e_PinType z0)] ++ List.map (fun x => TV.v (CV.c x)) a1_c) [] (bA r) []) (r : Int) (h : slices_IndexFunc_api_PinType_api_PinType a0 a1 = some r) : Spec PG 52 [lT 3 (List.map e_PinType a0), .v (.c (.fn a1_k a1_c))] [] (iA r) [] := by
  unfold slices_IndexFunc_api_PinType_api_PinType at h
  rcases aft0_e h with ⟨h7, h⟩ | ⟨r8, h7, h⟩
  · have h := Option.some.inj h
    subst h
    exact Spec.path XTok PGmix slices_IndexFunc_api_PinType_api_PinType_fn 0 [.r [], .r [.eq 7 (iA (a0.length : Int))], .s (slices_IndexFunc_api_PinType_api_PinType_F0 a1_k a1_c a0 0 ) (slices_IndexFunc_api_PinType_api_PinType_H0 a1_k a1_c a0 0 ) [] (slices_IndexFunc_api_PinType_api_PinType_B0 a1_k a1_c a0 ()), .r []] (an (leni_eq e_PinType a0) (slices_IndexFunc_api_PinType_api_PinType_l0 a1_k a1_c a1 a1_ok a0 (.fin ()) h7)) (by kernel_rfl)
  · have h := Option.some.inj h
    subst h
    exact Spec.path XTok PGmix slices_IndexFunc_api_PinType_api_PinType_fn 0 [.r [], .r [.eq 7 (iA (a0.length : Int))], .s (slices_IndexFunc_api_PinType_api_PinType_F0 a1_k a1_c a0 0 ) (slices_IndexFunc_api_PinType_api_PinType_H0 a1_k a1_c a0 0 ) [] (slices_IndexFunc_api_PinType_api_PinType_R r8)] (an (leni_eq e_PinType a0) (slices_IndexFunc_api_PinType_api_PinType_l0 a1_k a1_c a1 a1_ok a0 (.ret r8) h7)) (by kernel_rfl)

noncomputable def slices_ContainsFunc_api_PinType_api_PinType_c : Code := (Go.Proofs.Tryz.f113.body).getD .skip
theorem slices_ContainsFunc_api_PinType_api_PinType_fn : FnOk PG 113 slices_ContainsFunc_api_PinType_api_PinType_c 9 [.tmp 4] := ⟨⟨Go.Proofs.Tryz.f113, by kernel_rfl, by kernel_rfl, by kernel_rfl, by kernel_rfl, by kernel_rfl⟩⟩
noncomputable def slices_ContainsFunc_api_PinType_api_PinType (a0 : List PinType) (a1 : PinType → Option Bool) : Option Bool :=
 bnd (slices_IndexFunc_api_PinType_api_PinType a0 a1) fun r1 =>
 some (decide (r1 ≥ 0))
theorem slices_ContainsFunc_api_PinType_api_PinType_ok (a0 : List PinType) (a1_k : FuncId) (a1_c : List C) (a1 : PinType → Option Bool) (a1_ok : ∀ (z0 : PinType) (r : Bool), a1 z0 = some r → Spec PG a1_k ([gT (e_PinType z0)] ++ List.map (fun x => TV.v (CV.c x)) a1_c) [] (bA r) []) (r : Bool) (h : slices_ContainsFunc_api_PinType_api_PinType a0 a1 = some r) : Spec PG 113 [lT 3 (List.map e_PinType a0), .v (.c (.fn a1_k a1_c))] [] (bA r) [] := by
  unfold slices_ContainsFunc_api_PinType_api_PinType at h
  obtain ⟨r1, h2, h⟩ := bnd_e h
  have h := Option.some.inj h
  subst h
  exact Spec.path XTok PGmix slices_ContainsFunc_api_PinType_api_PinType_fn 0 [.r [], .r [.val (iA r1)]] (slices_IndexFunc_api_PinType_api_PinType_ok a0 a1_k a1_c a1 a1_ok r1 h2) (by kernel_rfl)

noncomputable def nl_checkPins_1_c : Code := (Go.Proofs.Tryz.f114.body).getD .skip
theorem nl_checkPins_1_fn : FnOk PG 114 nl_checkPins_1_c 21 [.tmp 3] := ⟨⟨Go.Proofs.Tryz.f114, by kernel_rfl, by kernel_rfl, by kernel_rfl, by kernel_rfl, by kernel_rfl⟩⟩
noncomputable def nl_checkPins_1 (a0 : PinType) (a1 : PinType) : Option Bool :=
 bnd1 (cnd (decide (a1.Group > 0)) (cnd (a0.Group == a1.Group) (some (a0.Kind != a1.Kind)) (some false)) (some false)) fun v1 =>
 some v1
theorem nl_checkPins_1_ok (a0 : PinType) (a1 : PinType) (r : Bool) (h : nl_checkPins_1 a0 a1 = some r) : Spec PG 114 [gT (e_PinType a0), .v (.c (.ptr (e_PinType a1)))] [] (bA r) [] := by
  unfold nl_checkPins_1 at h
  obtain ⟨v1, h2, h⟩ := bnd1_e h
  let q6_f : Fr := [(1, .t (.v (.c (.ptr (e_PinType a1))))), (2, .t (.v (.ptr 0 0)))]
  let q6_g : Hp := [(0, .cells 70 [.c (sC a0.Name), .c (iC a0.Kind), .c (iC a0.Group)])]
  let q6_f' : Fr := [(3, bA v1)]
  let q6_g' : Hp := []
  have R3 : Runs PG 21 0 (cL (cR nl_checkPins_1_c)) q6_f q6_g (.nor q6_f' q6_g') := by
    rcases cnd_e h2 with ⟨h4, h2⟩ | ⟨h4, h2⟩
    · rcases cnd_e h2 with ⟨h5, h2⟩ | ⟨h5, h2⟩
      · have h2 := Option.some.inj h2
        subst h2
        exact Runs.path XTok PGmix [.r [.b true, .b true, .b true, .b true, .b true, .b true, .b true, .b true, .b true, .b true, .b true, .b true]] [] (an h4 (an h4 (an h4 (an h4 (an h4 (an h4 (an h5 (an h5 (an h5 (an h5 (an h5 h5))))))))))) (by kernel_rfl)
      · have h2 := Option.some.inj h2
        subst h2
        exact Runs.path XTok PGmix [.r [.b true, .b true, .b true, .b true, .b true, .b true, .b false, .b false, .b false, .b false, .b false, .b false]] [] (an h4 (an h4 (an h4 (an h4 (an h4 (an h4 (an h5 (an h5 (an h5 (an h5 (an h5 h5))))))))))) (by kernel_rfl)
    · have h2 := Option.some.inj h2
      subst h2
      exact Runs.path XTok PGmix [.r [.b false, .b false, .b false, .b false, .b false, .b false, .b false, .b false, .b false, .b false, .b false, .b false]] [] (an h4 (an h4 (an h4 (an h4 (an h4 (an h4 (an (Eq.refl false) (an (Eq.refl false) (an (Eq.refl false) (an (Eq.refl false) (an (Eq.refl false) (Eq.refl false)))))))))))) (by kernel_rfl)
  have h := Option.some.inj h
  subst h
  exact Spec.path XTok PGmix nl_checkPins_1_fn 0 [.r [.id 0], .s q6_f q6_g [] (.nor q6_f' q6_g')] R3 (by kernel_rfl)

noncomputable def nl_checkPins_c : Code := (Go.Proofs.Tryz.f83.body).getD .skip
theorem nl_checkPins_fn : FnOk PG 83 nl_checkPins_c 71 [.tmp 2] := ⟨⟨Go.Proofs.Tryz.f83, by kernel_rfl, by kernel_rfl, by kernel_rfl, by kernel_rfl, by kernel_rfl⟩⟩
noncomputable def nl_checkPins_c0 : Code := cL (cL (cR (cL (cR (cR (cR nl_checkPins_c))))))
noncomputable def nl_checkPins_R (r : Int) : Oc := .ret [(2, iA r)] []
noncomputable def nl_checkPins_F0 (a0 : List PinType) (i3 : Nat) : Fr := [(0, lA 3 (List.map e_PinType a0)), (13, lA 3 (List.map e_PinType a0)), (14, iA (a0.length : Int)), (15, iA (i3 : Int))]
noncomputable def nl_checkPins_H0 (a0 : List PinType) (i3 : Nat) : Hp := []
noncomputable def nl_checkPins_B0 (a0 : List PinType) (s : Unit) : Oc := .ex 0 [(0, lA 3 (List.map e_PinType a0))] []
noncomputable def nl_checkPins_b0 (a0 : List PinType) (i3 : Nat) : Option (Stp Unit Int) :=
 bnd (atI a0 (i3 : Int)) fun x4 =>
 bnd (nl_IsWord x4.Name) fun r6 =>
 cnd (!r6) (some (.ret 5)) (bnd1 (cnd (decide (x4.Kind < 1)) (some true) (some (decide (x4.Kind > 7)))) fun v9 =>
 cnd v9 (some (.ret 4)) (bnd1 (cnd (decide (x4.Group < 0)) (some true) (some (decide (x4.Group > 200)))) fun v15 =>
 cnd v15 (some (.ret 1)) (bnd1 (cnd (decide ((i3 : Int) > 0)) (bnd (atI a0 (w64 ((i3 : Int) - 1))) fun x25 =>
 some (sLe x4.Name x25.Name)) (some false)) fun v21 =>
 cnd v21 (some (.ret 8)) (some (.go ())))))
theorem nl_checkPins_b0_r (a0 : List PinType) (i3 : Nat) (o : Stp Unit Int) (hi : i3 < a0.length) (h : nl_checkPins_b0 a0 i3 = some o) :
    Runs PG 71 0 nl_checkPins_c0 (nl_checkPins_F0 a0 i3 ) (nl_checkPins_H0 a0 i3 ) (stpOc (fun s' => .nor (nl_checkPins_F0 a0 (i3 + 1) ) (nl_checkPins_H0 a0 (i3 + 1) )) (nl_checkPins_B0 a0) nl_checkPins_R o) := by
  unfold nl_checkPins_b0 at h
  refine Runs.len (s := 13) (sz := 3) (xs := List.map e_PinType a0) (by kernel_rfl) fun hl => ?_
  have hM : a0.length ≤ lim := len_of hl
  obtain ⟨x4, h5, h⟩ := bnd_e h
  obtain ⟨r6, h7, h⟩ := bnd_e h
  rcases cnd_e h with ⟨h8, h⟩ | ⟨h8, h⟩
  · have h := Option.some.inj h
    subst h
    exact Runs.path XTok PGmix [.r [], .b true, .r [.el (e_PinType x4), .id 0], .r [.val (bA r6)], .b true, .r []] [] (an (lt_true hi) (an (idx_ok e_PinType h5) (an (nl_IsWord_ok x4.Name r6 h7) h8))) (by kernel_rfl)
  · obtain ⟨v9, h10, h⟩ := bnd1_e h
    let q13_f : Fr := [(0, lA 3 (List.map e_PinType a0)), (3, iA (i3 : Int)), (4, .t (.v (.ptr 0 0))), (13, lA 3 (List.map e_PinType a0)), (14, iA (a0.length : Int)), (15, iA (i3 : Int))]
    let q13_g : Hp := [(0, .cells 70 [.c (sC x4.Name), .c (iC x4.Kind), .c (iC x4.Group)])]
    let q13_f' : Fr := [(0, lA 3 (List.map e_PinType a0)), (3, iA (i3 : Int)), (4, .t (.v (.ptr 0 0))), (13, lA 3 (List.map e_PinType a0)), (14, iA (a0.length : Int)), (15, iA (i3 : Int)), (25, bA v9)]
    let q13_g' : Hp := [(0, .cells 70 [.c (sC x4.Name), .c (iC x4.Kind), .c (iC x4.Group)])]
    have R11 : Runs PG 71 0 (cL (cR (cR (cL (cR (cL (cL (cR (cR nl_checkPins_c0))))))))) q13_f q13_g (.nor q13_f' q13_g') := by
      rcases cnd_e h10 with ⟨h12, h10⟩ | ⟨h12, h10⟩
      · have h10 := Option.some.inj h10
        subst h10
        exact Runs.path XTok PGmix [.r [.b true, .b true, .b true, .b true]] [] (an h12 (an h12 (an h12 h12))) (by kernel_rfl)
      · have h10 := Option.some.inj h10
        subst h10
        exact Runs.path XTok PGmix [.r [.b false, .b false, .b false, .b false]] [] (an h12 (an h12 (an h12 h12))) (by kernel_rfl)
    rcases cnd_e h with ⟨h14, h⟩ | ⟨h14, h⟩
    · have h := Option.some.inj h
      subst h
      exact Runs.path XTok PGmix [.r [], .b true, .r [.el (e_PinType x4), .id 0], .r [.val (bA r6)], .b false, .s q13_f q13_g [] (.nor q13_f' q13_g'), .b true, .r []] [] (an (lt_true hi) (an (idx_ok e_PinType h5) (an (nl_IsWord_ok x4.Name r6 h7) (an h8 (an R11 h14))))) (by kernel_rfl)
    · obtain ⟨v15, h16, h⟩ := bnd1_e h
      let q19_f : Fr := [(0, lA 3 (List.map e_PinType a0)), (3, iA (i3 : Int)), (4, .t (.v (.ptr 0 0))), (13, lA 3 (List.map e_PinType a0)), (14, iA (a0.length : Int)), (15, iA (i3 : Int))]
      let q19_g : Hp := [(0, .cells 70 [.c (sC x4.Name), .c (iC x4.Kind), .c (iC x4.Group)])]
      let q19_f' : Fr := [(0, lA 3 (List.map e_PinType a0)), (3, iA (i3 : Int)), (4, .t (.v (.ptr 0 0))), (13, lA 3 (List.map e_PinType a0)), (14, iA (a0.length : Int)), (15, iA (i3 : Int)), (34, bA v15)]
      let q19_g' : Hp := [(0, .cells 70 [.c (sC x4.Name), .c (iC x4.Kind), .c (iC x4.Group)])]
      have R17 : Runs PG 71 0 (cL (cR (cR (cR (cR (cL (cR (cL (cL (cR (cR nl_checkPins_c0))))))))))) q19_f q19_g (.nor q19_f' q19_g') := by
        rcases cnd_e h16 with ⟨h18, h16⟩ | ⟨h18, h16⟩
        · have h16 := Option.some.inj h16
          subst h16
          exact Runs.path XTok PGmix [.r [.b true, .b true, .b true, .b true]] [] (an h18 (an h18 (an h18 h18))) (by kernel_rfl)
        · have h16 := Option.some.inj h16
          subst h16
          exact Runs.path XTok PGmix [.r [.b false, .b false, .b false, .b false]] [] (an h18 (an h18 (an h18 h18))) (by kernel_rfl)
      rcases cnd_e h with ⟨h20, h⟩ | ⟨h20, h⟩
      · have h := Option.some.inj h
        subst h
        exact Runs.path XTok PGmix [.r [], .b true, .r [.el (e_PinType x4), .id 0], .r [.val (bA r6)], .b false, .s q13_f q13_g [] (.nor q13_f' q13_g'), .b false, .s q19_f q19_g [] (.nor q19_f' q19_g'), .b true, .r []] [] (an (lt_true hi) (an (idx_ok e_PinType h5) (an (nl_IsWord_ok x4.Name r6 h7) (an h8 (an R11 (an h14 (an R17 h20))))))) (by kernel_rfl)
      · obtain ⟨v21, h22, h⟩ := bnd1_e h
        let q27_f : Fr := [(0, lA 3 (List.map e_PinType a0)), (3, iA (i3 : Int)), (4, .t (.v (.ptr 0 0))), (13, lA 3 (List.map e_PinType a0)), (14, iA (a0.length : Int)), (15, iA (i3 : Int))]
        let q27_g : Hp := [(0, .cells 70 [.c (sC x4.Name), .c (iC x4.Kind), .c (iC x4.Group)])]
        let q27_f' : Fr := [(0, lA 3 (List.map e_PinType a0)), (13, lA 3 (List.map e_PinType a0)), (14, iA (a0.length : Int)), (15, iA (i3 : Int)), (43, bA v21)]
        let q27_g' : Hp := []
        have R23 : Runs PG 71 0 (cL (cR (cR (cR (cR (cR (cR (cL (cR (cL (cL (cR (cR nl_checkPins_c0))))))))))))) q27_f q27_g (.nor q27_f' q27_g') := by
          rcases cnd_e h22 with ⟨h24, h22⟩ | ⟨h24, h22⟩
          · obtain ⟨x25, h26, h22⟩ := bnd_e h22
            have h22 := Option.some.inj h22
            subst h22
            exact Runs.path XTok PGmix [.d [([], []), ([], []), ([], []), ([], [.b true]), ([0], [.b true]), ([], [.b true]), ([], [.b true]), ([], [.b true]), ([], [.b true, .el (e_PinType x25)]), ([], [.b true]), ([], [.b true]), ([], [.b true]), ([], [.b true]), ([], [])]] [] (an h24 (an h24 (an h24 (an h24 (an h24 (an h24 (an (idx_ok e_PinType h26) (an h24 (an h24 (an h24 h24)))))))))) (by kernel_rfl)
          · have h22 := Option.some.inj h22
            subst h22
            exact Runs.path XTok PGmix [.d [([], []), ([], []), ([], []), ([], [.b false]), ([], [.b false]), ([], [.b false]), ([], [.b false]), ([], [.b false]), ([], [.b false]), ([], [.b false]), ([], [.b false]), ([], [.b false]), ([], [.b false]), ([], [])]] [] (an h24 (an h24 (an h24 (an h24 (an h24 (an h24 (an h24 (an h24 (an h24 h24))))))))) (by kernel_rfl)
        rcases cnd_e h with ⟨h28, h⟩ | ⟨h28, h⟩
        · have h := Option.some.inj h
          subst h
          exact Runs.path XTok PGmix [.r [], .b true, .r [.el (e_PinType x4), .id 0], .r [.val (bA r6)], .b false, .s q13_f q13_g [] (.nor q13_f' q13_g'), .b false, .s q19_f q19_g [] (.nor q19_f' q19_g'), .b false, .s q27_f q27_g [] (.nor q27_f' q27_g'), .b true, .r []] [] (an (lt_true hi) (an (idx_ok e_PinType h5) (an (nl_IsWord_ok x4.Name r6 h7) (an h8 (an R11 (an h14 (an R17 (an h20 (an R23 h28))))))))) (by kernel_rfl)
        · have h := Option.some.inj h
          subst h
          exact Runs.path XTok PGmix [.r [], .b true, .r [.el (e_PinType x4), .id 0], .r [.val (bA r6)], .b false, .s q13_f q13_g [] (.nor q13_f' q13_g'), .b false, .s q19_f q19_g [] (.nor q19_f' q19_g'), .b false, .s q27_f q27_g [] (.nor q27_f' q27_g'), .b false, .r [.eq 57 (iA ((i3 + 1 : Nat) : Int))]] [] (an (lt_true hi) (an (idx_ok e_PinType h5) (an (nl_IsWord_ok x4.Name r6 h7) (an h8 (an R11 (an h14 (an R17 (an h20 (an R23 (an h28 (wrap_eq hi hM))))))))))) (by kernel_rfl)
theorem nl_checkPins_b0_e (a0 : List PinType) : Runs PG 71 0 nl_checkPins_c0 (nl_checkPins_F0 a0 (a0.length) ) (nl_checkPins_H0 a0 (a0.length) ) (nl_checkPins_B0 a0 ()) := by
  exact Runs.path XTok PGmix [.r [], .b false] [] (lt_false (a0.length)) (by kernel_rfl)
theorem nl_checkPins_l0 (a0 : List PinType) (r : Fin' Unit Int) (h : forN (fun i3 s => nl_checkPins_b0 a0 i3 ) (a0.length) 0 () = some r) : Runs PG 71 0 (cL (cR (cL (cR (cR (cR nl_checkPins_c)))))) (nl_checkPins_F0 a0 0 ) (nl_checkPins_H0 a0 0 ) (finOc (nl_checkPins_B0 a0) nl_checkPins_R r) :=
  Runs.loop' (by kernel_rfl) (forN_rounds (σ := Unit) (ρ := Int) (body := fun i3 s => nl_checkPins_b0 a0 i3 ) (F := fun i3 s => nl_checkPins_F0 a0 i3 ) (H := fun i3 s => nl_checkPins_H0 a0 i3 ) (B := nl_checkPins_B0 a0) (R := nl_checkPins_R) (M := a0.length) (fun _ => rfl) (fun _ => rfl) (fun s => nl_checkPins_b0_e a0 ) (fun i s o hi h => nl_checkPins_b0_r a0 i o hi h) _ 0 _ r (Nat.zero_add _) h)
noncomputable def nl_checkPins_c1 : Code := cL (cL (cR (cL (cR (cR (cR (cR nl_checkPins_c)))))))
noncomputable def nl_checkPins_F1 (a0 : List PinType) (i31 : Nat) : Fr := [(0, lA 3 (List.map e_PinType a0)), (58, lA 3 (List.map e_PinType a0)), (59, iA (a0.length : Int)), (60, iA (i31 : Int))]
noncomputable def nl_checkPins_H1 (a0 : List PinType) (i31 : Nat) : Hp := []
noncomputable def nl_checkPins_B1 (a0 : List PinType) (s : Unit) : Oc := .ex 3 [] []
noncomputable def nl_checkPins_b1 (a0 : List PinType) (i31 : Nat) : Option (Stp Unit Int) :=
 bnd (atI a0 (i31 : Int)) fun x32 =>
 grd ((0 : Int) ≤ 0 ∧ 0 ≤ (i31 : Int) ∧ (i31 : Int) ≤ (a0.length : Int)) <|
 bnd (slices_ContainsFunc_api_PinType_api_PinType ((a0.take (Int.toNat (i31 : Int))).drop (Int.toNat 0)) (fun z0 => nl_checkPins_1 z0 x32)) fun r35 =>
 cnd r35 (some (.ret 12)) (some (.go ()))
theorem nl_checkPins_b1_r (a0 : List PinType) (i31 : Nat) (o : Stp Unit Int) (hi : i31 < a0.length) (h : nl_checkPins_b1 a0 i31 = some o) :
    Runs PG 71 0 nl_checkPins_c1 (nl_checkPins_F1 a0 i31 ) (nl_checkPins_H1 a0 i31 ) (stpOc (fun s' => .nor (nl_checkPins_F1 a0 (i31 + 1) ) (nl_checkPins_H1 a0 (i31 + 1) )) (nl_checkPins_B1 a0) nl_checkPins_R o) := by
  unfold nl_checkPins_b1 at h
  refine Runs.len (s := 58) (sz := 3) (xs := List.map e_PinType a0) (by kernel_rfl) fun hl => ?_
  have hM : a0.length ≤ lim := len_of hl
  obtain ⟨x32, h33, h⟩ := bnd_e h
  obtain ⟨h34, h⟩ := grd_e h
  obtain ⟨r35, h36, h⟩ := bnd_e h
  rcases cnd_e h with ⟨h37, h⟩ | ⟨h37, h⟩
  · have h := Option.some.inj h
    subst h
    exact Runs.path XTok PGmix [.r [], .b true, .r [.el (e_PinType x32), .id 0], .fb 0, .r [.eq 67 (lA 3 (List.map e_PinType ((a0.take (Int.toNat (i31 : Int))).drop (Int.toNat 0)))), .val (bA r35)], .b true, .r []] [] (an (lt_true hi) (an (idx_ok e_PinType h33) (an (cut_lh e_PinType h34) (an (cut_eq 3 e_PinType a0 (Int.toNat (i31 : Int)) (Int.toNat 0)) (an (slices_ContainsFunc_api_PinType_api_PinType_ok ((a0.take (Int.toNat (i31 : Int))).drop (Int.toNat 0)) 114 [.ptr (e_PinType x32)] (fun z0 => nl_checkPins_1 z0 x32) (fun z0 r h => nl_checkPins_1_ok z0 x32 r h) r35 h36) h37))))) (by kernel_rfl)
  · have h := Option.some.inj h
    subst h
    exact Runs.path XTok PGmix [.r [], .b true, .r [.el (e_PinType x32), .id 0], .fb 0, .r [.eq 67 (lA 3 (List.map e_PinType ((a0.take (Int.toNat (i31 : Int))).drop (Int.toNat 0)))), .val (bA r35)], .b false, .r [.eq 70 (iA ((i31 + 1 : Nat) : Int))]] [] (an (lt_true hi) (an (idx_ok e_PinType h33) (an (cut_lh e_PinType h34) (an (cut_eq 3 e_PinType a0 (Int.toNat (i31 : Int)) (Int.toNat 0)) (an (slices_ContainsFunc_api_PinType_api_PinType_ok ((a0.take (Int.toNat (i31 : Int))).drop (Int.toNat 0)) 114 [.ptr (e_PinType x32)] (fun z0 => nl_checkPins_1 z0 x32) (fun z0 r h => nl_checkPins_1_ok z0 x32 r h) r35 h36) (an h37 (wrap_eq hi hM))))))) (by kernel_rfl)
theorem nl_checkPins_b1_e (a0 : List PinType) : Runs PG 71 0 nl_checkPins_c1 (nl_checkPins_F1 a0 (a0.length) ) (nl_checkPins_H1 a0 (a0.length) ) (nl_checkPins_B1 a0 ()) := by
  exact Runs.path XTok PGmix [.r [], .b false] [] (lt_false (a0.length)) (by kernel_rfl)
theorem nl_checkPins_l1 (a0 : List PinType) (r : Fin' Unit Int) (h : forN (fun i31 s => nl_checkPins_b1 a0 i31 ) (a0.length) 0 () = some r) : Runs PG 71 0 (cL (cR (cL (cR (cR (cR (cR nl_checkPins_c))))))) (nl_checkPins_F1 a0 0 ) (nl_checkPins_H1 a0 0 ) (finOc (nl_checkPins_B1 a0) nl_checkPins_R r) :=
  Runs.loop' (by kernel_rfl) (forN_rounds (σ := Unit) (ρ := Int) (body := fun i31 s => nl_checkPins_b1 a0 i31 ) (F := fun i31 s => nl_checkPins_F1 a0 i31 ) (H := fun i31 s => nl_checkPins_H1 a0 i31 ) (B := nl_checkPins_B1 a0) (R := nl_checkPins_R) (M := a0.length) (fun _ => rfl) (fun _ => rfl) (fun s => nl_checkPins_b1_e a0 ) (fun i s o hi h => nl_checkPins_b1_r a0 i o hi h) _ 0 _ r (Nat.zero_add _) h)
noncomputable def nl_checkPins (a0 : List PinType) : Option Int :=
 cnd ((a0.length : Int) == 0) (some 9) (cnd (decide ((a0.length : Int) > 200)) (some 2) (aft0 (forN (fun i3 s => nl_checkPins_b0 a0 i3 ) (a0.length) 0 ()) (
 aft0 (forN (fun i31 s => nl_checkPins_b1 a0 i31 ) (a0.length) 0 ()) (
 some 0)
 (fun r39 =>
 some r39))
 (fun r30 =>
 some r30)))
theorem nl_checkPins_ok (a0 : List PinType) (r : Int) (h : nl_checkPins a0 = some r) : Spec PG 83 [lT 3 (List.map e_PinType a0)] [] (iA r) [] := by
  unfold nl_checkPins at h
  rcases cnd_e h with ⟨h1, h⟩ | ⟨h1, h⟩
  · have h := Option.some.inj h
    subst h
    exact Spec.path XTok PGmix nl_checkPins_fn 0 [.r [], .r [.eq 8 (iA (a0.length : Int))], .b true, .r []] (an (leni_eq e_PinType a0) h1) (by kernel_rfl)
  · rcases cnd_e h with ⟨h2, h⟩ | ⟨h2, h⟩
    · have h := Option.some.inj h
      subst h
      exact Spec.path XTok PGmix nl_checkPins_fn 0 [.r [], .r [.eq 8 (iA (a0.length : Int))], .b false, .r [.eq 11 (iA (a0.length : Int))], .b true, .r []] (an (leni_eq e_PinType a0) (an h1 (an (leni_eq e_PinType a0) h2))) (by kernel_rfl)
    · rcases aft0_e h with ⟨h29, h⟩ | ⟨r30, h29, h⟩
      · rcases aft0_e h with ⟨h38, h⟩ | ⟨r39, h38, h⟩
        · have h := Option.some.inj h
          subst h
          exact Spec.path XTok PGmix nl_checkPins_fn 0 [.r [], .r [.eq 8 (iA (a0.length : Int))], .b false, .r [.eq 11 (iA (a0.length : Int))], .b false, .r [.eq 14 (iA (a0.length : Int))], .s (nl_checkPins_F0 a0 0 ) (nl_checkPins_H0 a0 0 ) [] (nl_checkPins_B0 a0 ()), .r [.eq 59 (iA (a0.length : Int))], .s (nl_checkPins_F1 a0 0 ) (nl_checkPins_H1 a0 0 ) [] (nl_checkPins_B1 a0 ()), .r []] (an (leni_eq e_PinType a0) (an h1 (an (leni_eq e_PinType a0) (an h2 (an (leni_eq e_PinType a0) (an (nl_checkPins_l0 a0 (.fin ()) h29) (an (leni_eq e_PinType a0) (nl_checkPins_l1 a0 (.fin ()) h38)))))))) (by kernel_rfl)
        · have h := Option.some.inj h
          subst h
          exact Spec.path XTok PGmix nl_checkPins_fn 0 [.r [], .r [.eq 8 (iA (a0.length : Int))], .b false, .r [.eq 11 (iA (a0.length : Int))], .b false, .r [.eq 14 (iA (a0.length : Int))], .s (nl_checkPins_F0 a0 0 ) (nl_checkPins_H0 a0 0 ) [] (nl_checkPins_B0 a0 ()), .r [.eq 59 (iA (a0.length : Int))], .s (nl_checkPins_F1 a0 0 ) (nl_checkPins_H1 a0 0 ) [] (nl_checkPins_R r39)] (an (leni_eq e_PinType a0) (an h1 (an (leni_eq e_PinType a0) (an h2 (an (leni_eq e_PinType a0) (an (nl_checkPins_l0 a0 (.fin ()) h29) (an (leni_eq e_PinType a0) (nl_checkPins_l1 a0 (.ret r39) h38)))))))) (by kernel_rfl)
      · have h := Option.some.inj h
        subst h
        exact Spec.path XTok PGmix nl_checkPins_fn 0 [.r [], .r [.eq 8 (iA (a0.length : Int))], .b false, .r [.eq 11 (iA (a0.length : Int))], .b false, .r [.eq 14 (iA (a0.length : Int))], .s (nl_checkPins_F0 a0 0 ) (nl_checkPins_H0 a0 0 ) [] (nl_checkPins_R r30)] (an (leni_eq e_PinType a0) (an h1 (an (leni_eq e_PinType a0) (an h2 (an (leni_eq e_PinType a0) (nl_checkPins_l0 a0 (.ret r30) h29)))))) (by kernel_rfl)

noncomputable def nl_CheckTypes_c : Code := (Go.Proofs.Tryz.f60.body).getD .skip
theorem nl_CheckTypes_fn : FnOk PG 60 nl_CheckTypes_c 40 [.tmp 2] := ⟨⟨Go.Proofs.Tryz.f60, by kernel_rfl, by kernel_rfl, by kernel_rfl, by kernel_rfl, by kernel_rfl⟩⟩
noncomputable def nl_CheckTypes_c0 : Code := cL (cL (cR (cL (cR (cR nl_CheckTypes_c)))))
noncomputable def nl_CheckTypes_R (r : Int) : Oc := .ret [(2, iA r)] []
noncomputable def nl_CheckTypes_F0 (a0 : List PartType) (i2 : Nat) : Fr := [(0, lA 2 (List.map e_PartType a0)), (9, lA 2 (List.map e_PartType a0)), (10, iA (a0.length : Int)), (11, iA (i2 : Int))]
noncomputable def nl_CheckTypes_H0 (a0 : List PartType) (i2 : Nat) : Hp := []
noncomputable def nl_CheckTypes_B0 (a0 : List PartType) (s : Unit) : Oc := .ex 0 [] []
noncomputable def nl_CheckTypes_b0 (a0 : List PartType) (i2 : Nat) : Option (Stp Unit Int) :=
 bnd (atI a0 (i2 : Int)) fun x3 =>
 bnd (nl_IsWord x3.Name) fun r5 =>
 cnd (!r5) (some (.ret 5)) (bnd (nl_checkPins x3.Pins) fun r8 =>
 cnd (r8 != 0) (some (.ret r8)) (bnd1 (cnd (decide ((i2 : Int) > 0)) (bnd (atI a0 (w64 ((i2 : Int) - 1))) fun x15 =>
 some (sLe x3.Name x15.Name)) (some false)) fun v11 =>
 cnd v11 (some (.ret 8)) (some (.go ()))))
theorem nl_CheckTypes_b0_r (a0 : List PartType) (i2 : Nat) (o : Stp Unit Int) (hi : i2 < a0.length) (h : nl_CheckTypes_b0 a0 i2 = some o) :
    Runs PG 40 0 nl_CheckTypes_c0 (nl_CheckTypes_F0 a0 i2 ) (nl_CheckTypes_H0 a0 i2 ) (stpOc (fun s' => .nor (nl_CheckTypes_F0 a0 (i2 + 1) ) (nl_CheckTypes_H0 a0 (i2 + 1) )) (nl_CheckTypes_B0 a0) nl_CheckTypes_R o) := by
  unfold nl_CheckTypes_b0 at h
  refine Runs.len (s := 9) (sz := 2) (xs := List.map e_PartType a0) (by kernel_rfl) fun hl => ?_
  have hM : a0.length ≤ lim := len_of hl
  obtain ⟨x3, h4, h⟩ := bnd_e h
  obtain ⟨r5, h6, h⟩ := bnd_e h
  rcases cnd_e h with ⟨h7, h⟩ | ⟨h7, h⟩
  · have h := Option.some.inj h
    subst h
    exact Runs.path XTok PGmix [.r [], .b true, .r [.el (e_PartType x3), .id 0], .r [.val (bA r5)], .b true, .r []] [] (an (lt_true hi) (an (idx_ok e_PartType h4) (an (nl_IsWord_ok x3.Name r5 h6) h7))) (by kernel_rfl)
  · obtain ⟨r8, h9, h⟩ := bnd_e h
    rcases cnd_e h with ⟨h10, h⟩ | ⟨h10, h⟩
    · have h := Option.some.inj h
      subst h
      exact Runs.path XTok PGmix [.r [], .b true, .r [.el (e_PartType x3), .id 0], .r [.val (bA r5)], .b false, .r [.val (iA r8)], .r [], .b true, .r []] [] (an (lt_true hi) (an (idx_ok e_PartType h4) (an (nl_IsWord_ok x3.Name r5 h6) (an h7 (an (nl_checkPins_ok x3.Pins r8 h9) h10))))) (by kernel_rfl)
    · obtain ⟨v11, h12, h⟩ := bnd1_e h
      let q17_f : Fr := [(0, lA 2 (List.map e_PartType a0)), (3, iA (i2 : Int)), (4, .t (.v (.ptr 0 0))), (9, lA 2 (List.map e_PartType a0)), (10, iA (a0.length : Int)), (11, iA (i2 : Int))]
      let q17_g : Hp := [(0, .cells 59 [.c (sC x3.Name), .c (.sl 3 (List.map e_PinType x3.Pins))])]
      let q17_f' : Fr := [(0, lA 2 (List.map e_PartType a0)), (9, lA 2 (List.map e_PartType a0)), (10, iA (a0.length : Int)), (11, iA (i2 : Int)), (38, bA v11)]
      let q17_g' : Hp := []
      have R13 : Runs PG 40 0 (cL (cR (cR (cR (cL (cL (cR (cR nl_CheckTypes_c0)))))))) q17_f q17_g (.nor q17_f' q17_g') := by
        rcases cnd_e h12 with ⟨h14, h12⟩ | ⟨h14, h12⟩
        · obtain ⟨x15, h16, h12⟩ := bnd_e h12
          have h12 := Option.some.inj h12
          subst h12
          exact Runs.path XTok PGmix [.d [([], []), ([], []), ([], []), ([], [.b true]), ([0], [.b true]), ([], [.b true]), ([], [.b true]), ([], [.b true]), ([], [.b true, .el (e_PartType x15)]), ([], [.b true]), ([], [.b true]), ([], [.b true]), ([], [.b true])]] [] (an h14 (an h14 (an h14 (an h14 (an h14 (an h14 (an (idx_ok e_PartType h16) (an h14 (an h14 (an h14 h14)))))))))) (by kernel_rfl)
        · have h12 := Option.some.inj h12
          subst h12
          exact Runs.path XTok PGmix [.d [([], []), ([], []), ([], []), ([], [.b false]), ([], [.b false]), ([], [.b false]), ([], [.b false]), ([], [.b false]), ([], [.b false]), ([], [.b false]), ([], [.b false]), ([], [.b false]), ([], [.b false])]] [] (an h14 (an h14 (an h14 (an h14 (an h14 (an h14 (an h14 (an h14 (an h14 h14))))))))) (by kernel_rfl)
      rcases cnd_e h with ⟨h18, h⟩ | ⟨h18, h⟩
      · have h := Option.some.inj h
        subst h
        exact Runs.path XTok PGmix [.r [], .b true, .r [.el (e_PartType x3), .id 0], .r [.val (bA r5)], .b false, .r [.val (iA r8)], .r [], .b false, .s q17_f q17_g [] (.nor q17_f' q17_g'), .b true, .r []] [] (an (lt_true hi) (an (idx_ok e_PartType h4) (an (nl_IsWord_ok x3.Name r5 h6) (an h7 (an (nl_checkPins_ok x3.Pins r8 h9) (an h10 (an R13 h18))))))) (by kernel_rfl)
      · have h := Option.some.inj h
        subst h
        exact Runs.path XTok PGmix [.r [], .b true, .r [.el (e_PartType x3), .id 0], .r [.val (bA r5)], .b false, .r [.val (iA r8)], .r [], .b false, .s q17_f q17_g [] (.nor q17_f' q17_g'), .b false, .r [.eq 39 (iA ((i2 + 1 : Nat) : Int))]] [] (an (lt_true hi) (an (idx_ok e_PartType h4) (an (nl_IsWord_ok x3.Name r5 h6) (an h7 (an (nl_checkPins_ok x3.Pins r8 h9) (an h10 (an R13 (an h18 (wrap_eq hi hM))))))))) (by kernel_rfl)
theorem nl_CheckTypes_b0_e (a0 : List PartType) : Runs PG 40 0 nl_CheckTypes_c0 (nl_CheckTypes_F0 a0 (a0.length) ) (nl_CheckTypes_H0 a0 (a0.length) ) (nl_CheckTypes_B0 a0 ()) := by
  exact Runs.path XTok PGmix [.r [], .b false] [] (lt_false (a0.length)) (by kernel_rfl)
theorem nl_CheckTypes_l0 (a0 : List PartType) (r : Fin' Unit Int) (h : forN (fun i2 s => nl_CheckTypes_b0 a0 i2 ) (a0.length) 0 () = some r) : Runs PG 40 0 (cL (cR (cL (cR (cR nl_CheckTypes_c))))) (nl_CheckTypes_F0 a0 0 ) (nl_CheckTypes_H0 a0 0 ) (finOc (nl_CheckTypes_B0 a0) nl_CheckTypes_R r) :=
  Runs.loop' (by kernel_rfl) (forN_rounds (σ := Unit) (ρ := Int) (body := fun i2 s => nl_CheckTypes_b0 a0 i2 ) (F := fun i2 s => nl_CheckTypes_F0 a0 i2 ) (H := fun i2 s => nl_CheckTypes_H0 a0 i2 ) (B := nl_CheckTypes_B0 a0) (R := nl_CheckTypes_R) (M := a0.length) (fun _ => rfl) (fun _ => rfl) (fun s => nl_CheckTypes_b0_e a0 ) (fun i s o hi h => nl_CheckTypes_b0_r a0 i o hi h) _ 0 _ r (Nat.zero_add _) h)
noncomputable def nl_CheckTypes (a0 : List PartType) : Option Int :=
 cnd (decide ((a0.length : Int) > 200)) (some 2) (aft0 (forN (fun i2 s => nl_CheckTypes_b0 a0 i2 ) (a0.length) 0 ()) (
 some 0)
 (fun r20 =>
 some r20))
theorem nl_CheckTypes_ok (a0 : List PartType) (r : Int) (h : nl_CheckTypes a0 = some r) : Spec PG 60 [lT 2 (List.map e_PartType a0)] [] (iA r) [] := by
  unfold nl_CheckTypes at h
  rcases cnd_e h with ⟨h1, h⟩ | ⟨h1, h⟩
  · have h := Option.some.inj h
    subst h
    exact Spec.path XTok PGmix nl_CheckTypes_fn 0 [.r [], .r [.eq 7 (iA (a0.length : Int))], .b true, .r []] (an (leni_eq e_PartType a0) h1) (by kernel_rfl)
  · rcases aft0_e h with ⟨h19, h⟩ | ⟨r20, h19, h⟩
    · have h := Option.some.inj h
      subst h
      exact Spec.path XTok PGmix nl_CheckTypes_fn 0 [.r [], .r [.eq 7 (iA (a0.length : Int))], .b false, .r [.eq 10 (iA (a0.length : Int))], .s (nl_CheckTypes_F0 a0 0 ) (nl_CheckTypes_H0 a0 0 ) [] (nl_CheckTypes_B0 a0 ()), .r []] (an (leni_eq e_PartType a0) (an h1 (an (leni_eq e_PartType a0) (nl_CheckTypes_l0 a0 (.fin ()) h19)))) (by kernel_rfl)
    · have h := Option.some.inj h
      subst h
      exact Spec.path XTok PGmix nl_CheckTypes_fn 0 [.r [], .r [.eq 7 (iA (a0.length : Int))], .b false, .r [.eq 10 (iA (a0.length : Int))], .s (nl_CheckTypes_F0 a0 0 ) (nl_CheckTypes_H0 a0 0 ) [] (nl_CheckTypes_R r20)] (an (leni_eq e_PartType a0) (an h1 (an (leni_eq e_PartType a0) (nl_CheckTypes_l0 a0 (.ret r20) h19)))) (by kernel_rfl)

noncomputable def slices_BinarySearchFunc_api_PartType_api_PartType_string_c : Code := (Go.Proofs.Tryz.f49.body).getD .skip
theorem slices_BinarySearchFunc_api_PartType_api_PartType_string_fn : FnOk PG 49 slices_BinarySearchFunc_api_PartType_api_PartType_string_c 49 [.tmp 6, .tmp 7] := ⟨⟨Go.Proofs.Tryz.f49, by kernel_rfl, by kernel_rfl, by kernel_rfl, by kernel_rfl, by kernel_rfl⟩⟩
noncomputable def slices_BinarySearchFunc_api_PartType_api_PartType_string_c0 : Code := cL (cL (cL (cR (cR (cR slices_BinarySearchFunc_api_PartType_api_PartType_string_c)))))
noncomputable def slices_BinarySearchFunc_api_PartType_api_PartType_string_R (r : Int × Bool) : Oc := .ret [(6, iA r.1), (7, bA r.2)] []
noncomputable def slices_BinarySearchFunc_api_PartType_api_PartType_string_F0 (a2_k : FuncId) (a2_c : List C) (a0 : List PartType) (a1 : ByteArray) (y1 : Int) (y2 : Int) : Fr := [(0, lA 2 (List.map e_PartType a0)), (1, sA a1), (2, .t (.v (.c (.fn a2_k a2_c)))), (8, iA (a0.length : Int)), (9, iA y1), (10, iA y2)]
noncomputable def slices_BinarySearchFunc_api_PartType_api_PartType_string_H0 (a2_k : FuncId) (a2_c : List C) (a0 : List PartType) (a1 : ByteArray) (y1 : Int) (y2 : Int) : Hp := []
noncomputable def slices_BinarySearchFunc_api_PartType_api_PartType_string_B0 (a2_k : FuncId) (a2_c : List C) (a0 : List PartType) (a1 : ByteArray) (s : Int × Int) : Oc := .ex 0 [(0, lA 2 (List.map e_PartType a0)), (1, sA a1), (2, .t (.v (.c (.fn a2_k a2_c)))), (8, iA (a0.length : Int)), (9, iA s.1)] []
noncomputable def slices_BinarySearchFunc_api_PartType_api_PartType_string_b0 (a2 : PartType → ByteArray → Option Int) (a0 : List PartType) (a1 : ByteArray) (y1 : Int) (y2 : Int) : Option (Stp (Int × Int) (Int × Bool)) :=
 cnd (decide (y1 < y2)) (grd ((0 : Int) ≤ 1) <|
 bnd (atI a0 (IntKind.i64.wrap ((IntKind.u64.wrap (w64 (y1 + y2))) / 2 ^ min (Int.toNat 1) 64))) fun x5 =>
 bnd (a2 x5 a1) fun r7 =>
 bnd2 (cnd (decide (r7 < 0)) (some (y2, w64 ((IntKind.i64.wrap ((IntKind.u64.wrap (w64 (y1 + y2))) / 2 ^ min (Int.toNat 1) 64)) + 1))) (some (IntKind.i64.wrap ((IntKind.u64.wrap (w64 (y1 + y2))) / 2 ^ min (Int.toNat 1) 64), y1))) fun v9 v10 =>
 some (.go (v10, v9))) (some (.brk (y1, y2)))
theorem slices_BinarySearchFunc_api_PartType_api_PartType_string_b0_r (a2_k : FuncId) (a2_c : List C) (a2 : PartType → ByteArray → Option Int) (a2_ok : ∀ (z0 : PartType) (z1 : ByteArray) (r : Int), a2 z0 z1 = some r → Spec PG a2_k ([gT (e_PartType z0), sT z1] ++ List.map (fun x => TV.v (CV.c x)) a2_c) [] (iA r) []) (a0 : List PartType) (a1 : ByteArray) (y1 : Int) (y2 : Int) (o : Stp (Int × Int) (Int × Bool)) (h : slices_BinarySearchFunc_api_PartType_api_PartType_string_b0 a2 a0 a1 y1 y2 = some o) :
    Runs PG 49 0 slices_BinarySearchFunc_api_PartType_api_PartType_string_c0 (slices_BinarySearchFunc_api_PartType_api_PartType_string_F0 a2_k a2_c a0 a1 y1 y2) (slices_BinarySearchFunc_api_PartType_api_PartType_string_H0 a2_k a2_c a0 a1 y1 y2) (stpOc (fun s' => .nor (slices_BinarySearchFunc_api_PartType_api_PartType_string_F0 a2_k a2_c a0 a1 s'.1 s'.2) (slices_BinarySearchFunc_api_PartType_api_PartType_string_H0 a2_k a2_c a0 a1 s'.1 s'.2)) (slices_BinarySearchFunc_api_PartType_api_PartType_string_B0 a2_k a2_c a0 a1) slices_BinarySearchFunc_api_PartType_api_PartType_string_R o) := by
  unfold slices_BinarySearchFunc_api_PartType_api_PartType_string_b0 at h
  rcases cnd_e h with ⟨h3, h⟩ | ⟨h3, h⟩
  · obtain ⟨h4, h⟩ := grd_e h
    obtain ⟨x5, h6, h⟩ := bnd_e h
    obtain ⟨r7, h8, h⟩ := bnd_e h
    obtain ⟨v9, v10, h11, h⟩ := bnd2_e h
    let q18_f : Fr := [(0, lA 2 (List.map e_PartType a0)), (1, sA a1), (2, .t (.v (.c (.fn a2_k a2_c)))), (8, iA (a0.length : Int)), (9, iA y1), (10, iA y2), (11, iA (IntKind.i64.wrap ((IntKind.u64.wrap (w64 (y1 + y2))) / 2 ^ min (Int.toNat 1) 64))), (31, bA (decide (r7 < 0)))]
    let q18_g : Hp := []
    let q18_f' : Fr := [(0, lA 2 (List.map e_PartType a0)), (1, sA a1), (2, .t (.v (.c (.fn a2_k a2_c)))), (8, iA (a0.length : Int)), (9, iA v10), (10, iA v9)]
    let q18_g' : Hp := []
    have R12 : Runs PG 49 0 (cR (cR (cL (cR slices_BinarySearchFunc_api_PartType_api_PartType_string_c0)))) q18_f q18_g (.nor q18_f' q18_g') := by
      rcases cnd_e h11 with ⟨h13, h11⟩ | ⟨h13, h11⟩
      · have h11 := Option.some.inj h11
        have q14 := (Prod.mk.inj h11).1
        have q15 := (Prod.mk.inj h11).2
        subst q14
        subst q15
        exact Runs.path XTok PGmix [.b true, .r []] [] h13 (by kernel_rfl)
      · have h11 := Option.some.inj h11
        have q16 := (Prod.mk.inj h11).1
        have q17 := (Prod.mk.inj h11).2
        subst q16
        subst q17
        exact Runs.path XTok PGmix [.b false, .r []] [] h13 (by kernel_rfl)
    have h := Option.some.inj h
    subst h
    exact Runs.path XTok PGmix [.r [], .b true, .r [], .r [.el (e_PartType x5), .val (iA r7)], .s q18_f q18_g [] (.nor q18_f' q18_g')] [] (an h3 (an h4 (an (idx_ok e_PartType h6) (an (a2_ok x5 a1 r7 h8) R12)))) (by kernel_rfl)
  · have h := Option.some.inj h
    subst h
    exact Runs.path XTok PGmix [.r [], .b false] [] h3 (by kernel_rfl)
theorem slices_BinarySearchFunc_api_PartType_api_PartType_string_l0 (a2_k : FuncId) (a2_c : List C) (a2 : PartType → ByteArray → Option Int) (a2_ok : ∀ (z0 : PartType) (z1 : ByteArray) (r : Int), a2 z0 z1 = some r → Spec PG a2_k ([gT (e_PartType z0), sT z1] ++ List.map (fun x => TV.v (CV.c x)) a2_c) [] (iA r) []) (a0 : List PartType) (a1 : ByteArray) (y1 : Int) (y2 : Int) (r : Fin' (Int × Int) (Int × Bool)) (h : loop (fun s => slices_BinarySearchFunc_api_PartType_api_PartType_string_b0 a2 a0 a1 s.1 s.2) (y1, y2) = some r) : Runs PG 49 0 (cL (cL (cR (cR (cR slices_BinarySearchFunc_api_PartType_api_PartType_string_c))))) (slices_BinarySearchFunc_api_PartType_api_PartType_string_F0 a2_k a2_c a0 a1 y1 y2) (slices_BinarySearchFunc_api_PartType_api_PartType_string_H0 a2_k a2_c a0 a1 y1 y2) (finOc (slices_BinarySearchFunc_api_PartType_api_PartType_string_B0 a2_k a2_c a0 a1) slices_BinarySearchFunc_api_PartType_api_PartType_string_R r) :=
  Runs.loop' (by kernel_rfl) (loop_rounds (σ := (Int × Int)) (ρ := (Int × Bool)) (body := fun s => slices_BinarySearchFunc_api_PartType_api_PartType_string_b0 a2 a0 a1 s.1 s.2) (F := fun s => slices_BinarySearchFunc_api_PartType_api_PartType_string_F0 a2_k a2_c a0 a1 s.1 s.2) (H := fun s => slices_BinarySearchFunc_api_PartType_api_PartType_string_H0 a2_k a2_c a0 a1 s.1 s.2) (B := slices_BinarySearchFunc_api_PartType_api_PartType_string_B0 a2_k a2_c a0 a1) (R := slices_BinarySearchFunc_api_PartType_api_PartType_string_R) (fun _ => rfl) (fun _ => rfl) (fun s o h => slices_BinarySearchFunc_api_PartType_api_PartType_string_b0_r a2_k a2_c a2 a2_ok a0 a1 s.1 s.2 o h) h)
noncomputable def slices_BinarySearchFunc_api_PartType_api_PartType_string (a0 : List PartType) (a1 : ByteArray) (a2 : PartType → ByteArray → Option Int) : Option (Int × Bool) :=
 aft2 (loop (fun s => slices_BinarySearchFunc_api_PartType_api_PartType_string_b0 a2 a0 a1 s.1 s.2) (0, (a0.length : Int))) (fun u19 u20 =>
 bnd1 (cnd (decide (u19 < (a0.length : Int))) (bnd (atI a0 u19) fun x27 =>
 bnd (a2 x27 a1) fun r29 =>
 some (r29 == 0)) (some false)) fun v23 =>
 some (u19, v23))
 (fun r22 =>
 some r22)
theorem slices_BinarySearchFunc_api_PartType_api_PartType_string_ok (a0 : List PartType) (a1 : ByteArray) (a2_k : FuncId) (a2_c : List C) (a2 : PartType → ByteArray → Option Int) (a2_ok : ∀ (z0 : PartType) (z1 : ByteArray) (r : Int), a2 z0 z1 = some r → Spec PG a2_k ([gT (e_PartType z0), sT z1] ++ List.map (fun x => TV.v (CV.c x)) a2_c) [] (iA r) []) (r : Int × Bool) (h : slices_BinarySearchFunc_api_PartType_api_PartType_string a0 a1 a2 = some r) : Spec PG 49 [lT 2 (List.map e_PartType a0), sT a1, .v (.c (.fn a2_k a2_c))] [] (.tup [iT r.1, bT r.2]) [] := by
  unfold slices_BinarySearchFunc_api_PartType_api_PartType_string at h
  rcases aft2_e h with ⟨u19, u20, h21, h⟩ | ⟨r22, h21, h⟩
  · obtain ⟨v23, h24, h⟩ := bnd1_e h
    let q31_f : Fr := [(0, lA 2 (List.map e_PartType a0)), (1, sA a1), (2, .t (.v (.c (.fn a2_k a2_c)))), (8, iA (a0.length : Int)), (9, iA u19)]
    let q31_g : Hp := []
    let q31_f' : Fr := [(6, iA u19), (7, bA v23)]
    let q31_g' : Hp := []
    have R25 : Runs PG 49 0 (cL (cR (cR (cR (cR slices_BinarySearchFunc_api_PartType_api_PartType_string_c))))) q31_f q31_g (.nor q31_f' q31_g') := by
      rcases cnd_e h24 with ⟨h26, h24⟩ | ⟨h26, h24⟩
      · obtain ⟨x27, h28, h24⟩ := bnd_e h24
        obtain ⟨r29, h30, h24⟩ := bnd_e h24
        have h24 := Option.some.inj h24
        subst h24
        exact Runs.path XTok PGmix [.r [.b true, .b true, .b true, .b true, .el (e_PartType x27), .b true, .b true, .b true, .val (iA r29), .b true, .b true]] [] (an h26 (an h26 (an h26 (an h26 (an (idx_ok e_PartType h28) (an h26 (an h26 (an h26 (an (a2_ok x27 a1 r29 h30) (an h26 h26)))))))))) (by kernel_rfl)
      · have h24 := Option.some.inj h24
        subst h24
        exact Runs.path XTok PGmix [.r [.b false, .b false, .b false, .b false, .b false, .b false, .b false, .b false, .b false]] [] (an h26 (an h26 (an h26 (an h26 (an h26 (an h26 (an h26 (an h26 h26)))))))) (by kernel_rfl)
    have h := Option.some.inj h
    subst h
    exact Spec.path XTok PGmix slices_BinarySearchFunc_api_PartType_api_PartType_string_fn 0 [.r [], .r [.eq 13 (iA (a0.length : Int))], .r [], .s (slices_BinarySearchFunc_api_PartType_api_PartType_string_F0 a2_k a2_c a0 a1 0 (a0.length : Int)) (slices_BinarySearchFunc_api_PartType_api_PartType_string_H0 a2_k a2_c a0 a1 0 (a0.length : Int)) [] (slices_BinarySearchFunc_api_PartType_api_PartType_string_B0 a2_k a2_c a0 a1 (u19, u20)), .s q31_f q31_g [] (.nor q31_f' q31_g')] (an (leni_eq e_PartType a0) (an (slices_BinarySearchFunc_api_PartType_api_PartType_string_l0 a2_k a2_c a2 a2_ok a0 a1 0 (a0.length : Int) (.fin (u19, u20)) h21) R25)) (by kernel_rfl)
  · have h := Option.some.inj h
    subst h
    exact Spec.path XTok PGmix slices_BinarySearchFunc_api_PartType_api_PartType_string_fn 0 [.r [], .r [.eq 13 (iA (a0.length : Int))], .r [], .s (slices_BinarySearchFunc_api_PartType_api_PartType_string_F0 a2_k a2_c a0 a1 0 (a0.length : Int)) (slices_BinarySearchFunc_api_PartType_api_PartType_string_H0 a2_k a2_c a0 a1 0 (a0.length : Int)) [] (slices_BinarySearchFunc_api_PartType_api_PartType_string_R r22)] (an (leni_eq e_PartType a0) (slices_BinarySearchFunc_api_PartType_api_PartType_string_l0 a2_k a2_c a2 a2_ok a0 a1 0 (a0.length : Int) (.ret r22) h21)) (by kernel_rfl)

noncomputable def strings_Compare_c : Code := (Go.Proofs.Tryz.f46.body).getD .skip
theorem strings_Compare_fn : FnOk PG 46 strings_Compare_c 8 [.tmp 4] := ⟨⟨Go.Proofs.Tryz.f46, by kernel_rfl, by kernel_rfl, by kernel_rfl, by kernel_rfl, by kernel_rfl⟩⟩
noncomputable def strings_Compare (a0 : ByteArray) (a1 : ByteArray) : Option Int :=
 bnd (h_CompareString a0 a1) fun r1 =>
 some r1
theorem strings_Compare_ok (a0 : ByteArray) (a1 : ByteArray) (r : Int) (h : strings_Compare a0 a1 = some r) : Spec PG 46 [sT a0, sT a1] [] (iA r) [] := by
  unfold strings_Compare at h
  obtain ⟨r1, h2, h⟩ := bnd_e h
  have h := Option.some.inj h
  subst h
  exact Spec.path XTok PGmix strings_Compare_fn 0 [.r [], .r [.val (iA r1)]] (h_CompareString_ok a0 a1 r1 h2) (by kernel_rfl)

noncomputable def nl_TypeAt_1_c : Code := (Go.Proofs.Tryz.f50.body).getD .skip
theorem nl_TypeAt_1_fn : FnOk PG 50 nl_TypeAt_1_c 9 [.tmp 4] := ⟨⟨Go.Proofs.Tryz.f50, by kernel_rfl, by kernel_rfl, by kernel_rfl, by kernel_rfl, by kernel_rfl⟩⟩
noncomputable def nl_TypeAt_1 (a0 : PartType) (a1 : ByteArray) : Option Int :=
 bnd (strings_Compare a0.Name a1) fun r1 =>
 some r1
theorem nl_TypeAt_1_ok (a0 : PartType) (a1 : ByteArray) (r : Int) (h : nl_TypeAt_1 a0 a1 = some r) : Spec PG 50 [gT (e_PartType a0), sT a1] [] (iA r) [] := by
  unfold nl_TypeAt_1 at h
  obtain ⟨r1, h2, h⟩ := bnd_e h
  have h := Option.some.inj h
  subst h
  exact Spec.path XTok PGmix nl_TypeAt_1_fn 0 [.r [.id 0], .r [.val (iA r1)]] (strings_Compare_ok a0.Name a1 r1 h2) (by kernel_rfl)

noncomputable def nl_TypeAt_c : Code := (Go.Proofs.Tryz.f22.body).getD .skip
theorem nl_TypeAt_fn : FnOk PG 22 nl_TypeAt_c 16 [.tmp 4] := ⟨⟨Go.Proofs.Tryz.f22, by kernel_rfl, by kernel_rfl, by kernel_rfl, by kernel_rfl, by kernel_rfl⟩⟩
noncomputable def nl_TypeAt (a0 : List PartType) (a1 : ByteArray) : Option Int :=
 bnd (slices_BinarySearchFunc_api_PartType_api_PartType_string a0 a1 (fun z0 z1 => nl_TypeAt_1 z0 z1)) fun r1 =>
 cnd (!r1.2) (some (-1)) (some r1.1)
theorem nl_TypeAt_ok (a0 : List PartType) (a1 : ByteArray) (r : Int) (h : nl_TypeAt a0 a1 = some r) : Spec PG 22 [lT 2 (List.map e_PartType a0), sT a1] [] (iA r) [] := by
  unfold nl_TypeAt at h
  obtain ⟨r1, h2, h⟩ := bnd_e h
  rcases cnd_e h with ⟨h3, h⟩ | ⟨h3, h⟩
  · have h := Option.some.inj h
    subst h
    exact Spec.path XTok PGmix nl_TypeAt_fn 0 [.r [], .r [.val (.tup [iT r1.1, bT r1.2])], .r [], .b true, .r []] (an (slices_BinarySearchFunc_api_PartType_api_PartType_string_ok a0 a1 50 [] (fun z0 z1 => nl_TypeAt_1 z0 z1) (fun z0 z1 r h => nl_TypeAt_1_ok z0 z1 r h) r1 h2) h3) (by kernel_rfl)
  · have h := Option.some.inj h
    subst h
    exact Spec.path XTok PGmix nl_TypeAt_fn 0 [.r [], .r [.val (.tup [iT r1.1, bT r1.2])], .r [], .b false, .r []] (an (slices_BinarySearchFunc_api_PartType_api_PartType_string_ok a0 a1 50 [] (fun z0 z1 => nl_TypeAt_1 z0 z1) (fun z0 z1 r h => nl_TypeAt_1_ok z0 z1 r h) r1 h2) h3) (by kernel_rfl)

noncomputable def nl_checkParts_c : Code := (Go.Proofs.Tryz.f61.body).getD .skip
theorem nl_checkParts_fn : FnOk PG 61 nl_checkParts_c 46 [.tmp 6] := ⟨⟨Go.Proofs.Tryz.f61, by kernel_rfl, by kernel_rfl, by kernel_rfl, by kernel_rfl, by kernel_rfl⟩⟩
noncomputable def nl_checkParts_c0 : Code := cL (cL (cR (cL (cR (cR nl_checkParts_c)))))
noncomputable def nl_checkParts_R (r : Int) : Oc := .ret [(6, iA r)] []
noncomputable def nl_checkParts_F0 (a2_k : FuncId) (a2_c : List C) (a0 : List PartType) (a1 : List Part) (i2 : Nat) : Fr := [(0, lA 2 (List.map e_PartType a0)), (1, lA 2 (List.map e_Part a1)), (2, .t (.v (.c (.fn a2_k a2_c)))), (12, lA 2 (List.map e_Part a1)), (13, iA (a1.length : Int)), (14, iA (i2 : Int))]
noncomputable def nl_checkParts_H0 (a2_k : FuncId) (a2_c : List C) (a0 : List PartType) (a1 : List Part) (i2 : Nat) : Hp := []
noncomputable def nl_checkParts_B0 (a2_k : FuncId) (a2_c : List C) (a0 : List PartType) (a1 : List Part) (s : Unit) : Oc := .ex 0 [] []
noncomputable def nl_checkParts_b0 (a2 : ByteArray → Option Bool) (a0 : List PartType) (a1 : List Part) (i2 : Nat) : Option (Stp Unit Int) :=
 bnd (atI a1 (i2 : Int)) fun x3 =>
 bnd (a2 x3.Name) fun r5 =>
 cnd (!r5) (some (.ret 5)) (bnd (nl_TypeAt a0 x3.Type_) fun r8 =>
 cnd (decide (r8 < 0)) (some (.ret 9)) (bnd1 (cnd (decide ((i2 : Int) > 0)) (bnd (atI a1 (w64 ((i2 : Int) - 1))) fun x15 =>
 some (sLe x3.Name x15.Name)) (some false)) fun v11 =>
 cnd v11 (some (.ret 8)) (some (.go ()))))
theorem nl_checkParts_b0_r (a2_k : FuncId) (a2_c : List C) (a2 : ByteArray → Option Bool) (a2_ok : ∀ (z0 : ByteArray) (r : Bool), a2 z0 = some r → Spec PG a2_k ([sT z0] ++ List.map (fun x => TV.v (CV.c x)) a2_c) [] (bA r) []) (a0 : List PartType) (a1 : List Part) (i2 : Nat) (o : Stp Unit Int) (hi : i2 < a1.length) (h : nl_checkParts_b0 a2 a0 a1 i2 = some o) :
    Runs PG 46 0 nl_checkParts_c0 (nl_checkParts_F0 a2_k a2_c a0 a1 i2 ) (nl_checkParts_H0 a2_k a2_c a0 a1 i2 ) (stpOc (fun s' => .nor (nl_checkParts_F0 a2_k a2_c a0 a1 (i2 + 1) ) (nl_checkParts_H0 a2_k a2_c a0 a1 (i2 + 1) )) (nl_checkParts_B0 a2_k a2_c a0 a1) nl_checkParts_R o) := by
  unfold nl_checkParts_b0 at h
  refine Runs.len (s := 12) (sz := 2) (xs := List.map e_Part a1) (by kernel_rfl) fun hl => ?_
  have hM : a1.length ≤ lim := len_of hl
  obtain ⟨x3, h4, h⟩ := bnd_e h
  obtain ⟨r5, h6, h⟩ := bnd_e h
  rcases cnd_e h with ⟨h7, h⟩ | ⟨h7, h⟩
  · have h := Option.some.inj h
    subst h
    exact Runs.path XTok PGmix [.r [], .b true, .r [.el (e_Part x3), .id 0], .r [.val (bA r5)], .b true, .r []] [] (an (lt_true hi) (an (idx_ok e_Part h4) (an (a2_ok x3.Name r5 h6) h7))) (by kernel_rfl)
  · obtain ⟨r8, h9, h⟩ := bnd_e h
    rcases cnd_e h with ⟨h10, h⟩ | ⟨h10, h⟩
    · have h := Option.some.inj h
      subst h
      exact Runs.path XTok PGmix [.r [], .b true, .r [.el (e_Part x3), .id 0], .r [.val (bA r5)], .b false, .r [.val (iA r8)], .b true, .r []] [] (an (lt_true hi) (an (idx_ok e_Part h4) (an (a2_ok x3.Name r5 h6) (an h7 (an (nl_TypeAt_ok a0 x3.Type_ r8 h9) h10))))) (by kernel_rfl)
    · obtain ⟨v11, h12, h⟩ := bnd1_e h
      let q17_f : Fr := [(0, lA 2 (List.map e_PartType a0)), (1, lA 2 (List.map e_Part a1)), (2, .t (.v (.c (.fn a2_k a2_c)))), (7, iA (i2 : Int)), (8, .t (.v (.ptr 0 0))), (12, lA 2 (List.map e_Part a1)), (13, iA (a1.length : Int)), (14, iA (i2 : Int))]
      let q17_g : Hp := [(0, .cells 43 [.c (sC x3.Name), .c (sC x3.Type_)])]
      let q17_f' : Fr := [(0, lA 2 (List.map e_PartType a0)), (1, lA 2 (List.map e_Part a1)), (2, .t (.v (.c (.fn a2_k a2_c)))), (12, lA 2 (List.map e_Part a1)), (13, iA (a1.length : Int)), (14, iA (i2 : Int)), (31, bA v11)]
      let q17_g' : Hp := []
      have R13 : Runs PG 46 0 (cL (cR (cR (cR (cR (cL (cR (cL (cL (cR (cR nl_checkParts_c0))))))))))) q17_f q17_g (.nor q17_f' q17_g') := by
        rcases cnd_e h12 with ⟨h14, h12⟩ | ⟨h14, h12⟩
        · obtain ⟨x15, h16, h12⟩ := bnd_e h12
          have h12 := Option.some.inj h12
          subst h12
          exact Runs.path XTok PGmix [.d [([], []), ([], []), ([], []), ([], [.b true]), ([0], [.b true]), ([], [.b true]), ([], [.b true]), ([], [.b true]), ([], [.b true, .el (e_Part x15)]), ([], [.b true]), ([], [.b true]), ([], [.b true]), ([], [.b true]), ([], [])]] [] (an h14 (an h14 (an h14 (an h14 (an h14 (an h14 (an (idx_ok e_Part h16) (an h14 (an h14 (an h14 h14)))))))))) (by kernel_rfl)
        · have h12 := Option.some.inj h12
          subst h12
          exact Runs.path XTok PGmix [.d [([], []), ([], []), ([], []), ([], [.b false]), ([], [.b false]), ([], [.b false]), ([], [.b false]), ([], [.b false]), ([], [.b false]), ([], [.b false]), ([], [.b false]), ([], [.b false]), ([], [.b false]), ([], [])]] [] (an h14 (an h14 (an h14 (an h14 (an h14 (an h14 (an h14 (an h14 (an h14 h14))))))))) (by kernel_rfl)
      rcases cnd_e h with ⟨h18, h⟩ | ⟨h18, h⟩
      · have h := Option.some.inj h
        subst h
        exact Runs.path XTok PGmix [.r [], .b true, .r [.el (e_Part x3), .id 0], .r [.val (bA r5)], .b false, .r [.val (iA r8)], .b false, .s q17_f q17_g [] (.nor q17_f' q17_g'), .b true, .r []] [] (an (lt_true hi) (an (idx_ok e_Part h4) (an (a2_ok x3.Name r5 h6) (an h7 (an (nl_TypeAt_ok a0 x3.Type_ r8 h9) (an h10 (an R13 h18))))))) (by kernel_rfl)
      · have h := Option.some.inj h
        subst h
        exact Runs.path XTok PGmix [.r [], .b true, .r [.el (e_Part x3), .id 0], .r [.val (bA r5)], .b false, .r [.val (iA r8)], .b false, .s q17_f q17_g [] (.nor q17_f' q17_g'), .b false, .r [.eq 45 (iA ((i2 + 1 : Nat) : Int))]] [] (an (lt_true hi) (an (idx_ok e_Part h4) (an (a2_ok x3.Name r5 h6) (an h7 (an (nl_TypeAt_ok a0 x3.Type_ r8 h9) (an h10 (an R13 (an h18 (wrap_eq hi hM))))))))) (by kernel_rfl)
theorem nl_checkParts_b0_e (a2_k : FuncId) (a2_c : List C) (a2 : ByteArray → Option Bool) (a2_ok : ∀ (z0 : ByteArray) (r : Bool), a2 z0 = some r → Spec PG a2_k ([sT z0] ++ List.map (fun x => TV.v (CV.c x)) a2_c) [] (bA r) []) (a0 : List PartType) (a1 : List Part) : Runs PG 46 0 nl_checkParts_c0 (nl_checkParts_F0 a2_k a2_c a0 a1 (a1.length) ) (nl_checkParts_H0 a2_k a2_c a0 a1 (a1.length) ) (nl_checkParts_B0 a2_k a2_c a0 a1 ()) := by
  exact Runs.path XTok PGmix [.r [], .b false] [] (lt_false (a1.length)) (by kernel_rfl)
theorem nl_checkParts_l0 (a2_k : FuncId) (a2_c : List C) (a2 : ByteArray → Option Bool) (a2_ok : ∀ (z0 : ByteArray) (r : Bool), a2 z0 = some r → Spec PG a2_k ([sT z0] ++ List.map (fun x => TV.v (CV.c x)) a2_c) [] (bA r) []) (a0 : List PartType) (a1 : List Part) (r : Fin' Unit Int) (h : forN (fun i2 s => nl_checkParts_b0 a2 a0 a1 i2 ) (a1.length) 0 () = some r) : Runs PG 46 0 (cL (cR (cL (cR (cR nl_checkParts_c))))) (nl_checkParts_F0 a2_k a2_c a0 a1 0 ) (nl_checkParts_H0 a2_k a2_c a0 a1 0 ) (finOc (nl_checkParts_B0 a2_k a2_c a0 a1) nl_checkParts_R r) :=
  Runs.loop' (by kernel_rfl) (forN_rounds (σ := Unit) (ρ := Int) (body := fun i2 s => nl_checkParts_b0 a2 a0 a1 i2 ) (F := fun i2 s => nl_checkParts_F0 a2_k a2_c a0 a1 i2 ) (H := fun i2 s => nl_checkParts_H0 a2_k a2_c a0 a1 i2 ) (B := nl_checkParts_B0 a2_k a2_c a0 a1) (R := nl_checkParts_R) (M := a1.length) (fun _ => rfl) (fun _ => rfl) (fun s => nl_checkParts_b0_e a2_k a2_c a2 a2_ok a0 a1 ) (fun i s o hi h => nl_checkParts_b0_r a2_k a2_c a2 a2_ok a0 a1 i o hi h) _ 0 _ r (Nat.zero_add _) h)
noncomputable def nl_checkParts (a0 : List PartType) (a1 : List Part) (a2 : ByteArray → Option Bool) : Option Int :=
 cnd (decide ((a1.length : Int) > 1000)) (some 2) (aft0 (forN (fun i2 s => nl_checkParts_b0 a2 a0 a1 i2 ) (a1.length) 0 ()) (
 some 0)
 (fun r20 =>
 some r20))
theorem nl_checkParts_ok (a0 : List PartType) (a1 : List Part) (a2_k : FuncId) (a2_c : List C) (a2 : ByteArray → Option Bool) (a2_ok : ∀ (z0 : ByteArray) (r : Bool), a2 z0 = some r → Spec PG a2_k ([sT z0] ++ List.map (fun x => TV.v (CV.c x)) a2_c) [] (bA r) []) (r : Int) (h : nl_checkParts a0 a1 a2 = some r) : Spec PG 61 [lT 2 (List.map e_PartType a0), lT 2 (List.map e_Part a1), .v (.c (.fn a2_k a2_c))] [] (iA r) [] := by
  unfold nl_checkParts at h
  rcases cnd_e h with ⟨h1, h⟩ | ⟨h1, h⟩
  · have h := Option.some.inj h
    subst h
    exact Spec.path XTok PGmix nl_checkParts_fn 0 [.r [], .r [.eq 10 (iA (a1.length : Int))], .b true, .r []] (an (leni_eq e_Part a1) h1) (by kernel_rfl)
  · rcases aft0_e h with ⟨h19, h⟩ | ⟨r20, h19, h⟩
    · have h := Option.some.inj h
      subst h
      exact Spec.path XTok PGmix nl_checkParts_fn 0 [.r [], .r [.eq 10 (iA (a1.length : Int))], .b false, .r [.eq 13 (iA (a1.length : Int))], .s (nl_checkParts_F0 a2_k a2_c a0 a1 0 ) (nl_checkParts_H0 a2_k a2_c a0 a1 0 ) [] (nl_checkParts_B0 a2_k a2_c a0 a1 ()), .r []] (an (leni_eq e_Part a1) (an h1 (an (leni_eq e_Part a1) (nl_checkParts_l0 a2_k a2_c a2 a2_ok a0 a1 (.fin ()) h19)))) (by kernel_rfl)
    · have h := Option.some.inj h
      subst h
      exact Spec.path XTok PGmix nl_checkParts_fn 0 [.r [], .r [.eq 10 (iA (a1.length : Int))], .b false, .r [.eq 13 (iA (a1.length : Int))], .s (nl_checkParts_F0 a2_k a2_c a0 a1 0 ) (nl_checkParts_H0 a2_k a2_c a0 a1 0 ) [] (nl_checkParts_R r20)] (an (leni_eq e_Part a1) (an h1 (an (leni_eq e_Part a1) (nl_checkParts_l0 a2_k a2_c a2 a2_ok a0 a1 (.ret r20) h19)))) (by kernel_rfl)

noncomputable def slices_IndexFunc_string_string_c : Code := (Go.Proofs.Tryz.f115.body).getD .skip
theorem slices_IndexFunc_string_string_fn : FnOk PG 115 slices_IndexFunc_string_string_c 19 [.tmp 4] := ⟨⟨Go.Proofs.Tryz.f115, by kernel_rfl, by kernel_rfl, by kernel_rfl, by kernel_rfl, by kernel_rfl⟩⟩
noncomputable def slices_IndexFunc_string_string_c0 : Code := cL (cL (cR (cL (cR slices_IndexFunc_string_string_c))))
noncomputable def slices_IndexFunc_string_string_R (r : Int) : Oc := .ret [(4, iA r)] []
noncomputable def slices_IndexFunc_string_string_F0 (a1_k : FuncId) (a1_c : List C) (a0 : List ByteArray) (i1 : Nat) : Fr := [(0, lA 1 (List.map e_str a0)), (1, .t (.v (.c (.fn a1_k a1_c)))), (6, lA 1 (List.map e_str a0)), (7, iA (a0.length : Int)), (8, iA (i1 : Int))]
noncomputable def slices_IndexFunc_string_string_H0 (a1_k : FuncId) (a1_c : List C) (a0 : List ByteArray) (i1 : Nat) : Hp := []
noncomputable def slices_IndexFunc_string_string_B0 (a1_k : FuncId) (a1_c : List C) (a0 : List ByteArray) (s : Unit) : Oc := .ex 0 [] []
noncomputable def slices_IndexFunc_string_string_b0 (a1 : ByteArray → Option Bool) (a0 : List ByteArray) (i1 : Nat) : Option (Stp Unit Int) :=
 bnd (atI a0 (i1 : Int)) fun x2 =>
 bnd (a1 x2) fun r4 =>
 cnd r4 (some (.ret (i1 : Int))) (some (.go ()))
theorem slices_IndexFunc_string_string_b0_r (a1_k : FuncId) (a1_c : List C) (a1 : ByteArray → Option Bool) (a1_ok : ∀ (z0 : ByteArray) (r : Bool), a1 z0 = some r → Spec PG a1_k ([sT z0] ++ List.map (fun x => TV.v (CV.c x)) a1_c) [] (bA r) []) (a0 : List ByteArray) (i1 : Nat) (o : Stp Unit Int) (hi : i1 < a0.length) (h : slices_IndexFunc_string_string_b0 a1 a0 i1 = some o) :
    Runs PG 19 0 slices_IndexFunc_string_string_c0 (slices_IndexFunc_string_string_F0 a1_k a1_c a0 i1 ) (slices_IndexFunc_string_string_H0 a1_k a1_c a0 i1 ) (stpOc (fun s' => .nor (slices_IndexFunc_string_string_F0 a1_k a1_c a0 (i1 + 1) ) (slices_IndexFunc_string_string_H0 a1_k a1_c a0 (i1 + 1) )) (slices_IndexFunc_string_string_B0 a1_k a1_c a0) slices_IndexFunc_string_string_R o) := by
  unfold slices_IndexFunc_string_string_b0 at h
  refine Runs.len (s := 6) (sz := 1) (xs := List.map e_str a0) (by kernel_rfl) fun hl => ?_
  have hM : a0.length ≤ lim := len_of hl
  obtain ⟨x2, h3, h⟩ := bnd_e h
  obtain ⟨r4, h5, h⟩ := bnd_e h
  rcases cnd_e h with ⟨h6, h⟩ | ⟨h6, h⟩
  · have h := Option.some.inj h
    subst h
    exact Runs.path XTok PGmix [.r [], .b true, .r [], .r [.el [sC x2], .val (bA r4)], .b true, .r []] [] (an (lt_true hi) (an (idx_ok e_str h3) (an (a1_ok x2 r4 h5) h6))) (by kernel_rfl)
  · have h := Option.some.inj h
    subst h
    exact Runs.path XTok PGmix [.r [], .b true, .r [], .r [.el [sC x2], .val (bA r4)], .b false, .r [.eq 18 (iA ((i1 + 1 : Nat) : Int))]] [] (an (lt_true hi) (an (idx_ok e_str h3) (an (a1_ok x2 r4 h5) (an h6 (wrap_eq hi hM))))) (by kernel_rfl)
theorem slices_IndexFunc_string_string_b0_e (a1_k : FuncId) (a1_c : List C) (a1 : ByteArray → Option Bool) (a1_ok : ∀ (z0 : ByteArray) (r : Bool), a1 z0 = some r → Spec PG a1_k ([sT z0] ++ List.map (fun x => TV.v (CV.c x)) a1_c) [] (bA r) []) (a0 : List ByteArray) : Runs PG 19 0 slices_IndexFunc_string_string_c0 (slices_IndexFunc_string_string_F0 a1_k a1_c a0 (a0.length) ) (slices_IndexFunc_string_string_H0 a1_k a1_c a0 (a0.length) ) (slices_IndexFunc_string_string_B0 a1_k a1_c a0 ()) := by
  exact Runs.path XTok PGmix [.r [], .b false] [] (lt_false (a0.length)) (by kernel_rfl)
theorem slices_IndexFunc_string_string_l0 (a1_k : FuncId) (a1_c : List C) (a1 : ByteArray → Option Bool) (a1_ok : ∀ (z0 : ByteArray) (r : Bool), a1 z0 = some r → Spec PG a1_k ([sT z0] ++ List.map (fun x => TV.v (CV.c x)) a1_c) [] (bA r) []) (a0 : List ByteArray) (r : Fin' Unit Int) (h : forN (fun i1 s => slices_IndexFunc_string_string_b0 a1 a0 i1 ) (a0.length) 0 () = some r) : Runs PG 19 0 (cL (cR (cL (cR slices_IndexFunc_string_string_c)))) (slices_IndexFunc_string_string_F0 a1_k a1_c a0 0 ) (slices_IndexFunc_string_string_H0 a1_k a1_c a0 0 ) (finOc (slices_IndexFunc_string_string_B0 a1_k a1_c a0) slices_IndexFunc_string_string_R r) :=
  Runs.loop' (by kernel_rfl) (forN_rounds (σ := Unit) (ρ := Int) (body := fun i1 s => slices_IndexFunc_string_string_b0 a1 a0 i1 ) (F := fun i1 s => slices_IndexFunc_string_string_F0 a1_k a1_c a0 i1 ) (H := fun i1 s => slices_IndexFunc_string_string_H0 a1_k a1_c a0 i1 ) (B := slices_IndexFunc_string_string_B0 a1_k a1_c a0) (R := slices_IndexFunc_string_string_R) (M := a0.length) (fun _ => rfl) (fun _ => rfl) (fun s => slices_IndexFunc_string_string_b0_e a1_k a1_c a1 a1_ok a0 ) (fun i s o hi h => slices_IndexFunc_string_string_b0_r a1_k a1_c a1 a1_ok a0 i o hi h) _ 0 _ r (Nat.zero_add _) h)
noncomputable def slices_IndexFunc_string_string (a0 : List ByteArray) (a1 : ByteArray → Option Bool) : Option Int :=
 aft0 (forN (fun i1 s => slices_IndexFunc_string_string_b0 a1 a0 i1 ) (a0.length) 0 ()) (
 some (-1))
 (fun r8 =>
 some r8)
theorem slices_IndexFunc_string_string_ok (a0 : List ByteArray) (a1_k : FuncId) (a1_c : List C) (a1 : ByteArray → Option Bool) (a1_ok : ∀ (z0 : ByteArray) (r : Bool), a1 z0 = some r → Spec PG a1_k ([sT z0] ++ List.map (fun x => TV.v (CV.c x)) a1_c) [] (bA r) []) (r : Int) (h : slices_IndexFunc_string_string a0 a1 = some r) : Spec PG 115 [lT 1 (List.map e_str a0), .v (.c (.fn a1_k a1_c))] [] (iA r) [] := by
  unfold slices_IndexFunc_string_string at h
  rcases aft0_e h with ⟨h7, h⟩ | ⟨r8, h7, h⟩
  · have h := Option.some.inj h
    subst h
    exact Spec.path XTok PGmix slices_IndexFunc_string_string_fn 0 [.r [], .r [.eq 7 (iA (a0.length : Int))], .s (slices_IndexFunc_string_string_F0 a1_k a1_c a0 0 ) (slices_IndexFunc_string_string_H0 a1_k a1_c a0 0 ) [] (slices_IndexFunc_string_string_B0 a1_k a1_c a0 ()), .r []] (an (leni_eq e_str a0) (slices_IndexFunc_string_string_l0 a1_k a1_c a1 a1_ok a0 (.fin ()) h7)) (by kernel_rfl)
  · have h := Option.some.inj h
    subst h
    exact Spec.path XTok PGmix slices_IndexFunc_string_string_fn 0 [.r [], .r [.eq 7 (iA (a0.length : Int))], .s (slices_IndexFunc_string_string_F0 a1_k a1_c a0 0 ) (slices_IndexFunc_string_string_H0 a1_k a1_c a0 0 ) [] (slices_IndexFunc_string_string_R r8)] (an (leni_eq e_str a0) (slices_IndexFunc_string_string_l0 a1_k a1_c a1 a1_ok a0 (.ret r8) h7)) (by kernel_rfl)

noncomputable def slices_ContainsFunc_string_string_c : Code := (Go.Proofs.Tryz.f84.body).getD .skip
theorem slices_ContainsFunc_string_string_fn : FnOk PG 84 slices_ContainsFunc_string_string_c 9 [.tmp 4] := ⟨⟨Go.Proofs.Tryz.f84, by kernel_rfl, by kernel_rfl, by kernel_rfl, by kernel_rfl, by kernel_rfl⟩⟩
noncomputable def slices_ContainsFunc_string_string (a0 : List ByteArray) (a1 : ByteArray → Option Bool) : Option Bool :=
 bnd (slices_IndexFunc_string_string a0 a1) fun r1 =>
 some (decide (r1 ≥ 0))
theorem slices_ContainsFunc_string_string_ok (a0 : List ByteArray) (a1_k : FuncId) (a1_c : List C) (a1 : ByteArray → Option Bool) (a1_ok : ∀ (z0 : ByteArray) (r : Bool), a1 z0 = some r → Spec PG a1_k ([sT z0] ++ List.map (fun x => TV.v (CV.c x)) a1_c) [] (bA r) []) (r : Bool) (h : slices_ContainsFunc_string_string a0 a1 = some r) : Spec PG 84 [lT 1 (List.map e_str a0), .v (.c (.fn a1_k a1_c))] [] (bA r) [] := by
  unfold slices_ContainsFunc_string_string at h
  obtain ⟨r1, h2, h⟩ := bnd_e h
  have h := Option.some.inj h
  subst h
  exact Spec.path XTok PGmix slices_ContainsFunc_string_string_fn 0 [.r [], .r [.val (iA r1)]] (slices_IndexFunc_string_string_ok a0 a1_k a1_c a1 a1_ok r1 h2) (by kernel_rfl)

noncomputable def strings_genSplit_c : Code := (Go.Proofs.Tryz.f116.body).getD .skip
theorem strings_genSplit_fn : FnOk PG 116 strings_genSplit_c 66 [.tmp 8] := ⟨⟨Go.Proofs.Tryz.f116, by kernel_rfl, by kernel_rfl, by kernel_rfl, by kernel_rfl, by kernel_rfl⟩⟩
noncomputable def strings_genSplit_c0 : Code := cL (cL (cL (cR (cR (cR (cR (cR (cR (cR (cR strings_genSplit_c))))))))))
noncomputable def strings_genSplit_R (r : List ByteArray) : Oc := .ret [(8, lA 1 (List.map e_str r))] []
noncomputable def strings_genSplit_F0 (a0 : ByteArray) (a1 : ByteArray) (a2 : Int) (v5 : Int) (y13 : ByteArray) (y14 : Int) (y15 : List ByteArray) : Fr := [(0, sA y13), (1, sA a1), (2, iA a2), (3, iA (w64 ((mn v5 (w64 ((a0.size : Int) + 1))) - 1))), (9, .t (.v (.rt 0))), (10, iA y14)]
noncomputable def strings_genSplit_H0 (a0 : ByteArray) (a1 : ByteArray) (a2 : Int) (v5 : Int) (y13 : ByteArray) (y14 : Int) (y15 : List ByteArray) : Hp := [(0, .row 9 1 (List.map e_str y15))]
noncomputable def strings_genSplit_B0 (a0 : ByteArray) (a1 : ByteArray) (a2 : Int) (v5 : Int) (s : ByteArray × Int × List ByteArray) : Oc := .ex 0 [(0, sA s.1), (9, .t (.v (.rt 0))), (10, iA s.2.1)] [(0, .row 9 1 (List.map e_str s.2.2))]
noncomputable def strings_genSplit_b0 (a0 : ByteArray) (a1 : ByteArray) (a2 : Int) (v5 : Int) (y13 : ByteArray) (y14 : Int) (y15 : List ByteArray) : Option (Stp (ByteArray × Int × List ByteArray) (List ByteArray)) :=
 cnd (decide (y14 < (w64 ((mn v5 (w64 ((a0.size : Int) + 1))) - 1)))) (bnd (h_Index y13 a1) fun r17 =>
 cnd (decide (r17 < 0)) (some (.brk (y13, y14, y15))) (grd ((0 : Int) ≤ 0 ∧ 0 ≤ w64 (r17 + a2) ∧ w64 (r17 + a2) ≤ (y13.size : Int)) <|
 bnd (atI y15 y14) fun x21 =>
 grd ((0 : Int) ≤ w64 (r17 + (a1.size : Int)) ∧ w64 (r17 + (a1.size : Int)) ≤ (y13.size : Int)) <|
 some (.go (y13.extract (Int.toNat (w64 (r17 + (a1.size : Int)))) y13.size, w64 (y14 + 1), y15.set (Int.toNat y14) (y13.extract (Int.toNat 0) (Int.toNat (w64 (r17 + a2)))))))) (some (.brk (y13, y14, y15)))
theorem strings_genSplit_b0_r (a0 : ByteArray) (a1 : ByteArray) (a2 : Int) (v5 : Int) (y13 : ByteArray) (y14 : Int) (y15 : List ByteArray) (o : Stp (ByteArray × Int × List ByteArray) (List ByteArray)) (h : strings_genSplit_b0 a0 a1 a2 v5 y13 y14 y15 = some o) :
    Runs PG 66 0 strings_genSplit_c0 (strings_genSplit_F0 a0 a1 a2 v5 y13 y14 y15) (strings_genSplit_H0 a0 a1 a2 v5 y13 y14 y15) (stpOc (fun s' => .nor (strings_genSplit_F0 a0 a1 a2 v5 s'.1 s'.2.1 s'.2.2) (strings_genSplit_H0 a0 a1 a2 v5 s'.1 s'.2.1 s'.2.2)) (strings_genSplit_B0 a0 a1 a2 v5) strings_genSplit_R o) := by
  unfold strings_genSplit_b0 at h
  rcases cnd_e h with ⟨h16, h⟩ | ⟨h16, h⟩
  · obtain ⟨r17, h18, h⟩ := bnd_e h
    rcases cnd_e h with ⟨h19, h⟩ | ⟨h19, h⟩
    · have h := Option.some.inj h
      subst h
      exact Runs.path XTok PGmix [.r [], .b true, .r [.val (iA r17)], .r [], .b true] [] (an h16 (an (h_Index_ok y13 a1 r17 h18) h19)) (by kernel_rfl)
    · obtain ⟨h20, h⟩ := grd_e h
      obtain ⟨x21, h22, h⟩ := bnd_e h
      obtain ⟨h23, h⟩ := grd_e h
      have h := Option.some.inj h
      subst h
      exact Runs.path XTok PGmix [.r [], .b true, .r [.val (iA r17)], .r [], .b false, .r [.el (e_str x21), .row (List.map e_str (y15.set (Int.toNat y14) (y13.extract (Int.toNat 0) (Int.toNat (w64 (r17 + a2))))))], .r [], .r []] [] (an h16 (an (h_Index_ok y13 a1 r17 h18) (an h19 (an h20 (an (idx_lt e_str h22) (an (set_ok e_str h22 (y13.extract (Int.toNat 0) (Int.toNat (w64 (r17 + a2)))) 0 [sC (y13.extract (Int.toNat 0) (Int.toNat (w64 (r17 + a2))))] (by kernel_rfl)) h23)))))) (by kernel_rfl)
  · have h := Option.some.inj h
    subst h
    exact Runs.path XTok PGmix [.r [], .b false] [] h16 (by kernel_rfl)
theorem strings_genSplit_l0 (a0 : ByteArray) (a1 : ByteArray) (a2 : Int) (v5 : Int) (y13 : ByteArray) (y14 : Int) (y15 : List ByteArray) (r : Fin' (ByteArray × Int × List ByteArray) (List ByteArray)) (h : loop (fun s => strings_genSplit_b0 a0 a1 a2 v5 s.1 s.2.1 s.2.2) (y13, y14, y15) = some r) : Runs PG 66 0 (cL (cL (cR (cR (cR (cR (cR (cR (cR (cR strings_genSplit_c)))))))))) (strings_genSplit_F0 a0 a1 a2 v5 y13 y14 y15) (strings_genSplit_H0 a0 a1 a2 v5 y13 y14 y15) (finOc (strings_genSplit_B0 a0 a1 a2 v5) strings_genSplit_R r) :=
  Runs.loop' (by kernel_rfl) (loop_rounds (σ := (ByteArray × Int × List ByteArray)) (ρ := (List ByteArray)) (body := fun s => strings_genSplit_b0 a0 a1 a2 v5 s.1 s.2.1 s.2.2) (F := fun s => strings_genSplit_F0 a0 a1 a2 v5 s.1 s.2.1 s.2.2) (H := fun s => strings_genSplit_H0 a0 a1 a2 v5 s.1 s.2.1 s.2.2) (B := strings_genSplit_B0 a0 a1 a2 v5) (R := strings_genSplit_R) (fun _ => rfl) (fun _ => rfl) (fun s o h => strings_genSplit_b0_r a0 a1 a2 v5 s.1 s.2.1 s.2.2 o h) h)
noncomputable def strings_genSplit (a0 : ByteArray) (a1 : ByteArray) (a2 : Int) (a3 : Int) : Option (List ByteArray) :=
 cnd (a3 == 0) (some []) (cnd (sEq a1 (⟨#[]⟩ : ByteArray)) (bnd (h_explode a0 a3) fun r3 =>
 some r3) (bnd1 (cnd (decide (a3 < 0)) (bnd (h_Count a0 a1) fun r9 =>
 some (w64 (r9 + 1))) (some a3)) fun v5 =>
 grd ((0 : Int) ≤ mn v5 (w64 ((a0.size : Int) + 1)) ∧ mn v5 (w64 ((a0.size : Int) + 1)) ≤ (lim : Int)) <|
 aft3 (loop (fun s => strings_genSplit_b0 a0 a1 a2 v5 s.1 s.2.1 s.2.2) (a0, 0, List.replicate (Int.toNat (mn v5 (w64 ((a0.size : Int) + 1)))) ((⟨#[]⟩ : ByteArray) : ByteArray))) (fun u24 u25 u26 =>
 bnd (atI u26 u25) fun x29 =>
 grd ((0 : Int) ≤ (0 : Int) ∧ (0 : Int) ≤ w64 (u25 + 1) ∧ w64 (u25 + 1) ≤ ((u26.set (Int.toNat u25) u24).length : Int)) <|
 some (((u26.set (Int.toNat u25) u24).take (Int.toNat (0 : Int) + ((w64 (u25 + 1)) - (0 : Int)).toNat)).drop (Int.toNat (0 : Int))))
 (fun r28 =>
 some r28)))
theorem strings_genSplit_ok (a0 : ByteArray) (a1 : ByteArray) (a2 : Int) (a3 : Int) (r : List ByteArray) (h : strings_genSplit a0 a1 a2 a3 = some r) : Spec PG 116 [sT a0, sT a1, iT a2, iT a3] [] (lA 1 (List.map e_str r)) [] := by
  unfold strings_genSplit at h
  rcases cnd_e h with ⟨h1, h⟩ | ⟨h1, h⟩
  · have h := Option.some.inj h
    subst h
    exact Spec.path XTok PGmix strings_genSplit_fn 0 [.r [.nl 1], .r [], .b true, .r [.nl 1]] h1 (by kernel_rfl)
  · rcases cnd_e h with ⟨h2, h⟩ | ⟨h2, h⟩
    · obtain ⟨r3, h4, h⟩ := bnd_e h
      have h := Option.some.inj h
      subst h
      exact Spec.path XTok PGmix strings_genSplit_fn 0 [.r [.nl 1], .r [], .b false, .r [], .b true, .r [.val (lA 1 (List.map e_str r3))]] (an h1 (an h2 (h_explode_ok a0 a3 r3 h4))) (by kernel_rfl)
    · obtain ⟨v5, h6, h⟩ := bnd1_e h
      let q11_f : Fr := [(0, sA a0), (1, sA a1), (2, iA a2), (3, iA a3), (20, bA (decide (a3 < 0)))]
      let q11_g : Hp := []
      let q11_f' : Fr := [(0, sA a0), (1, sA a1), (2, iA a2), (3, iA v5)]
      let q11_g' : Hp := []
      have R7 : Runs PG 66 0 (cR (cL (cR (cR (cR strings_genSplit_c))))) q11_f q11_g (.nor q11_f' q11_g') := by
        rcases cnd_e h6 with ⟨h8, h6⟩ | ⟨h8, h6⟩
        · obtain ⟨r9, h10, h6⟩ := bnd_e h6
          have h6 := Option.some.inj h6
          subst h6
          exact Runs.path XTok PGmix [.b true, .r [.val (iA r9)]] [] (an h8 (h_Count_ok a0 a1 r9 h10)) (by kernel_rfl)
        · have h6 := Option.some.inj h6
          subst h6
          exact Runs.path XTok PGmix [.b false] [] h8 (by kernel_rfl)
      obtain ⟨h12, h⟩ := grd_e h
      rcases aft3_e h with ⟨u24, u25, u26, h27, h⟩ | ⟨r28, h27, h⟩
      · obtain ⟨x29, h30, h⟩ := bnd_e h
        obtain ⟨h31, h⟩ := grd_e h
        have h := Option.some.inj h
        subst h
        exact Spec.path XTok PGmix strings_genSplit_fn 0 [.r [.nl 1], .r [], .b false, .r [], .b false, .r [], .s q11_f q11_g [] (.nor q11_f' q11_g'), .r [], .r [.id 0, .el (e_str (⟨#[]⟩ : ByteArray)), .row (List.map e_str (List.replicate (Int.toNat (mn v5 (w64 ((a0.size : Int) + 1)))) ((⟨#[]⟩ : ByteArray) : ByteArray)))], .r [], .r [], .s (strings_genSplit_F0 a0 a1 a2 v5 a0 0 (List.replicate (Int.toNat (mn v5 (w64 ((a0.size : Int) + 1)))) ((⟨#[]⟩ : ByteArray) : ByteArray))) (strings_genSplit_H0 a0 a1 a2 v5 a0 0 (List.replicate (Int.toNat (mn v5 (w64 ((a0.size : Int) + 1)))) ((⟨#[]⟩ : ByteArray) : ByteArray))) [] (strings_genSplit_B0 a0 a1 a2 v5 (u24, u25, u26)), .r [.el (e_str x29), .row (List.map e_str (u26.set (Int.toNat u25) u24))], .r [], .f 0, .q 8 (lA 1 (List.map e_str (((u26.set (Int.toNat u25) u24).take (Int.toNat (0 : Int) + ((w64 (u25 + 1)) - (0 : Int)).toNat)).drop (Int.toNat (0 : Int)))))] (an h1 (an h2 (an R7 (an (mk_ok e_str (⟨#[]⟩ : ByteArray) h12) (an (strings_genSplit_l0 a0 a1 a2 v5 a0 0 (List.replicate (Int.toNat (mn v5 (w64 ((a0.size : Int) + 1)))) ((⟨#[]⟩ : ByteArray) : ByteArray)) (.fin (u24, u25, u26)) h27) (an (idx_lt e_str h30) (an (set_ok e_str h30 u24 0 [sC u24] (by kernel_rfl)) (an (cut_lh e_str h31) (cut_eq 1 e_str (u26.set (Int.toNat u25) u24) (Int.toNat (0 : Int) + ((w64 (u25 + 1)) - (0 : Int)).toNat) (Int.toNat (0 : Int))))))))))) (by kernel_rfl)
      · have h := Option.some.inj h
        subst h
        exact Spec.path XTok PGmix strings_genSplit_fn 0 [.r [.nl 1], .r [], .b false, .r [], .b false, .r [], .s q11_f q11_g [] (.nor q11_f' q11_g'), .r [], .r [.id 0, .el (e_str (⟨#[]⟩ : ByteArray)), .row (List.map e_str (List.replicate (Int.toNat (mn v5 (w64 ((a0.size : Int) + 1)))) ((⟨#[]⟩ : ByteArray) : ByteArray)))], .r [], .r [], .s (strings_genSplit_F0 a0 a1 a2 v5 a0 0 (List.replicate (Int.toNat (mn v5 (w64 ((a0.size : Int) + 1)))) ((⟨#[]⟩ : ByteArray) : ByteArray))) (strings_genSplit_H0 a0 a1 a2 v5 a0 0 (List.replicate (Int.toNat (mn v5 (w64 ((a0.size : Int) + 1)))) ((⟨#[]⟩ : ByteArray) : ByteArray))) [] (strings_genSplit_R r28)] (an h1 (an h2 (an R7 (an (mk_ok e_str (⟨#[]⟩ : ByteArray) h12) (strings_genSplit_l0 a0 a1 a2 v5 a0 0 (List.replicate (Int.toNat (mn v5 (w64 ((a0.size : Int) + 1)))) ((⟨#[]⟩ : ByteArray) : ByteArray)) (.ret r28) h27))))) (by kernel_rfl)

noncomputable def strings_Split_c : Code := (Go.Proofs.Tryz.f85.body).getD .skip
theorem strings_Split_fn : FnOk PG 85 strings_Split_c 8 [.tmp 4] := ⟨⟨Go.Proofs.Tryz.f85, by kernel_rfl, by kernel_rfl, by kernel_rfl, by kernel_rfl, by kernel_rfl⟩⟩
noncomputable def strings_Split (a0 : ByteArray) (a1 : ByteArray) : Option (List ByteArray) :=
 bnd (strings_genSplit a0 a1 0 (-1)) fun r1 =>
 some r1
theorem strings_Split_ok (a0 : ByteArray) (a1 : ByteArray) (r : List ByteArray) (h : strings_Split a0 a1 = some r) : Spec PG 85 [sT a0, sT a1] [] (lA 1 (List.map e_str r)) [] := by
  unfold strings_Split at h
  obtain ⟨r1, h2, h⟩ := bnd_e h
  have h := Option.some.inj h
  subst h
  exact Spec.path XTok PGmix strings_Split_fn 0 [.r [.nl 1], .r [.val (lA 1 (List.map e_str r1))]] (strings_genSplit_ok a0 a1 0 (-1) r1 h2) (by kernel_rfl)

noncomputable def nl_IsPath_1_c : Code := (Go.Proofs.Tryz.f86.body).getD .skip
theorem nl_IsPath_1_fn : FnOk PG 86 nl_IsPath_1_c 6 [.tmp 2] := ⟨⟨Go.Proofs.Tryz.f86, by kernel_rfl, by kernel_rfl, by kernel_rfl, by kernel_rfl, by kernel_rfl⟩⟩
noncomputable def nl_IsPath_1 (a0 : ByteArray) : Option Bool :=
 bnd (nl_IsWord a0) fun r1 =>
 some (!r1)
theorem nl_IsPath_1_ok (a0 : ByteArray) (r : Bool) (h : nl_IsPath_1 a0 = some r) : Spec PG 86 [sT a0] [] (bA r) [] := by
  unfold nl_IsPath_1 at h
  obtain ⟨r1, h2, h⟩ := bnd_e h
  have h := Option.some.inj h
  subst h
  exact Spec.path XTok PGmix nl_IsPath_1_fn 0 [.r [], .r [.val (bA r1)]] (nl_IsWord_ok a0 r1 h2) (by kernel_rfl)

noncomputable def nl_IsPath_c : Code := (Go.Proofs.Tryz.f62.body).getD .skip
theorem nl_IsPath_fn : FnOk PG 62 nl_IsPath_c 12 [.tmp 2] := ⟨⟨Go.Proofs.Tryz.f62, by kernel_rfl, by kernel_rfl, by kernel_rfl, by kernel_rfl, by kernel_rfl⟩⟩
noncomputable def nl_IsPath (a0 : ByteArray) : Option Bool :=
 bnd1 (cnd (decide ((a0.size : Int) ≤ 200)) (bnd (strings_Split a0 (⟨#[47]⟩ : ByteArray)) fun r5 =>
 bnd (slices_ContainsFunc_string_string r5 (fun z0 => nl_IsPath_1 z0)) fun r7 =>
 some (!r7)) (some false)) fun v1 =>
 some v1
theorem nl_IsPath_ok (a0 : ByteArray) (r : Bool) (h : nl_IsPath a0 = some r) : Spec PG 62 [sT a0] [] (bA r) [] := by
  unfold nl_IsPath at h
  obtain ⟨v1, h2, h⟩ := bnd1_e h
  let q9_f : Fr := [(0, sA a0)]
  let q9_g : Hp := []
  let q9_f' : Fr := [(2, bA v1)]
  let q9_g' : Hp := []
  have R3 : Runs PG 12 0 (cL (cR nl_IsPath_c)) q9_f q9_g (.nor q9_f' q9_g') := by
    rcases cnd_e h2 with ⟨h4, h2⟩ | ⟨h4, h2⟩
    · obtain ⟨r5, h6, h2⟩ := bnd_e h2
      obtain ⟨r7, h8, h2⟩ := bnd_e h2
      have h2 := Option.some.inj h2
      subst h2
      exact Runs.path XTok PGmix [.r [.b true, .b true, .val (lA 1 (List.map e_str r5)), .b true, .val (bA r7), .b true, .b true]] [] (an h4 (an h4 (an (strings_Split_ok a0 (⟨#[47]⟩ : ByteArray) r5 h6) (an h4 (an (slices_ContainsFunc_string_string_ok r5 86 [] (fun z0 => nl_IsPath_1 z0) (fun z0 r h => nl_IsPath_1_ok z0 r h) r7 h8) (an h4 h4)))))) (by kernel_rfl)
    · have h2 := Option.some.inj h2
      subst h2
      exact Runs.path XTok PGmix [.r [.b false, .b false, .b false, .b false, .b false]] [] (an h4 (an h4 (an h4 (an h4 h4)))) (by kernel_rfl)
  have h := Option.some.inj h
  subst h
  exact Spec.path XTok PGmix nl_IsPath_fn 0 [.r [], .s q9_f q9_g [] (.nor q9_f' q9_g')] R3 (by kernel_rfl)

noncomputable def nl_ComparePins_c : Code := (Go.Proofs.Tryz.f34.body).getD .skip
theorem nl_ComparePins_fn : FnOk PG 34 nl_ComparePins_c 19 [.tmp 4] := ⟨⟨Go.Proofs.Tryz.f34, by kernel_rfl, by kernel_rfl, by kernel_rfl, by kernel_rfl, by kernel_rfl⟩⟩
noncomputable def nl_ComparePins (a0 : Pin) (a1 : Pin) : Option Int :=
 bnd (strings_Compare a0.Part a1.Part) fun r1 =>
 cnd (r1 != 0) (some r1) (bnd (strings_Compare a0.Pin a1.Pin) fun r4 =>
 some r4)
theorem nl_ComparePins_ok (a0 : Pin) (a1 : Pin) (r : Int) (h : nl_ComparePins a0 a1 = some r) : Spec PG 34 [gT (e_Pin a0), gT (e_Pin a1)] [] (iA r) [] := by
  unfold nl_ComparePins at h
  obtain ⟨r1, h2, h⟩ := bnd_e h
  rcases cnd_e h with ⟨h3, h⟩ | ⟨h3, h⟩
  · have h := Option.some.inj h
    subst h
    exact Spec.path XTok PGmix nl_ComparePins_fn 0 [.r [.id 0, .id 1], .r [.val (iA r1)], .r [], .b true, .r []] (an (strings_Compare_ok a0.Part a1.Part r1 h2) h3) (by kernel_rfl)
  · obtain ⟨r4, h5, h⟩ := bnd_e h
    have h := Option.some.inj h
    subst h
    exact Spec.path XTok PGmix nl_ComparePins_fn 0 [.r [.id 0, .id 1], .r [.val (iA r1)], .r [], .b false, .r [.val (iA r4)]] (an (strings_Compare_ok a0.Part a1.Part r1 h2) (an h3 (strings_Compare_ok a0.Pin a1.Pin r4 h5))) (by kernel_rfl)

noncomputable def nl_checkNetPins_c : Code := (Go.Proofs.Tryz.f63.body).getD .skip
theorem nl_checkNetPins_fn : FnOk PG 63 nl_checkNetPins_c 53 [.tmp 6] := ⟨⟨Go.Proofs.Tryz.f63, by kernel_rfl, by kernel_rfl, by kernel_rfl, by kernel_rfl, by kernel_rfl⟩⟩
noncomputable def nl_checkNetPins_c0 : Code := cL (cL (cR (cL (cR (cR nl_checkNetPins_c)))))
noncomputable def nl_checkNetPins_R (r : Int × (List (Pin × Bool))) : Oc := .ret [(6, iA r.1)] [(0, .map (keys PG 55) (encM kv_Pin dv_bool r.2))]
noncomputable def nl_checkNetPins_F0 (a1_k : FuncId) (a1_c : List C) (a0 : List Pin) (a2 : List (Pin × Bool)) (i2 : Nat) : Fr := [(0, lA 2 (List.map e_Pin a0)), (1, .t (.v (.c (.fn a1_k a1_c)))), (2, .t (.v (.rt 0))), (14, lA 2 (List.map e_Pin a0)), (15, iA (a0.length : Int)), (16, iA (i2 : Int))]
noncomputable def nl_checkNetPins_H0 (a1_k : FuncId) (a1_c : List C) (a0 : List Pin) (a2 : List (Pin × Bool)) (i2 : Nat) : Hp := [(0, .map (keys PG 55) (encM kv_Pin dv_bool a2))]
noncomputable def nl_checkNetPins_B0 (a1_k : FuncId) (a1_c : List C) (a0 : List Pin) (a2 : List (Pin × Bool)) (s : Unit) : Oc := .ex 0 [(0, lA 2 (List.map e_Pin a0)), (2, .t (.v (.rt 0)))] [(0, .map (keys PG 55) (encM kv_Pin dv_bool a2))]
noncomputable def nl_checkNetPins_b0 (a1 : Pin → Option Bool) (a0 : List Pin) (a2 : List (Pin × Bool)) (i2 : Nat) : Option (Stp Unit (Int × (List (Pin × Bool)))) :=
 bnd (atI a0 (i2 : Int)) fun x3 =>
 bnd (a1 x3) fun r5 =>
 cnd (!r5) (some (.ret (9, a2))) (bnd1 (cnd (decide ((i2 : Int) > 0)) (bnd (atI a0 (w64 ((i2 : Int) - 1))) fun x12 =>
 bnd (nl_ComparePins x3 x12) fun r14 =>
 some (decide (r14 ≤ 0))) (some false)) fun v8 =>
 cnd v8 (some (.ret (8, a2))) (bnd1 (opt (tlook a2 x3) (fun v21 =>
 some v21) (some false)) fun v18 =>
 cnd v18 (some (.ret (7, a2))) (some (.go ()))))
theorem nl_checkNetPins_b0_r (a1_k : FuncId) (a1_c : List C) (a1 : Pin → Option Bool) (a1_ok : ∀ (z0 : Pin) (r : Bool), a1 z0 = some r → Spec PG a1_k ([gT (e_Pin z0)] ++ List.map (fun x => TV.v (CV.c x)) a1_c) [] (bA r) []) (a0 : List Pin) (a2 : List (Pin × Bool)) (i2 : Nat) (o : Stp Unit (Int × (List (Pin × Bool)))) (hi : i2 < a0.length) (h : nl_checkNetPins_b0 a1 a0 a2 i2 = some o) :
    Runs PG 53 1 nl_checkNetPins_c0 (nl_checkNetPins_F0 a1_k a1_c a0 a2 i2 ) (nl_checkNetPins_H0 a1_k a1_c a0 a2 i2 ) (stpOc (fun s' => .nor (nl_checkNetPins_F0 a1_k a1_c a0 a2 (i2 + 1) ) (nl_checkNetPins_H0 a1_k a1_c a0 a2 (i2 + 1) )) (nl_checkNetPins_B0 a1_k a1_c a0 a2) nl_checkNetPins_R o) := by
  unfold nl_checkNetPins_b0 at h
  refine Runs.len (s := 14) (sz := 2) (xs := List.map e_Pin a0) (by kernel_rfl) fun hl => ?_
  have hM : a0.length ≤ lim := len_of hl
  obtain ⟨x3, h4, h⟩ := bnd_e h
  obtain ⟨r5, h6, h⟩ := bnd_e h
  rcases cnd_e h with ⟨h7, h⟩ | ⟨h7, h⟩
  · have h := Option.some.inj h
    subst h
    exact Runs.path XTok PGmix [.r [], .b true, .r [.el (e_Pin x3), .id 1], .r [.val (bA r5)], .b true, .r []] [] (an (lt_true hi) (an (idx_ok e_Pin h4) (an (a1_ok x3 r5 h6) h7))) (by kernel_rfl)
  · obtain ⟨v8, h9, h⟩ := bnd1_e h
    let q16_f : Fr := [(0, lA 2 (List.map e_Pin a0)), (1, .t (.v (.c (.fn a1_k a1_c)))), (2, .t (.v (.rt 0))), (7, iA (i2 : Int)), (8, .t (.v (.ptr 1 0))), (14, lA 2 (List.map e_Pin a0)), (15, iA (a0.length : Int)), (16, iA (i2 : Int))]
    let q16_g : Hp := [(0, .map (keys PG 55) (encM kv_Pin dv_bool a2)), (1, .cells 55 [.c (sC x3.Part), .c (sC x3.Pin)])]
    let q16_f' : Fr := [(0, lA 2 (List.map e_Pin a0)), (1, .t (.v (.c (.fn a1_k a1_c)))), (2, .t (.v (.rt 0))), (8, .t (.v (.ptr 1 0))), (14, lA 2 (List.map e_Pin a0)), (15, iA (a0.length : Int)), (16, iA (i2 : Int)), (26, bA v8)]
    let q16_g' : Hp := [(0, .map (keys PG 55) (encM kv_Pin dv_bool a2)), (1, .cells 55 [.c (sC x3.Part), .c (sC x3.Pin)])]
    have R10 : Runs PG 53 1 (cL (cR (cR (cL (cR (cL (cL (cR (cR nl_checkNetPins_c0))))))))) q16_f q16_g (.nor q16_f' q16_g') := by
      rcases cnd_e h9 with ⟨h11, h9⟩ | ⟨h11, h9⟩
      · obtain ⟨x12, h13, h9⟩ := bnd_e h9
        obtain ⟨r14, h15, h9⟩ := bnd_e h9
        have h9 := Option.some.inj h9
        subst h9
        exact Runs.path XTok PGmix [.d [([], []), ([], []), ([], []), ([1], [.b true]), ([], [.b true]), ([], [.b true]), ([], [.b true]), ([], [.b true, .el (e_Pin x12)]), ([], [.b true]), ([], [.b true, .val (iA r14)]), ([], [.b true]), ([], [.b true]), ([], [])]] [] (an h11 (an h11 (an h11 (an h11 (an h11 (an (idx_ok e_Pin h13) (an h11 (an h11 (an (nl_ComparePins_ok x3 x12 r14 h15) (an h11 h11)))))))))) (by kernel_rfl)
      · have h9 := Option.some.inj h9
        subst h9
        exact Runs.path XTok PGmix [.d [([], []), ([], []), ([], []), ([], [.b false]), ([], [.b false]), ([], [.b false]), ([], [.b false]), ([], [.b false]), ([], [.b false]), ([], [.b false]), ([], [.b false]), ([], [.b false]), ([], [])]] [] (an h11 (an h11 (an h11 (an h11 (an h11 (an h11 (an h11 (an h11 h11)))))))) (by kernel_rfl)
    rcases cnd_e h with ⟨h17, h⟩ | ⟨h17, h⟩
    · have h := Option.some.inj h
      subst h
      exact Runs.path XTok PGmix [.r [], .b true, .r [.el (e_Pin x3), .id 1], .r [.val (bA r5)], .b false, .s q16_f q16_g [] (.nor q16_f' q16_g'), .b true, .r []] [] (an (lt_true hi) (an (idx_ok e_Pin h4) (an (a1_ok x3 r5 h6) (an h7 (an R10 h17))))) (by kernel_rfl)
    · obtain ⟨v18, h19, h⟩ := bnd1_e h
      let q23_f : Fr := [(0, lA 2 (List.map e_Pin a0)), (1, .t (.v (.c (.fn a1_k a1_c)))), (2, .t (.v (.rt 0))), (8, .t (.v (.ptr 1 0))), (14, lA 2 (List.map e_Pin a0)), (15, iA (a0.length : Int)), (16, iA (i2 : Int))]
      let q23_g : Hp := [(0, .map (keys PG 55) (encM kv_Pin dv_bool a2)), (1, .cells 55 [.c (sC x3.Part), .c (sC x3.Pin)])]
      let q23_f' : Fr := [(0, lA 2 (List.map e_Pin a0)), (1, .t (.v (.c (.fn a1_k a1_c)))), (2, .t (.v (.rt 0))), (14, lA 2 (List.map e_Pin a0)), (15, iA (a0.length : Int)), (16, iA (i2 : Int)), (39, bA v18)]
      let q23_g' : Hp := [(0, .map (keys PG 55) (encM kv_Pin dv_bool a2))]
      have R20 : Runs PG 53 1 (cL (cR (cR (cR (cR (cL (cR (cL (cL (cR (cR nl_checkNetPins_c0))))))))))) q23_f q23_g (.nor q23_f' q23_g') := by
        rcases opt_e h19 with ⟨v21, h22, h19⟩ | ⟨h22, h19⟩
        · have h19 := Option.some.inj h19
          subst h19
          exact Runs.path XTok PGmix [.r [.look (some (dv_bool v21))]] [] (an kd_Pin (an (Eq.refl (keys PG 55)) (an (kf_Pin x3) (tl_some dv_bool ki_Pin h22)))) (by kernel_rfl)
        · have h19 := Option.some.inj h19
          subst h19
          exact Runs.path XTok PGmix [.r [.look (none)]] [] (an kd_Pin (an (Eq.refl (keys PG 55)) (an (kf_Pin x3) (tl_none dv_bool ki_Pin h22)))) (by kernel_rfl)
      rcases cnd_e h with ⟨h24, h⟩ | ⟨h24, h⟩
      · have h := Option.some.inj h
        subst h
        exact Runs.path XTok PGmix [.r [], .b true, .r [.el (e_Pin x3), .id 1], .r [.val (bA r5)], .b false, .s q16_f q16_g [] (.nor q16_f' q16_g'), .b false, .s q23_f q23_g [] (.nor q23_f' q23_g'), .b true, .r []] [] (an (lt_true hi) (an (idx_ok e_Pin h4) (an (a1_ok x3 r5 h6) (an h7 (an R10 (an h17 (an R20 h24))))))) (by kernel_rfl)
      · have h := Option.some.inj h
        subst h
        exact Runs.path XTok PGmix [.r [], .b true, .r [.el (e_Pin x3), .id 1], .r [.val (bA r5)], .b false, .s q16_f q16_g [] (.nor q16_f' q16_g'), .b false, .s q23_f q23_g [] (.nor q23_f' q23_g'), .b false, .r [.eq 43 (iA ((i2 + 1 : Nat) : Int))]] [] (an (lt_true hi) (an (idx_ok e_Pin h4) (an (a1_ok x3 r5 h6) (an h7 (an R10 (an h17 (an R20 (an h24 (wrap_eq hi hM))))))))) (by kernel_rfl)
theorem nl_checkNetPins_b0_e (a1_k : FuncId) (a1_c : List C) (a1 : Pin → Option Bool) (a1_ok : ∀ (z0 : Pin) (r : Bool), a1 z0 = some r → Spec PG a1_k ([gT (e_Pin z0)] ++ List.map (fun x => TV.v (CV.c x)) a1_c) [] (bA r) []) (a0 : List Pin) (a2 : List (Pin × Bool)) : Runs PG 53 1 nl_checkNetPins_c0 (nl_checkNetPins_F0 a1_k a1_c a0 a2 (a0.length) ) (nl_checkNetPins_H0 a1_k a1_c a0 a2 (a0.length) ) (nl_checkNetPins_B0 a1_k a1_c a0 a2 ()) := by
  exact Runs.path XTok PGmix [.r [], .b false] [] (lt_false (a0.length)) (by kernel_rfl)
theorem nl_checkNetPins_l0 (a1_k : FuncId) (a1_c : List C) (a1 : Pin → Option Bool) (a1_ok : ∀ (z0 : Pin) (r : Bool), a1 z0 = some r → Spec PG a1_k ([gT (e_Pin z0)] ++ List.map (fun x => TV.v (CV.c x)) a1_c) [] (bA r) []) (a0 : List Pin) (a2 : List (Pin × Bool)) (r : Fin' Unit (Int × (List (Pin × Bool)))) (h : forN (fun i2 s => nl_checkNetPins_b0 a1 a0 a2 i2 ) (a0.length) 0 () = some r) : Runs PG 53 1 (cL (cR (cL (cR (cR nl_checkNetPins_c))))) (nl_checkNetPins_F0 a1_k a1_c a0 a2 0 ) (nl_checkNetPins_H0 a1_k a1_c a0 a2 0 ) (finOc (nl_checkNetPins_B0 a1_k a1_c a0 a2) nl_checkNetPins_R r) :=
  Runs.loop' (by kernel_rfl) (forN_rounds (σ := Unit) (ρ := (Int × (List (Pin × Bool)))) (body := fun i2 s => nl_checkNetPins_b0 a1 a0 a2 i2 ) (F := fun i2 s => nl_checkNetPins_F0 a1_k a1_c a0 a2 i2 ) (H := fun i2 s => nl_checkNetPins_H0 a1_k a1_c a0 a2 i2 ) (B := nl_checkNetPins_B0 a1_k a1_c a0 a2) (R := nl_checkNetPins_R) (M := a0.length) (fun _ => rfl) (fun _ => rfl) (fun s => nl_checkNetPins_b0_e a1_k a1_c a1 a1_ok a0 a2 ) (fun i s o hi h => nl_checkNetPins_b0_r a1_k a1_c a1 a1_ok a0 a2 i o hi h) _ 0 _ r (Nat.zero_add _) h)
noncomputable def nl_checkNetPins_c1 : Code := cL (cL (cR (cL (cR (cR (cR nl_checkNetPins_c))))))
noncomputable def nl_checkNetPins_F1 (a0 : List Pin) (i27 : Nat) (y28 : List (Pin × Bool)) : Fr := [(2, .t (.v (.rt 0))), (44, lA 2 (List.map e_Pin a0)), (45, iA (a0.length : Int)), (46, iA (i27 : Int))]
noncomputable def nl_checkNetPins_H1 (a0 : List Pin) (i27 : Nat) (y28 : List (Pin × Bool)) : Hp := [(0, .map (keys PG 55) (encM kv_Pin dv_bool y28))]
noncomputable def nl_checkNetPins_B1 (a0 : List Pin) (s : (List (Pin × Bool))) : Oc := .ex 3 [] [(0, .map (keys PG 55) (encM kv_Pin dv_bool s))]
noncomputable def nl_checkNetPins_b1 (a0 : List Pin) (i27 : Nat) (y28 : List (Pin × Bool)) : Option (Stp (List (Pin × Bool)) (Int × (List (Pin × Bool)))) :=
 bnd (atI a0 (i27 : Int)) fun x29 =>
 some (.go (tput y28 x29 true))
theorem nl_checkNetPins_b1_r (a0 : List Pin) (i27 : Nat) (y28 : List (Pin × Bool)) (o : Stp (List (Pin × Bool)) (Int × (List (Pin × Bool)))) (hi : i27 < a0.length) (h : nl_checkNetPins_b1 a0 i27 y28 = some o) :
    Runs PG 53 1 nl_checkNetPins_c1 (nl_checkNetPins_F1 a0 i27 y28) (nl_checkNetPins_H1 a0 i27 y28) (stpOc (fun s' => .nor (nl_checkNetPins_F1 a0 (i27 + 1) s') (nl_checkNetPins_H1 a0 (i27 + 1) s')) (nl_checkNetPins_B1 a0) nl_checkNetPins_R o) := by
  unfold nl_checkNetPins_b1 at h
  refine Runs.len (s := 44) (sz := 2) (xs := List.map e_Pin a0) (by kernel_rfl) fun hl => ?_
  have hM : a0.length ≤ lim := len_of hl
  obtain ⟨x29, h30, h⟩ := bnd_e h
  have h := Option.some.inj h
  subst h
  exact Runs.path XTok PGmix [.r [], .b true, .r [.el (e_Pin x29), .id 1], .r [.es (encM kv_Pin dv_bool (tput y28 x29 true))], .r [.eq 52 (iA ((i27 + 1 : Nat) : Int))]] [] (an (lt_true hi) (an (idx_ok e_Pin h30) (an (an kd_Pin (an (Eq.refl (keys PG 55)) (an (kf_Pin x29) (put_ok dv_bool ki_Pin y28 x29 true)))) (wrap_eq hi hM)))) (by kernel_rfl)
theorem nl_checkNetPins_b1_e (a0 : List Pin) (y28 : List (Pin × Bool)) : Runs PG 53 1 nl_checkNetPins_c1 (nl_checkNetPins_F1 a0 (a0.length) y28) (nl_checkNetPins_H1 a0 (a0.length) y28) (nl_checkNetPins_B1 a0 y28) := by
  exact Runs.path XTok PGmix [.r [], .b false] [] (lt_false (a0.length)) (by kernel_rfl)
theorem nl_checkNetPins_l1 (a0 : List Pin) (y28 : List (Pin × Bool)) (r : Fin' (List (Pin × Bool)) (Int × (List (Pin × Bool)))) (h : forN (fun i27 s => nl_checkNetPins_b1 a0 i27 s) (a0.length) 0 y28 = some r) : Runs PG 53 1 (cL (cR (cL (cR (cR (cR nl_checkNetPins_c)))))) (nl_checkNetPins_F1 a0 0 y28) (nl_checkNetPins_H1 a0 0 y28) (finOc (nl_checkNetPins_B1 a0) nl_checkNetPins_R r) :=
  Runs.loop' (by kernel_rfl) (forN_rounds (σ := (List (Pin × Bool))) (ρ := (Int × (List (Pin × Bool)))) (body := fun i27 s => nl_checkNetPins_b1 a0 i27 s) (F := fun i27 s => nl_checkNetPins_F1 a0 i27 s) (H := fun i27 s => nl_checkNetPins_H1 a0 i27 s) (B := nl_checkNetPins_B1 a0) (R := nl_checkNetPins_R) (M := a0.length) (fun _ => rfl) (fun _ => rfl) (fun s => nl_checkNetPins_b1_e a0 s) (fun i s o hi h => nl_checkNetPins_b1_r a0 i s o hi h) _ 0 _ r (Nat.zero_add _) h)
noncomputable def nl_checkNetPins (a0 : List Pin) (a1 : Pin → Option Bool) (a2 : List (Pin × Bool)) : Option (Int × (List (Pin × Bool))) :=
 cnd (decide ((a0.length : Int) > 500)) (some (2, a2)) (aft0 (forN (fun i2 s => nl_checkNetPins_b0 a1 a0 a2 i2 ) (a0.length) 0 ()) (
 aft1 (forN (fun i27 s => nl_checkNetPins_b1 a0 i27 s) (a0.length) 0 a2) (fun u31 =>
 some (0, u31))
 (fun r33 =>
 some r33))
 (fun r26 =>
 some r26))
theorem nl_checkNetPins_ok (a0 : List Pin) (a1_k : FuncId) (a1_c : List C) (a1 : Pin → Option Bool) (a1_ok : ∀ (z0 : Pin) (r : Bool), a1 z0 = some r → Spec PG a1_k ([gT (e_Pin z0)] ++ List.map (fun x => TV.v (CV.c x)) a1_c) [] (bA r) []) (a2 : List (Pin × Bool)) (r : Int × (List (Pin × Bool))) (h : nl_checkNetPins a0 a1 a2 = some r) : Spec PG 63 [lT 2 (List.map e_Pin a0), .v (.c (.fn a1_k a1_c)), .v (.rt 0)] [(0, .map (keys PG 55) (encM kv_Pin dv_bool a2))] (iA r.1) [(0, .map (keys PG 55) (encM kv_Pin dv_bool r.2))] := by
  unfold nl_checkNetPins at h
  rcases cnd_e h with ⟨h1, h⟩ | ⟨h1, h⟩
  · have h := Option.some.inj h
    subst h
    exact Spec.path XTok PGmix nl_checkNetPins_fn 1 [.r [], .r [.eq 12 (iA (a0.length : Int))], .b true, .r []] (an (leni_eq e_Pin a0) h1) (by kernel_rfl)
  · rcases aft0_e h with ⟨h25, h⟩ | ⟨r26, h25, h⟩
    · rcases aft1_e h with ⟨u31, h32, h⟩ | ⟨r33, h32, h⟩
      · have h := Option.some.inj h
        subst h
        exact Spec.path XTok PGmix nl_checkNetPins_fn 1 [.r [], .r [.eq 12 (iA (a0.length : Int))], .b false, .r [.eq 15 (iA (a0.length : Int))], .s (nl_checkNetPins_F0 a1_k a1_c a0 a2 0 ) (nl_checkNetPins_H0 a1_k a1_c a0 a2 0 ) [] (nl_checkNetPins_B0 a1_k a1_c a0 a2 ()), .r [.eq 45 (iA (a0.length : Int))], .s (nl_checkNetPins_F1 a0 0 a2) (nl_checkNetPins_H1 a0 0 a2) [] (nl_checkNetPins_B1 a0 u31), .r []] (an (leni_eq e_Pin a0) (an h1 (an (leni_eq e_Pin a0) (an (nl_checkNetPins_l0 a1_k a1_c a1 a1_ok a0 a2 (.fin ()) h25) (an (leni_eq e_Pin a0) (nl_checkNetPins_l1 a0 a2 (.fin u31) h32)))))) (by kernel_rfl)
      · have h := Option.some.inj h
        subst h
        exact Spec.path XTok PGmix nl_checkNetPins_fn 1 [.r [], .r [.eq 12 (iA (a0.length : Int))], .b false, .r [.eq 15 (iA (a0.length : Int))], .s (nl_checkNetPins_F0 a1_k a1_c a0 a2 0 ) (nl_checkNetPins_H0 a1_k a1_c a0 a2 0 ) [] (nl_checkNetPins_B0 a1_k a1_c a0 a2 ()), .r [.eq 45 (iA (a0.length : Int))], .s (nl_checkNetPins_F1 a0 0 a2) (nl_checkNetPins_H1 a0 0 a2) [] (nl_checkNetPins_R r33)] (an (leni_eq e_Pin a0) (an h1 (an (leni_eq e_Pin a0) (an (nl_checkNetPins_l0 a1_k a1_c a1 a1_ok a0 a2 (.fin ()) h25) (an (leni_eq e_Pin a0) (nl_checkNetPins_l1 a0 a2 (.ret r33) h32)))))) (by kernel_rfl)
    · have h := Option.some.inj h
      subst h
      exact Spec.path XTok PGmix nl_checkNetPins_fn 1 [.r [], .r [.eq 12 (iA (a0.length : Int))], .b false, .r [.eq 15 (iA (a0.length : Int))], .s (nl_checkNetPins_F0 a1_k a1_c a0 a2 0 ) (nl_checkNetPins_H0 a1_k a1_c a0 a2 0 ) [] (nl_checkNetPins_R r26)] (an (leni_eq e_Pin a0) (an h1 (an (leni_eq e_Pin a0) (nl_checkNetPins_l0 a1_k a1_c a1 a1_ok a0 a2 (.ret r26) h25)))) (by kernel_rfl)

noncomputable def slices_BinarySearchFunc_api_Part_api_Part_string_c : Code := (Go.Proofs.Tryz.f44.body).getD .skip
theorem slices_BinarySearchFunc_api_Part_api_Part_string_fn : FnOk PG 44 slices_BinarySearchFunc_api_Part_api_Part_string_c 49 [.tmp 6, .tmp 7] := ⟨⟨Go.Proofs.Tryz.f44, by kernel_rfl, by kernel_rfl, by kernel_rfl, by kernel_rfl, by kernel_rfl⟩⟩
noncomputable def slices_BinarySearchFunc_api_Part_api_Part_string_c0 : Code := cL (cL (cL (cR (cR (cR slices_BinarySearchFunc_api_Part_api_Part_string_c)))))
noncomputable def slices_BinarySearchFunc_api_Part_api_Part_string_R (r : Int × Bool) : Oc := .ret [(6, iA r.1), (7, bA r.2)] []
noncomputable def slices_BinarySearchFunc_api_Part_api_Part_string_F0 (a2_k : FuncId) (a2_c : List C) (a0 : List Part) (a1 : ByteArray) (y1 : Int) (y2 : Int) : Fr := [(0, lA 2 (List.map e_Part a0)), (1, sA a1), (2, .t (.v (.c (.fn a2_k a2_c)))), (8, iA (a0.length : Int)), (9, iA y1), (10, iA y2)]
noncomputable def slices_BinarySearchFunc_api_Part_api_Part_string_H0 (a2_k : FuncId) (a2_c : List C) (a0 : List Part) (a1 : ByteArray) (y1 : Int) (y2 : Int) : Hp := []
noncomputable def slices_BinarySearchFunc_api_Part_api_Part_string_B0 (a2_k : FuncId) (a2_c : List C) (a0 : List Part) (a1 : ByteArray) (s : Int × Int) : Oc := .ex 0 [(0, lA 2 (List.map e_Part a0)), (1, sA a1), (2, .t (.v (.c (.fn a2_k a2_c)))), (8, iA (a0.length : Int)), (9, iA s.1)] []
noncomputable def slices_BinarySearchFunc_api_Part_api_Part_string_b0 (a2 : Part → ByteArray → Option Int) (a0 : List Part) (a1 : ByteArray) (y1 : Int) (y2 : Int) : Option (Stp (Int × Int) (Int × Bool)) :=
 cnd (decide (y1 < y2)) (grd ((0 : Int) ≤ 1) <|
 bnd (atI a0 (IntKind.i64.wrap ((IntKind.u64.wrap (w64 (y1 + y2))) / 2 ^ min (Int.toNat 1) 64))) fun x5 =>
 bnd (a2 x5 a1) fun r7 =>
 bnd2 (cnd (decide (r7 < 0)) (some (y2, w64 ((IntKind.i64.wrap ((IntKind.u64.wrap (w64 (y1 + y2))) / 2 ^ min (Int.toNat 1) 64)) + 1))) (some (IntKind.i64.wrap ((IntKind.u64.wrap (w64 (y1 + y2))) / 2 ^ min (Int.toNat 1) 64), y1))) fun v9 v10 =>
 some (.go (v10, v9))) (some (.brk (y1, y2)))
theorem slices_BinarySearchFunc_api_Part_api_Part_string_b0_r (a2_k : FuncId) (a2_c : List C) (a2 : Part → ByteArray → Option Int) (a2_ok : ∀ (z0 : Part) (z1 : ByteArray) (r : Int), a2 z0 z1 = some r → Spec PG a2_k ([gT (e_Part z0), sT z1] ++ List.map (fun x => TV.v (CV.c x)) a2_c) [] (iA r) []) (a0 : List Part) (a1 : ByteArray) (y1 : Int) (y2 : Int) (o : Stp (Int × Int) (Int × Bool)) (h : slices_BinarySearchFunc_api_Part_api_Part_string_b0 a2 a0 a1 y1 y2 = some o) :
    Runs PG 49 0 slices_BinarySearchFunc_api_Part_api_Part_string_c0 (slices_BinarySearchFunc_api_Part_api_Part_string_F0 a2_k a2_c a0 a1 y1 y2) (slices_BinarySearchFunc_api_Part_api_Part_string_H0 a2_k a2_c a0 a1 y1 y2) (stpOc (fun s' => .nor (slices_BinarySearchFunc_api_Part_api_Part_string_F0 a2_k a2_c a0 a1 s'.1 s'.2) (slices_BinarySearchFunc_api_Part_api_Part_string_H0 a2_k a2_c a0 a1 s'.1 s'.2)) (slices_BinarySearchFunc_api_Part_api_Part_string_B0 a2_k a2_c a0 a1) slices_BinarySearchFunc_api_Part_api_Part_string_R o) := by
  unfold slices_BinarySearchFunc_api_Part_api_Part_string_b0 at h
  rcases cnd_e h with ⟨h3, h⟩ | ⟨h3, h⟩
  · obtain ⟨h4, h⟩ := grd_e h
    obtain ⟨x5, h6, h⟩ := bnd_e h
    obtain ⟨r7, h8, h⟩ := bnd_e h
    obtain ⟨v9, v10, h11, h⟩ := bnd2_e h
    let q18_f : Fr := [(0, lA 2 (List.map e_Part a0)), (1, sA a1), (2, .t (.v (.c (.fn a2_k a2_c)))), (8, iA (a0.length : Int)), (9, iA y1), (10, iA y2), (11, iA (IntKind.i64.wrap ((IntKind.u64.wrap (w64 (y1 + y2))) / 2 ^ min (Int.toNat 1) 64))), (31, bA (decide (r7 < 0)))]
    let q18_g : Hp := []
    let q18_f' : Fr := [(0, lA 2 (List.map e_Part a0)), (1, sA a1), (2, .t (.v (.c (.fn a2_k a2_c)))), (8, iA (a0.length : Int)), (9, iA v10), (10, iA v9)]
    let q18_g' : Hp := []
    have R12 : Runs PG 49 0 (cR (cR (cL (cR slices_BinarySearchFunc_api_Part_api_Part_string_c0)))) q18_f q18_g (.nor q18_f' q18_g') := by
      rcases cnd_e h11 with ⟨h13, h11⟩ | ⟨h13, h11⟩
      · have h11 := Option.some.inj h11
        have q14 := (Prod.mk.inj h11).1
        have q15 := (Prod.mk.inj h11).2
        subst q14
        subst q15
        exact Runs.path XTok PGmix [.b true, .r []] [] h13 (by kernel_rfl)
      · have h11 := Option.some.inj h11
        have q16 := (Prod.mk.inj h11).1
        have q17 := (Prod.mk.inj h11).2
        subst q16
        subst q17
        exact Runs.path XTok PGmix [.b false, .r []] [] h13 (by kernel_rfl)
    have h := Option.some.inj h
    subst h
    exact Runs.path XTok PGmix [.r [], .b true, .r [], .r [.el (e_Part x5), .val (iA r7)], .s q18_f q18_g [] (.nor q18_f' q18_g')] [] (an h3 (an h4 (an (idx_ok e_Part h6) (an (a2_ok x5 a1 r7 h8) R12)))) (by kernel_rfl)
  · have h := Option.some.inj h
    subst h
    exact Runs.path XTok PGmix [.r [], .b false] [] h3 (by kernel_rfl)
theorem slices_BinarySearchFunc_api_Part_api_Part_string_l0 (a2_k : FuncId) (a2_c : List C) (a2 : Part → ByteArray → Option Int) (a2_ok : ∀ (z0 : Part) (z1 : ByteArray) (r : Int), a2 z0 z1 = some r → Spec PG a2_k ([gT (e_Part z0), sT z1] ++ List.map (fun x => TV.v (CV.c x)) a2_c) [] (iA r) []) (a0 : List Part) (a1 : ByteArray) (y1 : Int) (y2 : Int) (r : Fin' (Int × Int) (Int × Bool)) (h : loop (fun s => slices_BinarySearchFunc_api_Part_api_Part_string_b0 a2 a0 a1 s.1 s.2) (y1, y2) = some r) : Runs PG 49 0 (cL (cL (cR (cR (cR slices_BinarySearchFunc_api_Part_api_Part_string_c))))) (slices_BinarySearchFunc_api_Part_api_Part_string_F0 a2_k a2_c a0 a1 y1 y2) (slices_BinarySearchFunc_api_Part_api_Part_string_H0 a2_k a2_c a0 a1 y1 y2) (finOc (slices_BinarySearchFunc_api_Part_api_Part_string_B0 a2_k a2_c a0 a1) slices_BinarySearchFunc_api_Part_api_Part_string_R r) :=
  Runs.loop' (by kernel_rfl) (loop_rounds (σ := (Int × Int)) (ρ := (Int × Bool)) (body := fun s => slices_BinarySearchFunc_api_Part_api_Part_string_b0 a2 a0 a1 s.1 s.2) (F := fun s => slices_BinarySearchFunc_api_Part_api_Part_string_F0 a2_k a2_c a0 a1 s.1 s.2) (H := fun s => slices_BinarySearchFunc_api_Part_api_Part_string_H0 a2_k a2_c a0 a1 s.1 s.2) (B := slices_BinarySearchFunc_api_Part_api_Part_string_B0 a2_k a2_c a0 a1) (R := slices_BinarySearchFunc_api_Part_api_Part_string_R) (fun _ => rfl) (fun _ => rfl) (fun s o h => slices_BinarySearchFunc_api_Part_api_Part_string_b0_r a2_k a2_c a2 a2_ok a0 a1 s.1 s.2 o h) h)
noncomputable def slices_BinarySearchFunc_api_Part_api_Part_string (a0 : List Part) (a1 : ByteArray) (a2 : Part → ByteArray → Option Int) : Option (Int × Bool) :=
 aft2 (loop (fun s => slices_BinarySearchFunc_api_Part_api_Part_string_b0 a2 a0 a1 s.1 s.2) (0, (a0.length : Int))) (fun u19 u20 =>
 bnd1 (cnd (decide (u19 < (a0.length : Int))) (bnd (atI a0 u19) fun x27 =>
 bnd (a2 x27 a1) fun r29 =>
 some (r29 == 0)) (some false)) fun v23 =>
 some (u19, v23))
 (fun r22 =>
 some r22)
theorem slices_BinarySearchFunc_api_Part_api_Part_string_ok (a0 : List Part) (a1 : ByteArray) (a2_k : FuncId) (a2_c : List C) (a2 : Part → ByteArray → Option Int) (a2_ok : ∀ (z0 : Part) (z1 : ByteArray) (r : Int), a2 z0 z1 = some r → Spec PG a2_k ([gT (e_Part z0), sT z1] ++ List.map (fun x => TV.v (CV.c x)) a2_c) [] (iA r) []) (r : Int × Bool) (h : slices_BinarySearchFunc_api_Part_api_Part_string a0 a1 a2 = some r) : Spec PG 44 [lT 2 (List.map e_Part a0), sT a1, .v (.c (.fn a2_k a2_c))] [] (.tup [iT r.1, bT r.2]) [] := by
  unfold slices_BinarySearchFunc_api_Part_api_Part_string at h
  rcases aft2_e h with ⟨u19, u20, h21, h⟩ | ⟨r22, h21, h⟩
  · obtain ⟨v23, h24, h⟩ := bnd1_e h
    let q31_f : Fr := [(0, lA 2 (List.map e_Part a0)), (1, sA a1), (2, .t (.v (.c (.fn a2_k a2_c)))), (8, iA (a0.length : Int)), (9, iA u19)]
    let q31_g : Hp := []
    let q31_f' : Fr := [(6, iA u19), (7, bA v23)]
    let q31_g' : Hp := []
    have R25 : Runs PG 49 0 (cL (cR (cR (cR (cR slices_BinarySearchFunc_api_Part_api_Part_string_c))))) q31_f q31_g (.nor q31_f' q31_g') := by
      rcases cnd_e h24 with ⟨h26, h24⟩ | ⟨h26, h24⟩
      · obtain ⟨x27, h28, h24⟩ := bnd_e h24
        obtain ⟨r29, h30, h24⟩ := bnd_e h24
        have h24 := Option.some.inj h24
        subst h24
        exact Runs.path XTok PGmix [.r [.b true, .b true, .b true, .b true, .el (e_Part x27), .b true, .b true, .b true, .val (iA r29), .b true, .b true]] [] (an h26 (an h26 (an h26 (an h26 (an (idx_ok e_Part h28) (an h26 (an h26 (an h26 (an (a2_ok x27 a1 r29 h30) (an h26 h26)))))))))) (by kernel_rfl)
      · have h24 := Option.some.inj h24
        subst h24
        exact Runs.path XTok PGmix [.r [.b false, .b false, .b false, .b false, .b false, .b false, .b false, .b false, .b false]] [] (an h26 (an h26 (an h26 (an h26 (an h26 (an h26 (an h26 (an h26 h26)))))))) (by kernel_rfl)
    have h := Option.some.inj h
    subst h
    exact Spec.path XTok PGmix slices_BinarySearchFunc_api_Part_api_Part_string_fn 0 [.r [], .r [.eq 13 (iA (a0.length : Int))], .r [], .s (slices_BinarySearchFunc_api_Part_api_Part_string_F0 a2_k a2_c a0 a1 0 (a0.length : Int)) (slices_BinarySearchFunc_api_Part_api_Part_string_H0 a2_k a2_c a0 a1 0 (a0.length : Int)) [] (slices_BinarySearchFunc_api_Part_api_Part_string_B0 a2_k a2_c a0 a1 (u19, u20)), .s q31_f q31_g [] (.nor q31_f' q31_g')] (an (leni_eq e_Part a0) (an (slices_BinarySearchFunc_api_Part_api_Part_string_l0 a2_k a2_c a2 a2_ok a0 a1 0 (a0.length : Int) (.fin (u19, u20)) h21) R25)) (by kernel_rfl)
  · have h := Option.some.inj h
    subst h
    exact Spec.path XTok PGmix slices_BinarySearchFunc_api_Part_api_Part_string_fn 0 [.r [], .r [.eq 13 (iA (a0.length : Int))], .r [], .s (slices_BinarySearchFunc_api_Part_api_Part_string_F0 a2_k a2_c a0 a1 0 (a0.length : Int)) (slices_BinarySearchFunc_api_Part_api_Part_string_H0 a2_k a2_c a0 a1 0 (a0.length : Int)) [] (slices_BinarySearchFunc_api_Part_api_Part_string_R r22)] (an (leni_eq e_Part a0) (slices_BinarySearchFunc_api_Part_api_Part_string_l0 a2_k a2_c a2 a2_ok a0 a1 0 (a0.length : Int) (.ret r22) h21)) (by kernel_rfl)

noncomputable def nl_partAt_1_c : Code := (Go.Proofs.Tryz.f45.body).getD .skip
theorem nl_partAt_1_fn : FnOk PG 45 nl_partAt_1_c 9 [.tmp 4] := ⟨⟨Go.Proofs.Tryz.f45, by kernel_rfl, by kernel_rfl, by kernel_rfl, by kernel_rfl, by kernel_rfl⟩⟩
noncomputable def nl_partAt_1 (a0 : Part) (a1 : ByteArray) : Option Int :=
 bnd (strings_Compare a0.Name a1) fun r1 =>
 some r1
theorem nl_partAt_1_ok (a0 : Part) (a1 : ByteArray) (r : Int) (h : nl_partAt_1 a0 a1 = some r) : Spec PG 45 [gT (e_Part a0), sT a1] [] (iA r) [] := by
  unfold nl_partAt_1 at h
  obtain ⟨r1, h2, h⟩ := bnd_e h
  have h := Option.some.inj h
  subst h
  exact Spec.path XTok PGmix nl_partAt_1_fn 0 [.r [.id 0], .r [.val (iA r1)]] (strings_Compare_ok a0.Name a1 r1 h2) (by kernel_rfl)

noncomputable def nl_partAt_c : Code := (Go.Proofs.Tryz.f14.body).getD .skip
theorem nl_partAt_fn : FnOk PG 14 nl_partAt_c 16 [.tmp 4] := ⟨⟨Go.Proofs.Tryz.f14, by kernel_rfl, by kernel_rfl, by kernel_rfl, by kernel_rfl, by kernel_rfl⟩⟩
noncomputable def nl_partAt (a0 : List Part) (a1 : ByteArray) : Option Int :=
 bnd (slices_BinarySearchFunc_api_Part_api_Part_string a0 a1 (fun z0 z1 => nl_partAt_1 z0 z1)) fun r1 =>
 cnd (!r1.2) (some (-1)) (some r1.1)
theorem nl_partAt_ok (a0 : List Part) (a1 : ByteArray) (r : Int) (h : nl_partAt a0 a1 = some r) : Spec PG 14 [lT 2 (List.map e_Part a0), sT a1] [] (iA r) [] := by
  unfold nl_partAt at h
  obtain ⟨r1, h2, h⟩ := bnd_e h
  rcases cnd_e h with ⟨h3, h⟩ | ⟨h3, h⟩
  · have h := Option.some.inj h
    subst h
    exact Spec.path XTok PGmix nl_partAt_fn 0 [.r [], .r [.val (.tup [iT r1.1, bT r1.2])], .r [], .b true, .r []] (an (slices_BinarySearchFunc_api_Part_api_Part_string_ok a0 a1 45 [] (fun z0 z1 => nl_partAt_1 z0 z1) (fun z0 z1 r h => nl_partAt_1_ok z0 z1 r h) r1 h2) h3) (by kernel_rfl)
  · have h := Option.some.inj h
    subst h
    exact Spec.path XTok PGmix nl_partAt_fn 0 [.r [], .r [.val (.tup [iT r1.1, bT r1.2])], .r [], .b false, .r []] (an (slices_BinarySearchFunc_api_Part_api_Part_string_ok a0 a1 45 [] (fun z0 z1 => nl_partAt_1 z0 z1) (fun z0 z1 r h => nl_partAt_1_ok z0 z1 r h) r1 h2) h3) (by kernel_rfl)
end Go.Proofs.YtlbndchfmdogeaaGreatDoor.Sym
