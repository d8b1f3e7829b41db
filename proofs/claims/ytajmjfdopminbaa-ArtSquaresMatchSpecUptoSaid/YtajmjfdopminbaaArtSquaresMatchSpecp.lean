/- The law on squares of bores: its plain form is true. Conditions: none. -/
import Derived.Test.YtajmjfdopminbaaSf0
import Derived.Test.YtajmjfdopminbaaPlg
import Derived.Test.YtajmjfdopminbaaSymx
set_option linter.unusedVariables false
set_option linter.unusedSimpArgs false
namespace Go.Proofs.Ytajmjfdopminbaa.Sym
open Go Go.RowKit

/-! ### Places -/
def atB (n : Int) : Bool := decide (-1000000 ≤ n ∧ n ≤ 1000000)
theorem within_eq (a b c : Int) : (bnd1 (cnd (decide (a ≥ b)) (some (decide (a ≤ c))) (some false)) fun v1 => some v1) = some (decide (b ≤ a ∧ a ≤ c)) := by
  by_cases h : a ≥ b
  · rw [decide_eq_true h, cnd_t, bnd1_some]
    congr 1
    exact decide_eq_decide.2 ⟨fun q => ⟨h, q⟩, fun q => q.2⟩
  · rw [decide_eq_false h, cnd_f, bnd1_some, decide_eq_false (fun q => h q.1)]
theorem isAt_eq (n : Int) : shape_IsAt n = some (atB n) := by
  unfold shape_IsAt
  have e : shape_within n (-1000000) 1000000 = some (atB n) := within_eq n _ _
  rw [e, bnd_some]
theorem refAt_eq (n : Int) : ref1_At n = some (atB n) := by
  unfold ref1_At
  have e : ref1_within n (-1000000) 1000000 = some (atB n) := within_eq n _ _
  rw [e, bnd_some]
theorem isPoint_eq (p : Point) : shape_IsPoint p = some (atB p.X && atB p.Y) := by
  unfold shape_IsPoint
  simp only [isAt_eq, bnd_some]
  cases atB p.X <;> rfl
theorem refPoint_eq (p : Point) : ref1_IsPoint p = some (atB p.X && atB p.Y) := by
  unfold ref1_IsPoint
  simp only [refAt_eq, bnd_some]
  cases atB p.X <;> rfl
def rectB (r : Rect) : Bool := atB r.X0 && (atB r.Y0 && (atB r.X1 && atB r.Y1))
theorem isRect_eq (r : Rect) : shape_isRect r = some (rectB r) := by
  unfold shape_isRect rectB
  simp only [isAt_eq, bnd_some]
  cases atB r.X0 <;> cases atB r.Y0 <;> cases atB r.X1 <;> rfl

/-! ### The set of one rectangle -/
theorem stretches_one (r : Rect) : shape_stretches [r] = some ([r.X0, r.X1], [r]) := by
  unfold shape_stretches
  have e1 : h_SortFunc_Rect [r] = some [r] := by unfold h_SortFunc_Rect; rw [grd_pos (show ([r] : List Rect).length = 1 from rfl)]
  have e2 : shape_stretches_b0 [r] 0 [] = some (.go [r.X0, r.X1]) := by
    have e3 : w64 (((([] : List Int).length : Nat) : Int) - 1) = -1 := w64_id (by simp) (by simp)
    unfold shape_stretches_b0
    rw [show atI [r] ((0 : Nat) : Int) = some r from rfl, bnd_some, e3, show decide ((-1 : Int) ≥ 0) = false from rfl, cnd_f, bnd1_some, cnd_f, grd_pos (by simp [lim]), bnd1_some]
    rfl
  rw [e1, bnd_some]
  have e4 : forN (fun i3 s => shape_stretches_b0 [r] i3 s) ([r] : List Rect).length 0 [] = some (.fin [r.X0, r.X1]) := by
    show forN (fun i3 s => shape_stretches_b0 [r] i3 s) (0 + 1) 0 [] = _
    simp only [forN, e2]
  rw [e4]
  rfl
theorem push_first {b : Band} (hx : b.Xs.length ≠ 0) (hy : b.Y0 < b.Y1) : shape_Set_push [] b = some [b] := by
  have e3 : w64 (((([] : List Band).length : Nat) : Int) - 1) = -1 := w64_id (by simp) (by simp)
  unfold shape_Set_push
  rw [show ((b.Xs.length : Int) == 0) = false by rw [beq_eq_false_iff_ne]; omega, cnd_f, bnd1_some, decide_eq_false (by omega), cnd_f, e3, show decide ((-1 : Int) ≥ 0) = false from rfl, cnd_f, bnd1_some, cnd_f, grd_pos (by simp [lim])]
  rfl
theorem setOf_one {r : Rect} (hy : r.Y0 < r.Y1) : shape_SetOf [r] = some [⟨r.Y0, r.Y1, [r.X0, r.X1]⟩] := by
  have e0 : slices_Clone_api_Rect_api_Rect_new [r] = some [r] := by unfold slices_Clone_api_Rect_api_Rect_new; rw [grd_pos (by simp [lim])]; rfl
  have e1 : h_SortFunc_Rect [r] = some [r] := by unfold h_SortFunc_Rect; rw [grd_pos (show ([r] : List Rect).length = 1 from rfl)]
  have e2 : shape_SetOf_b0 [r] 0 [] = some (.go [r.Y0, r.Y1]) := by
    unfold shape_SetOf_b0
    rw [show atI [r] ((0 : Nat) : Int) = some r from rfl, bnd_some, grd_pos (by simp [lim])]
    rfl
  have e3 : forN (fun i5 s => shape_SetOf_b0 [r] i5 s) ([r] : List Rect).length 0 [] = some (.fin [r.Y0, r.Y1]) := by
    show forN (fun i5 s => shape_SetOf_b0 [r] i5 s) (0 + 1) 0 [] = _
    simp only [forN, e2]
  have e4 : h_Sort_int [r.Y0, r.Y1] = some [r.Y0, r.Y1] := by
    unfold h_Sort_int Sym.sortI
    congr 1
    refine List.mergeSort_of_pairwise ?_
    simp
    omega
  have hk : ∀ j, j < ([r.Y0, r.Y1] : List Int).length → Lib.keeps ([r.Y0, r.Y1] : List Int).toArray j = true := by
    intro j hj
    have : j = 0 ∨ j = 1 := by simp at hj; omega
    rcases this with rfl | rfl
    · rfl
    · unfold Lib.keeps
      simp
      omega
  have e5 : h_Compact_int [r.Y0, r.Y1] = some [r.Y0, r.Y1] := by
    unfold h_Compact_int
    rw [Lib.compact_all _ hk, grd_pos (Nat.le_refl _)]
  have d1 : slices_DeleteFunc_api_Rect_api_Rect [] (fun z0 => shape_SetOf_2 z0 [r.Y0, r.Y1] 0) = some [] := rfl
  have w1 : w64 ((0 : Int) + 1) = 1 := w64_id (by omega) (by omega)
  have w2 : w64 ((1 : Int) + 1) = 2 := w64_id (by omega) (by omega)
  have b2 : ∀ y18, shape_SetOf_b2 [r] [r.Y0, r.Y1] y18 0 0 [] = some (.go (1, [r])) := fun y18 => by
    unfold shape_SetOf_b2
    rw [show decide ((0 : Int) < ((([r] : List Rect).length : Nat) : Int)) = true from rfl, cnd_t, show atI [r] (0 : Int) = some r from rfl, bnd_some, show atI [r.Y0, r.Y1] (0 : Int) = some r.Y0 from rfl, bnd_some, decide_eq_true (Int.le_refl _), bnd1_some, cnd_t, bnd_some, grd_pos (by simp [lim]), w1]
    rfl
  have b2' : ∀ y18, shape_SetOf_b2 [r] [r.Y0, r.Y1] y18 0 1 [r] = some (.brk (1, [r])) := fun y18 => by
    unfold shape_SetOf_b2
    rw [show decide ((1 : Int) < ((([r] : List Rect).length : Nat) : Int)) = false from rfl, cnd_f, bnd1_some, cnd_f]
  have l2 : ∀ y18, loop (fun s : Int × List Rect => shape_SetOf_b2 [r] [r.Y0, r.Y1] y18 0 s.1 s.2) (0, []) = some (.fin (1, [r])) := fun y18 => loop_i (n := 2) (by simp only [iter, b2, b2'])
  have b1 : shape_SetOf_b1 [r] [r.Y0, r.Y1] 0 [] [] 0 = some (.go (1, [⟨r.Y0, r.Y1, [r.X0, r.X1]⟩], [r], 1)) := by
    unfold shape_SetOf_b1
    rw [w1, show decide ((1 : Int) < ((([r.Y0, r.Y1] : List Int).length : Nat) : Int)) = true from rfl, cnd_t, d1, bnd_some, l2, aft2_fin, show atI [r.Y0, r.Y1] (0 : Int) = some r.Y0 from rfl, bnd_some, show atI [r.Y0, r.Y1] (1 : Int) = some r.Y1 from rfl, bnd_some, stretches_one, bnd_some, push_first (by simp) hy, bnd_some]
  have b1' : shape_SetOf_b1 [r] [r.Y0, r.Y1] 1 [⟨r.Y0, r.Y1, [r.X0, r.X1]⟩] [r] 1 = some (.brk (1, [⟨r.Y0, r.Y1, [r.X0, r.X1]⟩], [r], 1)) := by
    unfold shape_SetOf_b1
    rw [w2, show decide ((2 : Int) < ((([r.Y0, r.Y1] : List Int).length : Nat) : Int)) = false from rfl, cnd_f]
  have l1 : loop (fun s : Int × List Band × List Rect × Int => shape_SetOf_b1 [r] [r.Y0, r.Y1] s.1 s.2.1 s.2.2.1 s.2.2.2) (0, [], [], 0) = some (.fin (1, [⟨r.Y0, r.Y1, [r.X0, r.X1]⟩], [r], 1)) := loop_i (n := 2) (by simp only [iter, b1, b1'])
  unfold shape_SetOf
  rw [e0, bnd_some, e1, bnd_some, e3, aft1_fin, e4, bnd_some, e5, bnd_some, l1]
  rfl
theorem fits_one (a b c d : Int) : shape_Set_Fits [⟨b, d, [a, c]⟩] = some (rectB ⟨a, b, c, d⟩) := by
  have w0 : w64 (((1 : Nat) : Int) - 1) = 0 := w64_id (by omega) (by omega)
  have w1 : w64 (((2 : Nat) : Int) - 1) = 1 := w64_id (by omega) (by omega)
  have mnn : ∀ x : Int, mn x x = x := fun x => by unfold mn; split <;> rfl
  have mxx : ∀ x : Int, mx x x = x := fun x => by unfold mx; split <;> rfl
  have e1 : ∀ x5 x11, shape_Set_Around_b0 [⟨b, d, [a, c]⟩] x5 x11 0 a c = some (.go (a, c)) := fun x5 x11 => by
    unfold shape_Set_Around_b0
    rw [show atI [(⟨b, d, [a, c]⟩ : Band)] ((0 : Nat) : Int) = some ⟨b, d, [a, c]⟩ from rfl, bnd_some, show atI [a, c] (0 : Int) = some a from rfl, bnd_some]
    show (bnd (atI [a, c] (w64 (((2 : Nat) : Int) - 1))) fun x20 => some (Stp.go (mn a a, mx c x20))) = _
    rw [w1, show atI [a, c] (1 : Int) = some c from rfl, bnd_some, mnn, mxx]
  have e2 : shape_Set_Around [⟨b, d, [a, c]⟩] = some ⟨a, b, c, d⟩ := by
    unfold shape_Set_Around
    rw [show atI [(⟨b, d, [a, c]⟩ : Band)] (0 : Int) = some ⟨b, d, [a, c]⟩ from rfl, bnd_some, show atI [a, c] (0 : Int) = some a from rfl, bnd_some, bnd_some, bnd_some, show atI [a, c] (1 : Int) = some c from rfl, bnd_some]
    show (bnd (atI [(⟨b, d, [a, c]⟩ : Band)] (w64 (((1 : Nat) : Int) - 1))) fun x11 => _) = _
    rw [w0, show atI [(⟨b, d, [a, c]⟩ : Band)] (0 : Int) = some ⟨b, d, [a, c]⟩ from rfl, bnd_some]
    have e3 : ∀ x5 x11, forN (fun i13 s => shape_Set_Around_b0 [⟨b, d, [a, c]⟩] x5 x11 i13 s.1 s.2) ([(⟨b, d, [a, c]⟩ : Band)] : List Band).length 0 (a, c) = some (.fin (a, c)) := fun x5 x11 => by
      show forN (fun i13 s => shape_Set_Around_b0 [⟨b, d, [a, c]⟩] x5 x11 i13 s.1 s.2) (0 + 1) 0 (a, c) = _
      simp only [forN, e1]
    rw [e3]
    rfl
  unfold shape_Set_Fits
  rw [show (((([(⟨b, d, [a, c]⟩ : Band)] : List Band).length : Nat) : Int) == 0) = false from rfl, cnd_f, e2, bnd_some, isRect_eq, bnd_some, bnd1_some]

/-! ### Squares -/
def sqB (b : Bore) : Rect := ⟨b.At.X - b.Size.tdiv 2, b.At.Y - b.Size.tdiv 2, b.At.X - b.Size.tdiv 2 + b.Size, b.At.Y - b.Size.tdiv 2 + b.Size⟩
theorem atB_iff {n : Int} : atB n = true ↔ -1000000 ≤ n ∧ n ≤ 1000000 := by unfold atB; simp
theorem sq_words {b : Bore} (hs : 1 ≤ b.Size ∧ b.Size ≤ 10000) (hx : atB b.At.X = true) (hy : atB b.At.Y = true) :
    (⟨w64 (b.At.X - (w64 (b.Size.tdiv 2))), w64 (b.At.Y - (w64 (b.Size.tdiv 2))), w64 ((w64 (b.At.X - (w64 (b.Size.tdiv 2)))) + b.Size), w64 ((w64 (b.At.Y - (w64 (b.Size.tdiv 2)))) + b.Size)⟩ : Rect) = sqB b := by
  have h1 := atB_iff.1 hx
  have h2 := atB_iff.1 hy
  have hd : b.Size.tdiv 2 = b.Size / 2 := Int.tdiv_eq_ediv_of_nonneg (by omega)
  unfold sqB
  rw [hd, w64_id (n := b.Size / 2) (by omega) (by omega), w64_id (n := b.At.X - b.Size / 2) (by omega) (by omega), w64_id (n := b.At.Y - b.Size / 2) (by omega) (by omega), w64_id (n := b.At.X - b.Size / 2 + b.Size) (by omega) (by omega), w64_id (n := b.At.Y - b.Size / 2 + b.Size) (by omega) (by omega)]
/-- What Square answers. -/
def squareR (b : Bore) : Rect × Int :=
  if (decide (1 ≤ b.Size ∧ b.Size ≤ 10000) && (atB b.At.X && atB b.At.Y)) = true ∧ rectB (sqB b) = true then (sqB b, 0) else (⟨0, 0, 0, 0⟩, 1)
theorem copper_Square_eq (b : Bore) : copper_Square b = some (squareR b) := by
  unfold copper_Square squareR
  have e : copper_within b.Size 1 10000 = some (decide (1 ≤ b.Size ∧ b.Size ≤ 10000)) := within_eq b.Size _ _
  rw [e, bnd_some, isPoint_eq, bnd_some]
  by_cases h1 : 1 ≤ b.Size ∧ b.Size ≤ 10000
  · rw [decide_eq_true h1]
    cases hp : (atB b.At.X && atB b.At.Y) with
    | false => rfl
    | true =>
      rw [Bool.and_eq_true] at hp
      have e1 : copper_SquareOf b = some (sqB b) := by
        unfold copper_SquareOf
        rw [grd_pos (by decide), grd_pos (by decide), sq_words h1 hp.1 hp.2]
      have hlt : (sqB b).Y0 < (sqB b).Y1 := by
        show b.At.Y - b.Size.tdiv 2 < b.At.Y - b.Size.tdiv 2 + b.Size
        omega
      simp only [Bool.not_true, cnd_f, bnd1_some]
      rw [e1, bnd_some, setOf_one hlt, bnd_some, fits_one, bnd_some]
      cases hr : rectB ⟨(sqB b).X0, (sqB b).Y0, (sqB b).X1, (sqB b).Y1⟩ with
      | false =>
        rfl
      | true =>
        rfl
  · rw [decide_eq_false h1]; rfl
theorem ref_Square_eq (b : Bore) : ref5_Square b = some (squareR b) := by
  unfold ref5_Square ref5_checkSquare squareR
  have e : ref5_within b.Size 1 10000 = some (decide (1 ≤ b.Size ∧ b.Size ≤ 10000)) := within_eq b.Size _ _
  rw [e, bnd_some, refPoint_eq, bnd_some]
  by_cases h1 : 1 ≤ b.Size ∧ b.Size ≤ 10000
  · rw [decide_eq_true h1]
    cases hp : (atB b.At.X && atB b.At.Y) with
    | false => rfl
    | true =>
      rw [Bool.and_eq_true] at hp
      have e1 : ref5_SquareOf b = some (sqB b) := by
        unfold ref5_SquareOf
        rw [grd_pos (by decide), grd_pos (by decide), sq_words h1 hp.1 hp.2]
      simp only [Bool.not_true, cnd_f, bnd1_some, e1, bnd_some, refAt_eq]
      unfold rectB
      cases atB (sqB b).X0 <;> cases atB (sqB b).Y0 <;> cases atB (sqB b).X1 <;> cases atB (sqB b).Y1 <;> rfl
  · rw [decide_eq_false h1]; rfl
theorem awake_true : law5_awake = some true := by
  unfold law5_awake
  rw [copper_Square_eq, bnd_some]
  rfl
theorem ArtSquaresMatchSpec_true (b : Bore) (h : cBs (e_Bore b) ≤ 1048576) : law5_ArtSquaresMatchSpec b = some true := by
  unfold law5_ArtSquaresMatchSpec
  rw [copper_Square_eq, bnd_some, ref_Square_eq, bnd_some, awake_true]
  simp [cnd, bnd1, bnd]
end Go.Proofs.Ytajmjfdopminbaa.Sym
