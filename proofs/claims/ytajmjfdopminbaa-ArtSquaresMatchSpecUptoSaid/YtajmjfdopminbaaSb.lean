/- Printed by gen2.py: the types, their encodings, keys, and contracts of the library. Conditions: none. -/
import Derived.Test.YtajmjfdopminbaaSymw
import Derived.Test.YtajmjfdopminbaaProg
import Derived.DeepKeys4
import Derived.Test.YtajmjfdopminbaaShelf
import Derived.Test.YtajmjfdopminbaaSymff
import Derived.Test.YtajmjfdopminbaaSheli
import Derived.Test.YtajmjfdopminbaaShelf
set_option linter.unusedVariables false
set_option maxHeartbeats 4000000
namespace Go.Proofs.Ytajmjfdopminbaa.Sym
open Go Go.RowKit
noncomputable abbrev PG : Program := Go.Proofs.Try.prog
def XT : Tab := [
  (3, ⟨.int .i64, 1, 8, [.int .i64]⟩),
  (4, ⟨.bool, 1, 1, [.bool]⟩),
  (23, ⟨.struct [(0, 1), (1, 1)], 2, 16, [.int .i64, .int .i64]⟩),
  (25, ⟨.struct [(0, 2), (2, 1), (3, 1), (4, 1), (5, 1)], 6, 48, [.int .i64, .int .i64, .int .i64, .int .i64, .int .i64, .bool]⟩),
  (27, ⟨.struct [(0, 1), (1, 1), (2, 1), (3, 1)], 4, 32, [.int .i64, .int .i64, .int .i64, .int .i64]⟩),
  (28, ⟨.int .i64, 1, 8, [.int .i64]⟩),
  (37, ⟨.slice 53, 1, 24, [.nil]⟩),
  (39, ⟨.slice 27, 1, 24, [.nil]⟩),
  (44, ⟨.other, 1, 8, [.nilf]⟩),
  (45, ⟨.slice 3, 1, 24, [.nil]⟩),
  (49, ⟨.other, 1, 8, [.nilf]⟩),
  (53, ⟨.struct [(0, 1), (1, 1), (2, 1)], 3, 40, [.int .i64, .int .i64, .nil]⟩)]
theorem XTok : TabOk PG XT := by
  unfold XT
  refine TabOk.cons (by kernel_rfl) ?_
  refine TabOk.cons (by kernel_rfl) ?_
  refine TabOk.cons (by kernel_rfl) ?_
  refine TabOk.cons (by kernel_rfl) ?_
  refine TabOk.cons (by kernel_rfl) ?_
  refine TabOk.cons (by kernel_rfl) ?_
  refine TabOk.cons (by kernel_rfl) ?_
  refine TabOk.cons (by kernel_rfl) ?_
  refine TabOk.cons (by kernel_rfl) ?_
  refine TabOk.cons (by kernel_rfl) ?_
  refine TabOk.cons (by kernel_rfl) ?_
  refine TabOk.cons (by kernel_rfl) ?_
  exact TabOk.nil _
theorem PGmix : PG.follows .mixedOrders = true := by kernel_rfl
structure Point where
  X : Int
  Y : Int
structure Bore where
  At : Point
  Size : Int
  From : Int
  To : Int
  Plated : Bool
structure Rect where
  X0 : Int
  Y0 : Int
  X1 : Int
  Y1 : Int
structure Band where
  Y0 : Int
  Y1 : Int
  Xs : List Int
def e_Point (x : Point) : El := [iC x.X, iC x.Y]
def e_Bore (x : Bore) : El := [iC x.At.X, iC x.At.Y, iC x.Size, iC x.From, iC x.To, bC x.Plated]
def e_Rect (x : Rect) : El := [iC x.X0, iC x.Y0, iC x.X1, iC x.Y1]
def e_i64 (x : Int) : El := [iC x]
def e_Band (x : Band) : El := [iC x.Y0, iC x.Y1, .sl 1 (List.map e_i64 x.Xs)]
noncomputable def h_SortFunc_Rect (a0 : List Rect) : Option (List Rect) := grd (a0.length = 1) <| some a0
theorem h_SortFunc_Rect_ok (a0 : List Rect) (g : Nat) (hg : g = 17 ∨ g = 35) (r : List Rect) (h : h_SortFunc_Rect a0 = some r) : Spec PG 16 [.v (.rt 0), .v (.c (.fn g []))] [(0, .row 27 4 (List.map e_Rect a0))] (.tup []) [(0, .row 27 4 (List.map e_Rect r))] := by
  obtain ⟨h1, h⟩ := grd_e h
  have e := Option.some.inj h
  subst e
  obtain ⟨x, rfl⟩ : ∃ x, a0 = [x] := List.length_eq_one_iff.1 h1
  refine Spec.sortOne (sz := 4) ⟨Try.f16, by kernel_rfl, by kernel_rfl, by kernel_rfl⟩ Go.Proofs.rectVals (fun vals blk cap w hl hv hH hb => Try.sortRect1 g hg vals blk cap w hv hH hb) 27 (e_Rect x) (fun I vals h => ?_)
  cases h with
  | cons h1 h =>
  cases h with
  | cons h2 h =>
  cases h with
  | cons h3 h =>
  cases h with
  | cons h4 h =>
  cases h
  cases h1
  cases h2
  cases h3
  cases h4
  exact ⟨_, _, _, _, rfl⟩
noncomputable def h_Sort_int (a0 : List Int) : Option (List Int) := some (sortI a0)
theorem h_Sort_int_ok (a0 r : List Int) (h : h_Sort_int a0 = some r) : Spec PG 18 [.v (.rt 0)] [(0, .row 3 1 (List.map e_i64 a0))] (.tup []) [(0, .row 3 1 (List.map e_i64 r))] := by
  have e := Option.some.inj h
  subst e
  exact Spec.sortI ⟨Try.f18, by kernel_rfl, by kernel_rfl, by kernel_rfl⟩ (fun blk off cap zs w hH hb hs => Try.slices_Sort_int blk off cap zs w hH hb hs) (fun p cap w => Try.slices_Sort_int_none p cap w) 3 a0
noncomputable def h_Compact_int (a0 : List Int) : Option (List Int) := grd ((Lib.compact a0).length ≤ a0.length) <| some (Lib.compact a0)
theorem h_Compact_int_ok (a0 r : List Int) (h : h_Compact_int a0 = some r) : Spec PG 19 [.v (.rt 0)] [(0, .row 3 1 (List.map e_i64 a0))] (.t (.v (.rt 1))) [(1, .row 3 1 (List.map e_i64 r))] := by
  obtain ⟨h1, h⟩ := grd_e h
  have e := Option.some.inj h
  subst e
  exact Spec.compactI ⟨Try.f19, by kernel_rfl, by kernel_rfl, by kernel_rfl⟩ (fun blk off cap zs w hH hs hc => Try.slices_Compact_int blk off cap zs w hH hs hc) (fun p cap w => Try.slices_Compact_int_empty p cap w) 3 a0 h1
end Go.Proofs.Ytajmjfdopminbaa.Sym
