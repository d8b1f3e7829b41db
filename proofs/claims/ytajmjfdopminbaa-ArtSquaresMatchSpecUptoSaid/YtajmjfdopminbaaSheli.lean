/- slices.SortFunc laid at []Rect, walked at one element; slices.Sort and slices.Compact at ints are the shelf's. Conditions: one element. -/
import Derived.Shelf.SlSortCmp.WholeK
import Derived.Test.YtajmjfdopminbaaProg
namespace Go.Proofs
open Go.Shelf
def Try.sortRect_ren : Go.Shelf.Ren := ⟨fun | 6 => 16 | 15 => 31 | 14 => 30 | 28 => 45 | 29 => 46 | 20 => 37 | 21 => 38 | 22 => 39 | 23 => 40 | 24 => 41 | 25 => 42 | 26 => 43 | 27 => 44 | 46 => 56 | 47 => 57 | 48 => 58 | 49 => 59 | 50 => 60 | 57 => 65 | n => n, fun | 22 => 39 | 24 => 27 | 25 => 44 | 3 => 3 | 39 => 57 | 0 => 0 | 53 => 70 | 55 => 72 | 4 => 4 | 46 => 63 | 45 => 62 | 50 => 67 | 5 => 5 | 9 => 9 | 66 => 79 | 70 => 83 | 76 => 87 | 77 => 88 | n => n, fun | n => n⟩
theorem Try.sortRect : Go.Proofs.SlLaysF0.n6 Try.prog Try.sortRect_ren := {
  mixed := by kernel_rfl
  f6 := ⟨Try.f16.name, by decide, Try.func16.trans (congrArg some (by kernel_rfl))⟩
  f14 := ⟨Try.f30.name, by decide, Try.func30.trans (congrArg some (by kernel_rfl))⟩
  f15 := Try.func31.trans (congrArg some (by kernel_rfl))
  f20 := ⟨Try.f37.name, by decide, Try.func37.trans (congrArg some (by kernel_rfl))⟩
  f21 := ⟨Try.f38.name, by decide, Try.func38.trans (congrArg some (by kernel_rfl))⟩
  f22 := ⟨Try.f39.name, by decide, Try.func39.trans (congrArg some (by kernel_rfl))⟩
  f23 := ⟨Try.f40.name, by decide, Try.func40.trans (congrArg some (by kernel_rfl))⟩
  f24 := ⟨Try.f41.name, by decide, Try.func41.trans (congrArg some (by kernel_rfl))⟩
  f25 := ⟨Try.f42.name, by decide, Try.func42.trans (congrArg some (by kernel_rfl))⟩
  f26 := ⟨Try.f43.name, by decide, Try.func43.trans (congrArg some (by kernel_rfl))⟩
  f27 := ⟨Try.f44.name, by decide, Try.func44.trans (congrArg some (by kernel_rfl))⟩
  f28 := Try.func45.trans (congrArg some (by kernel_rfl))
  f29 := Try.func46.trans (congrArg some (by kernel_rfl))
  f46 := ⟨Try.f56.name, by decide, Try.func56.trans (congrArg some (by kernel_rfl))⟩
  f47 := Try.func57.trans (congrArg some (by kernel_rfl))
  f48 := Try.func58.trans (congrArg some (by kernel_rfl))
  f49 := ⟨Try.f59.name, by decide, Try.func59.trans (congrArg some (by kernel_rfl))⟩
  f50 := ⟨Try.f60.name, by decide, Try.func60.trans (congrArg some (by kernel_rfl))⟩
  f57 := ⟨Try.f65.name, by decide, Try.func65.trans (congrArg some (by kernel_rfl))⟩
  t0 := Try.underlying0
  a0 := Try.isAgg0
  z0 := Try.sizeOf0
  v0 := Try.zeroValue0
  t3 := Try.underlying3
  a3 := Try.isAgg3
  z3 := Try.sizeOf3
  v3 := Try.zeroValue3
  t4 := Try.underlying4
  a4 := Try.isAgg4
  z4 := Try.sizeOf4
  v4 := Try.zeroValue4
  t5 := Try.underlying5
  a5 := Try.isAgg5
  z5 := Try.sizeOf5
  v5 := Try.zeroValue5
  t9 := Try.underlying9
  a9 := Try.isAgg9
  z9 := Try.sizeOf9
  v9 := Try.zeroValue9
  t22 := Try.underlying39
  a22 := Try.isAgg39
  z22 := Try.sizeOf39
  v22 := Try.zeroValue39
  t25 := Try.underlying44
  a25 := Try.isAgg44
  z25 := Try.sizeOf44
  v25 := Try.zeroValue44
  t39 := Try.underlying57
  a39 := Try.isAgg57
  z39 := Try.sizeOf57
  v39 := Try.zeroValue57
  t45 := Try.underlying62
  a45 := Try.isAgg62
  z45 := Try.sizeOf62
  v45 := Try.zeroValue62
  t46 := Try.underlying63
  a46 := Try.isAgg63
  z46 := Try.sizeOf63
  v46 := Try.zeroValue63
  t50 := Try.underlying67
  a50 := Try.isAgg67
  z50 := Try.sizeOf67
  v50 := Try.zeroValue67
  t53 := Try.underlying70
  a53 := Try.isAgg70
  z53 := Try.sizeOf70
  v53 := Try.zeroValue70
  t55 := Try.underlying72
  a55 := Try.isAgg72
  z55 := Try.sizeOf72
  v55 := Try.zeroValue72
  t66 := Try.underlying79
  a66 := Try.isAgg79
  z66 := Try.sizeOf79
  v66 := Try.zeroValue79
  t70 := Try.underlying83
  a70 := Try.isAgg83
  z70 := Try.sizeOf83
  v70 := Try.zeroValue83
  t76 := Try.underlying87
  a76 := Try.isAgg87
  z76 := Try.sizeOf87
  v76 := Try.zeroValue87
  t77 := Try.underlying88
  a77 := Try.isAgg88
  z77 := Try.sizeOf88
  v77 := Try.zeroValue88 }

open Go.RowKit Go.Lib Go.Sort
set_option maxHeartbeats 1000000 in
theorem Try.cmpRect_a (a b c d : Int) (W : World) : Calls Try.prog 17 #[.agg #[.int .i64 a, .int .i64 b, .int .i64 c, .int .i64 d], .agg #[.int .i64 a, .int .i64 b, .int .i64 c, .int .i64 d]] W fun e w' => e = .returned (.int .i64 0) ∧ ∃ q os', w' = grow (W.drewN q) os' := by
  go_enter Try.func17, Try.ntmps17
  go_wp2
  all_goals (go_ret; refine ⟨by simp, 0, _, by rw [alloc_eq_grow, alloc_eq_grow, grow_grow]; rfl⟩)
set_option maxHeartbeats 1000000 in
theorem Try.cmpRect_b (a b c d : Int) (W : World) : Calls Try.prog 35 #[.agg #[.int .i64 a, .int .i64 b, .int .i64 c, .int .i64 d], .agg #[.int .i64 a, .int .i64 b, .int .i64 c, .int .i64 d]] W fun e w' => e = .returned (.int .i64 0) ∧ ∃ q os', w' = grow (W.drewN q) os' := by
  go_enter Try.func35, Try.ntmps35
  go_wp2
  all_goals (go_ret; refine ⟨by simp, 0, _, by rw [alloc_eq_grow, alloc_eq_grow, grow_grow]; rfl⟩)
def rectVals (vals : List Value) : Prop := ∃ a b c d : Int, vals = [.int .i64 a, .int .i64 b, .int .i64 c, .int .i64 d]
theorem Try.sortRect1 (g : Nat) (hg : g = 17 ∨ g = 35) (vals : List Value) (blk cap : Nat) (w : World) (hv : rectVals vals) (hH : HoldsK (fun _ : Unit => vals) 4 w blk 0 #[()]) (hblk : blk < w.heap.size) :
    Calls Try.prog 16 #[.slice (some ⟨blk, 0, none⟩) 1 cap, .func (.func g) #[] #[]] w fun e w' => e = .returned (.tuple #[]) ∧ ∃ n os, w' = sortWorldK (fun _ : Unit => vals) 4 w blk 0 n #[()] os := by
  obtain ⟨a, b, c, d, rfl⟩ := hv
  have hlt : ∀ x y : Unit, ltOf (fun _ _ : Unit => (0 : Int)) x y = false := fun _ _ => rfl
  have hO : SWO (ltOf fun _ _ : Unit => (0 : Int)) := ⟨fun x => rfl, fun x y z h _ => by rw [hlt] at h; exact Bool.noConfusion h, fun x y z _ _ => rfl⟩
  have hlay : CmpLays Try.prog g #[] (fun _ : Unit => [.int .i64 a, .int .i64 b, .int .i64 c, .int .i64 d]) 4 (fun _ _ => 0) blk 0 (#[()] : Array Unit).size w := fun m os dk hdk x y => by
    rcases hg with rfl | rfl
    · exact Try.cmpRect_a a b c d _
    · exact Try.cmpRect_b a b c d _
  have eg : ∀ args w, (callFunc g args).run Try.prog w = .ok (.enter g args) w := by
    rcases hg with rfl | rfl
    · exact enters_of Try.func17 (by kernel_rfl) rfl
    · exact enters_of Try.func35 (by kernel_rfl) rfl
  have hcon := AnyQ.slices_SortFunc Try.sortRect 4 Try.isAgg27 Try.sizeOf27 (fun _ : Unit => [.int .i64 a, .int .i64 b, .int .i64 c, .int .i64 d]) (fun _ => rfl) (fun x v hv => by simp at hv; rcases hv with rfl | rfl | rfl | rfl <;> rfl) (fun _ _ => 0) hO g #[] blk 0 cap #[()] w eg hlay hH hblk (by decide)
  refine Calls.mono hcon fun e w' ⟨h1, d', n, os, h2, h3, h4⟩ => ⟨h1, n, os, ?_⟩
  have hd : d' = #[()] := by
    have hs : d'.size = 1 := h2.1
    apply Array.ext
    · exact hs
    · intro i _ _; rfl
  rw [h4, hd]
end Go.Proofs
