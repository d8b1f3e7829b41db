/- slices.SortFunc laid at []Pin, and what its caller's comparison answers. Conditions: none. -/
import Derived.Shelf.SlSortCmp.WholeK
import Derived.Test.YtlbndchfmdogeaaDoorShelf
namespace Go.Proofs
open Go.Shelf
def Tryd.sortPin_ren : Go.Shelf.Ren := ⟨fun | 6 => 104 | 15 => 103 | 14 => 154 | 28 => 152 | 29 => 153 | 20 => 178 | 21 => 179 | 22 => 180 | 23 => 181 | 24 => 182 | 25 => 183 | 26 => 184 | 27 => 185 | 46 => 200 | 47 => 173 | 48 => 174 | 49 => 201 | 50 => 202 | 57 => 207 | n => n, fun | 22 => 33 | 24 => 28 | 25 => 154 | 3 => 3 | 39 => 151 | 0 => 0 | 53 => 196 | 55 => 198 | 4 => 4 | 46 => 189 | 45 => 188 | 50 => 79 | 5 => 5 | 9 => 9 | 66 => 212 | 70 => 216 | 76 => 230 | 77 => 231 | n => n, fun | n => n⟩
theorem Tryd.sortPin : Go.Proofs.SlLaysF0.n6 Tryd.prog Tryd.sortPin_ren := {
  mixed := by kernel_rfl
  f6 := ⟨Tryd.f104.name, by decide, Tryd.func104.trans (congrArg some (by kernel_rfl))⟩
  f14 := ⟨Tryd.f154.name, by decide, Tryd.func154.trans (congrArg some (by kernel_rfl))⟩
  f15 := Tryd.func103.trans (congrArg some (by kernel_rfl))
  f20 := ⟨Tryd.f178.name, by decide, Tryd.func178.trans (congrArg some (by kernel_rfl))⟩
  f21 := ⟨Tryd.f179.name, by decide, Tryd.func179.trans (congrArg some (by kernel_rfl))⟩
  f22 := ⟨Tryd.f180.name, by decide, Tryd.func180.trans (congrArg some (by kernel_rfl))⟩
  f23 := ⟨Tryd.f181.name, by decide, Tryd.func181.trans (congrArg some (by kernel_rfl))⟩
  f24 := ⟨Tryd.f182.name, by decide, Tryd.func182.trans (congrArg some (by kernel_rfl))⟩
  f25 := ⟨Tryd.f183.name, by decide, Tryd.func183.trans (congrArg some (by kernel_rfl))⟩
  f26 := ⟨Tryd.f184.name, by decide, Tryd.func184.trans (congrArg some (by kernel_rfl))⟩
  f27 := ⟨Tryd.f185.name, by decide, Tryd.func185.trans (congrArg some (by kernel_rfl))⟩
  f28 := Tryd.func152.trans (congrArg some (by kernel_rfl))
  f29 := Tryd.func153.trans (congrArg some (by kernel_rfl))
  f46 := ⟨Tryd.f200.name, by decide, Tryd.func200.trans (congrArg some (by kernel_rfl))⟩
  f47 := Tryd.func173.trans (congrArg some (by kernel_rfl))
  f48 := Tryd.func174.trans (congrArg some (by kernel_rfl))
  f49 := ⟨Tryd.f201.name, by decide, Tryd.func201.trans (congrArg some (by kernel_rfl))⟩
  f50 := ⟨Tryd.f202.name, by decide, Tryd.func202.trans (congrArg some (by kernel_rfl))⟩
  f57 := ⟨Tryd.f207.name, by decide, Tryd.func207.trans (congrArg some (by kernel_rfl))⟩
  t0 := Tryd.underlying0
  a0 := Tryd.isAgg0
  z0 := Tryd.sizeOf0
  v0 := Tryd.zeroValue0
  t3 := Tryd.underlying3
  a3 := Tryd.isAgg3
  z3 := Tryd.sizeOf3
  v3 := Tryd.zeroValue3
  t4 := Tryd.underlying4
  a4 := Tryd.isAgg4
  z4 := Tryd.sizeOf4
  v4 := Tryd.zeroValue4
  t5 := Tryd.underlying5
  a5 := Tryd.isAgg5
  z5 := Tryd.sizeOf5
  v5 := Tryd.zeroValue5
  t9 := Tryd.underlying9
  a9 := Tryd.isAgg9
  z9 := Tryd.sizeOf9
  v9 := Tryd.zeroValue9
  t22 := Tryd.underlying33
  a22 := Tryd.isAgg33
  z22 := Tryd.sizeOf33
  v22 := Tryd.zeroValue33
  t25 := Tryd.underlying154
  a25 := Tryd.isAgg154
  z25 := Tryd.sizeOf154
  v25 := Tryd.zeroValue154
  t39 := Tryd.underlying151
  a39 := Tryd.isAgg151
  z39 := Tryd.sizeOf151
  v39 := Tryd.zeroValue151
  t45 := Tryd.underlying188
  a45 := Tryd.isAgg188
  z45 := Tryd.sizeOf188
  v45 := Tryd.zeroValue188
  t46 := Tryd.underlying189
  a46 := Tryd.isAgg189
  z46 := Tryd.sizeOf189
  v46 := Tryd.zeroValue189
  t50 := Tryd.underlying79
  a50 := Tryd.isAgg79
  z50 := Tryd.sizeOf79
  v50 := Tryd.zeroValue79
  t53 := Tryd.underlying196
  a53 := Tryd.isAgg196
  z53 := Tryd.sizeOf196
  v53 := Tryd.zeroValue196
  t55 := Tryd.underlying198
  a55 := Tryd.isAgg198
  z55 := Tryd.sizeOf198
  v55 := Tryd.zeroValue198
  t66 := Tryd.underlying212
  a66 := Tryd.isAgg212
  z66 := Tryd.sizeOf212
  v66 := Tryd.zeroValue212
  t70 := Tryd.underlying216
  a70 := Tryd.isAgg216
  z70 := Tryd.sizeOf216
  v70 := Tryd.zeroValue216
  t76 := Tryd.underlying230
  a76 := Tryd.isAgg230
  z76 := Tryd.sizeOf230
  v76 := Tryd.zeroValue230
  t77 := Tryd.underlying231
  a77 := Tryd.isAgg231
  z77 := Tryd.sizeOf231
  v77 := Tryd.zeroValue231 }



open Go.RowKit Go.Lib Go.Sort
/-- What ComparePins answers. -/
def pinCmp (x y : ByteArray × ByteArray) : Int := if Lib.compareBytes x.1.data.toList y.1.data.toList ≠ 0 then Lib.compareBytes x.1.data.toList y.1.data.toList else Lib.compareBytes x.2.data.toList y.2.data.toList
def pinEnc (x : ByteArray × ByteArray) : List Value := [.string x.1, .string x.2]
set_option maxHeartbeats 1000000 in
theorem Tryd.ComparePins_calls (x y : ByteArray × ByteArray) (W : World) : Calls Tryd.prog 105 #[.agg #[.string x.1, .string x.2], .agg #[.string y.1, .string y.2]] W fun e w' => e = .returned (.int .i64 (pinCmp x y)) ∧ ∃ q os', w' = grow (W.drewN q) os' := by
  have hcon := fun a b W' => Tryd.strings_Compare a b W'
  unfold pinCmp
  generalize h1 : Lib.compareBytes x.1.data.toList y.1.data.toList = r1
  generalize h2 : Lib.compareBytes x.2.data.toList y.2.data.toList = r2
  go_enter Tryd.func105, Tryd.ntmps105
  by_cases h0 : r1 = 0
  · subst h0
    go_wp2_with (go_at_call 120; refine (hcon _ _ _).mono ?_; rintro e w' ⟨rfl, rfl⟩; simp only [h1, h2])
    all_goals (go_ret; refine ⟨rfl, 0, _, by rw [alloc_eq_grow, alloc_eq_grow, grow_grow]; rfl⟩)
  · go_wp2_with (go_at_call 120; refine (hcon _ _ _).mono ?_; rintro e w' ⟨rfl, rfl⟩; simp only [h1, h2])
    all_goals (go_ret; refine ⟨by simp [h0], 0, _, by rw [alloc_eq_grow, alloc_eq_grow, grow_grow]; rfl⟩)
end Go.Proofs
