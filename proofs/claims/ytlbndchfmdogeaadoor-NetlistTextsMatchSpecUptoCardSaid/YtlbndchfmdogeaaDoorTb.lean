/- Printed by gen2.py: the types, their encodings, keys, and contracts of the library. Conditions: none. -/
import Derived.Test.YtlbndchfmdogeaaDoorSymw
import Derived.Test.YtlbndchfmdogeaaDoorProg
import Derived.DeepKeys4
import Derived.Test.YtlbndchfmdogeaaDoorShelf
import Derived.Test.YtlbndchfmdogeaaDoorSymbb
import Derived.Test.YtlbndchfmdogeaaDoorShelb
set_option linter.unusedVariables false
set_option maxHeartbeats 4000000
namespace Go.Proofs.YtlbndchfmdogeaaDoor.Sym
open Go Go.RowKit
noncomputable abbrev PG : Program := Go.Proofs.Tryd.prog
def XT : Tab := [
  (3, ⟨.int .i64, 1, 8, [.int .i64]⟩),
  (4, ⟨.bool, 1, 1, [.bool]⟩),
  (5, ⟨.int .u8, 1, 1, [.int .u8]⟩),
  (9, ⟨.str, 1, 16, [.str]⟩),
  (21, ⟨.int .i32, 1, 4, [.int .i32]⟩),
  (22, ⟨.slice 93, 1, 24, [.nil]⟩),
  (23, ⟨.slice 73, 1, 24, [.nil]⟩),
  (24, ⟨.slice 64, 1, 24, [.nil]⟩),
  (26, ⟨.struct [(0, 1), (1, 1)], 2, 48, [.nil, .nil]⟩),
  (28, ⟨.struct [(0, 1), (1, 1)], 2, 32, [.str, .str]⟩),
  (29, ⟨.int .i64, 1, 8, [.int .i64]⟩),
  (33, ⟨.slice 28, 1, 24, [.nil]⟩),
  (47, ⟨.other, 1, 8, [.nilf]⟩),
  (55, ⟨.slice 9, 1, 24, [.nil]⟩),
  (64, ⟨.struct [(0, 1), (1, 1), (2, 1)], 3, 64, [.str, .nil, .nil]⟩),
  (73, ⟨.struct [(0, 1), (1, 1)], 2, 32, [.str, .str]⟩),
  (80, ⟨.map 28 3, 1, 8, [.nilm]⟩),
  (85, ⟨.map 28 4, 1, 8, [.nilm]⟩),
  (87, ⟨.other, 1, 8, [.nilf]⟩),
  (90, ⟨.struct [(0, 1), (1, 1), (2, 1)], 3, 32, [.str, .int .i64, .int .i64]⟩),
  (91, ⟨.slice 90, 1, 24, [.nil]⟩),
  (93, ⟨.struct [(0, 1), (1, 1)], 2, 40, [.str, .nil]⟩),
  (96, ⟨.other, 1, 8, [.nilf]⟩),
  (109, ⟨.other, 1, 8, [.nilp]⟩),
  (128, ⟨.other, 1, 8, [.nilp]⟩),
  (129, ⟨.slice 5, 1, 24, [.nil]⟩),
  (131, ⟨.struct [(0, 1), (1, 1)], 2, 32, [.nilp, .nil]⟩),
  (151, ⟨.int .u64, 1, 8, [.int .u64]⟩),
  (165, ⟨.other, 1, 8, [.nilf]⟩),
  (167, ⟨.other, 1, 8, [.nilf]⟩),
  (180, ⟨.other, 1, 8, [.nilf]⟩),
  (181, ⟨.other, 1, 8, [.nilp]⟩),
  (204, ⟨.other, 1, 8, [.nilf]⟩)]
theorem XTok : TabOk PG XT := by
  unfold XT
  refine TabOk.cons (by kernel_rfl) ?_
  refine TabOk.cons (by kernel_rfl) ?_
  refine TabOk.cons (by kernel_rfl) ?_
  refine TabOk.cons (by kernel_rfl) ?_
  refine TabOk.cons (by kernel_rfl) ?_
  refine TabOk.cons (by kernel_rfl) ?_
  refine TabOk.cons (by kernel_rfl) ?_
  refine TabOk.cons (by kernel_rfl) ?_
  refine TabOk.cons (by kernel_rfl) ?_
  refine TabOk.cons (by kernel_rfl) ?_
  refine TabOk.cons (by kernel_rfl) ?_
  refine TabOk.cons (by kernel_rfl) ?_
  refine TabOk.cons (by kernel_rfl) ?_
  refine TabOk.cons (by kernel_rfl) ?_
  refine TabOk.cons (by kernel_rfl) ?_
  refine TabOk.cons (by kernel_rfl) ?_
  refine TabOk.cons (by kernel_rfl) ?_
  refine TabOk.cons (by kernel_rfl) ?_
  refine TabOk.cons (by kernel_rfl) ?_
  refine TabOk.cons (by kernel_rfl) ?_
  refine TabOk.cons (by kernel_rfl) ?_
  refine TabOk.cons (by kernel_rfl) ?_
  refine TabOk.cons (by kernel_rfl) ?_
  refine TabOk.cons (by kernel_rfl) ?_
  refine TabOk.cons (by kernel_rfl) ?_
  refine TabOk.cons (by kernel_rfl) ?_
  refine TabOk.cons (by kernel_rfl) ?_
  refine TabOk.cons (by kernel_rfl) ?_
  refine TabOk.cons (by kernel_rfl) ?_
  refine TabOk.cons (by kernel_rfl) ?_
  refine TabOk.cons (by kernel_rfl) ?_
  refine TabOk.cons (by kernel_rfl) ?_
  refine TabOk.cons (by kernel_rfl) ?_
  exact TabOk.nil _
theorem PGmix : PG.follows .mixedOrders = true := by kernel_rfl
structure PinType where
  Name : ByteArray
  Kind : Int
  Group : Int
structure PartType where
  Name : ByteArray
  Pins : List PinType
structure Part where
  Name : ByteArray
  Type_ : ByteArray
structure Pin where
  Part : ByteArray
  Pin : ByteArray
structure Net where
  Name : ByteArray
  Pins : List Pin
  Ports : List ByteArray
structure Netlist where
  Parts : List Part
  Nets : List Net
def e_PinType (x : PinType) : El := [sC x.Name, iC x.Kind, iC x.Group]
def e_PartType (x : PartType) : El := [sC x.Name, .sl 3 (List.map e_PinType x.Pins)]
def e_Part (x : Part) : El := [sC x.Name, sC x.Type_]
def e_Pin (x : Pin) : El := [sC x.Part, sC x.Pin]
def e_str (x : ByteArray) : El := [sC x]
def e_Net (x : Net) : El := [sC x.Name, .sl 2 (List.map e_Pin x.Pins), .sl 1 (List.map e_str x.Ports)]
def e_Netlist (x : Netlist) : El := [.sl 2 (List.map e_Part x.Parts), .sl 3 (List.map e_Net x.Nets)]
def kv_Pin (x : Pin) : Value := .agg #[.string x.Part, .string x.Pin]
def dv_bool (x : Bool) : DV := .v (bC x)
def dv_i64 (x : Int) : DV := .v (iC x)
theorem kd_Pin : Maps.Keyed PG 28 := Maps.Keyed.of_law (deep_law_laid (by kernel_rfl) (m := 2) (by omega) (of_decide_eq_true (by kernel_rfl)) (by kernel_rfl) (by kernel_rfl))
theorem kf_Pin (x : Pin) : okKV (kv_Pin x) = true → keys PG 28 (kv_Pin x) := fun h => keys_of (ks := [.s, .s]) (by kernel_rfl) (.cons (kv_s (okKV_all (l := [.string x.Part, .string x.Pin]) h _ (by simp))) (.cons (kv_s (okKV_all (l := [.string x.Part, .string x.Pin]) h _ (by simp))) .nil))
theorem ki_Pin (a b : Pin) (h : kv_Pin a = kv_Pin b) : a = b := by
  cases a; cases b; simp only [kv_Pin, Value.agg.injEq] at h; simpa using h
theorem h_copyCheck_ok (xs : List El) : Spec PG 138 [.v (.ptr 0 0)] (bldH 131 5 xs) (.tup []) (bldH 131 5 xs) :=
  Spec.copyCheck ⟨Tryd.f138, by kernel_rfl, by kernel_rfl, by kernel_rfl⟩ (fun b w h0 h1 h2 => Any.Builder_copyCheck_fresh Tryd.lays240 Tryd.Builder_X72_240 b w h0 h1 h2) (fun b w h => Any.Builder_copyCheck_used Tryd.lays240 Tryd.Builder_X72_240 b w h) xs
noncomputable def h_IndexByte (a0 : ByteArray) (a1 : Int) : Option (Int) := some (Lib.indexByte a0.data.toList a1.toNat.toUInt8)
theorem h_IndexByte_ok (a0 : ByteArray) (a1 : Int) (r : Int) (h : h_IndexByte a0 a1 = some r) : Spec PG 157 [sT a0, .v (.c (.v (.int .u8 a1)))] [] (iA r) [] := by
  have e := Option.some.inj h
  subst e
  exact Spec.leaf [.string a0, .int .u8 a1] _ ⟨Tryd.f157, by kernel_rfl, by kernel_rfl, by kernel_rfl⟩ rfl rfl (fun w => Tryd.strings_IndexByte a0 a1 w)
noncomputable def h_CompareString (a0 : ByteArray) (a1 : ByteArray) : Option (Int) := some (Lib.compareBytes a0.data.toList a1.data.toList)
theorem h_CompareString_ok (a0 : ByteArray) (a1 : ByteArray) (r : Int) (h : h_CompareString a0 a1 = some r) : Spec PG 163 [sT a0, sT a1] [] (iA r) [] := by
  have e := Option.some.inj h
  subst e
  exact Spec.leaf [.string a0, .string a1] _ ⟨Tryd.f163, by kernel_rfl, by kernel_rfl, by kernel_rfl⟩ rfl rfl (fun w => Tryd.bytealg_CompareString a0 a1 w)
noncomputable def h_Index2 (a0 : ByteArray) (a1 : ByteArray) : Option (Int) := (one1 a1).map fun c => Lib.indexByte a0.data.toList c
theorem h_Index2_ok (a0 : ByteArray) (a1 : ByteArray) (r : Int) (h : h_Index2 a0 a1 = some r) : Spec PG 165 [sT a0, sT a1] [] (iA r) [] := by
  obtain ⟨c, hc, e⟩ := Option.map_eq_some_iff.1 h
  obtain rfl := one1_e hc
  subst e
  exact Spec.leaf [.string a0, .string ⟨#[c]⟩] _ ⟨Tryd.f165, by kernel_rfl, by kernel_rfl, by kernel_rfl⟩ rfl rfl (fun w => Tryd.stringslite_Index_one a0 c w)
noncomputable def h_explode (a0 : ByteArray) (a1 : Int) : Option (List ByteArray) := none
theorem h_explode_ok (a0 : ByteArray) (a1 : Int) (r : List ByteArray) (h : h_explode a0 a1 = some r) : Spec PG 166 [sT a0, iT a1] [] (lA 1 (List.map e_str r)) [] := by
  cases h
noncomputable def h_Count (a0 : ByteArray) (a1 : ByteArray) : Option (Int) := (one1 a1).map fun c => (Lib.countByte a0.data.toList c : Int)
theorem h_Count_ok (a0 : ByteArray) (a1 : ByteArray) (r : Int) (h : h_Count a0 a1 = some r) : Spec PG 167 [sT a0, sT a1] [] (iA r) [] := by
  obtain ⟨c, hc, e⟩ := Option.map_eq_some_iff.1 h
  obtain rfl := one1_e hc
  subst e
  exact Spec.leaf [.string a0, .string ⟨#[c]⟩] _ ⟨Tryd.f167, by kernel_rfl, by kernel_rfl, by kernel_rfl⟩ rfl rfl (fun w => Tryd.strings_Count_one a0 c w)
noncomputable def h_Index (a0 : ByteArray) (a1 : ByteArray) : Option (Int) := (one1 a1).map fun c => Lib.indexByte a0.data.toList c
theorem h_Index_ok (a0 : ByteArray) (a1 : ByteArray) (r : Int) (h : h_Index a0 a1 = some r) : Spec PG 168 [sT a0, sT a1] [] (iA r) [] := by
  obtain ⟨c, hc, e⟩ := Option.map_eq_some_iff.1 h
  obtain rfl := one1_e hc
  subst e
  exact Spec.leaf [.string a0, .string ⟨#[c]⟩] _ ⟨Tryd.f168, by kernel_rfl, by kernel_rfl, by kernel_rfl⟩ rfl rfl (fun w => Tryd.strings_Index_one a0 c w)
noncomputable def h_WriteString_c : Code := (Go.Proofs.Tryd.f91.body).getD .skip
theorem h_WriteString_fn : FnOk PG 91 h_WriteString_c 19 [.tmp 4, .tmp 5] := ⟨⟨Go.Proofs.Tryd.f91, by kernel_rfl, by kernel_rfl, by kernel_rfl, by kernel_rfl, by kernel_rfl⟩⟩
theorem h_WriteString_ok (a b : ByteArray) (h : a.size + b.size ≤ lim) : Spec PG 91 [.v (.ptr 0 0), sT b] (bldH 131 5 (strE a)) (.tup [iT (b.size : Int), .v (.c (.v .nilIface))]) [(0, .cells 131 [.sp 0, .rt 2]), (2, .row 5 1 (strE (a ++ b)))] := by
  exact Spec.path XTok PGmix h_WriteString_fn 2 [.r [], .r [.call [(0, 0), (1, 1)] [.v (.ptr 0 0)] (bldH 131 5 (strE a)) (.tup []) (bldH 131 5 (strE a))], .r [.id 2, .row (strE (a ++ b))], .r []] (an (an (h_copyCheck_ok (strE a)) (an (Eq.refl ([.v (.ptr 0 0)] : List TV)) (Eq.refl (renH (asg [(0, 0), (1, 1)]) (bldH 131 5 (strE a)))))) (strE_app h)) (by kernel_rfl)
noncomputable def h_BuilderLen_c : Code := (Go.Proofs.Tryd.f92.body).getD .skip
theorem h_BuilderLen_fn : FnOk PG 92 h_BuilderLen_c 8 [.tmp 2] := ⟨⟨Go.Proofs.Tryd.f92, by kernel_rfl, by kernel_rfl, by kernel_rfl, by kernel_rfl, by kernel_rfl⟩⟩
theorem h_BuilderLen_ok (a : ByteArray) : Spec PG 92 [.v (.ptr 0 0)] (bldH 131 5 (strE a)) (iA (a.size : Int)) (bldH 131 5 (strE a)) := by
  exact Spec.path XTok PGmix h_BuilderLen_fn 2 [.r [], .r [.eq 7 (iA (a.size : Int))]] (strE_leni a) (by kernel_rfl)
noncomputable def h_BuilderString_c : Code := (Go.Proofs.Tryd.f93.body).getD .skip
theorem h_BuilderString_fn : FnOk PG 93 h_BuilderString_c 14 [.tmp 2] := ⟨⟨Go.Proofs.Tryd.f93, by kernel_rfl, by kernel_rfl, by kernel_rfl, by kernel_rfl, by kernel_rfl⟩⟩
theorem h_BuilderString_ok (a : ByteArray) : Spec PG 93 [.v (.ptr 0 0)] (bldH 131 5 (strE a)) (sA a) [] := by
  by_cases h0 : a.size = 0
  · have e : a = ⟨#[]⟩ := by
      cases a with
      | mk d => congr 1; exact Array.eq_empty_of_size_eq_zero h0
    subst e
    exact Spec.strEmpty ⟨Tryd.f93, by kernel_rfl, by kernel_rfl, by kernel_rfl⟩ (fun b p w h => Any.Builder_String_nil Tryd.lays169 Tryd.Builder_Extra_169 w.heap.size b p w h) (fun b g cap p w hc h => Any.Builder_String_room Tryd.lays169 Tryd.Builder_Extra_169 w.heap.size b g cap p w hc h) (fun b g p cur w h hg => Any.Builder_String_noroom Tryd.lays169 Tryd.Builder_Extra_169 w.heap.size b g p cur w (Nat.le_refl _) h hg)
  · exact Spec.path XTok PGmix h_BuilderString_fn 2 [.r [], .d [([], []), ([], []), ([], []), ([0], []), ([1], []), ([], []), ([], []), ([], []), ([0], []), ([1], []), ([1], [.val (sA a), .nl 5]), ([], [])]] (an (strE_pos h0) (an (by kernel_rfl : PG.underlying 181 = some (.pointer 5)) (an (by kernel_rfl : PG.cellsOf 5 = 1) (an (Eq.refl (strE a)) (an (Eq.refl ((strE a).length : Int)) (strE_pos h0)))))) (by kernel_rfl)
end Go.Proofs.YtlbndchfmdogeaaDoor.Sym
