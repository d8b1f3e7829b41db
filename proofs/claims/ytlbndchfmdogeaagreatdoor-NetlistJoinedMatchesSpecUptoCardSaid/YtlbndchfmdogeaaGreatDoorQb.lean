/- Printed by gen2.py: the types, their encodings, keys, and contracts of the library. Conditions: none. -/
import Derived.Test.YtlbndchfmdogeaaGreatDoorSymw
import Derived.Test.YtlbndchfmdogeaaGreatDoorProg
import Derived.DeepKeys4
import Derived.Test.YtlbndchfmdogeaaGreatDoorShelf
import Derived.Test.YtlbndchfmdogeaaGreatDoorSymee
import Derived.Test.YtlbndchfmdogeaaGreatDoorShele
import Derived.Test.YtlbndchfmdogeaaGreatDoorSymdd
import Derived.Test.YtlbndchfmdogeaaGreatDoorSheld
import Derived.Test.YtlbndchfmdogeaaGreatDoorShelc
set_option linter.unusedVariables false
set_option maxHeartbeats 4000000
namespace Go.Proofs.YtlbndchfmdogeaaGreatDoor.Sym
open Go Go.RowKit
noncomputable abbrev PG : Program := Go.Proofs.Tryz.prog
def XT : Tab := [
  (3, ⟨.int .i64, 1, 8, [.int .i64]⟩),
  (4, ⟨.bool, 1, 1, [.bool]⟩),
  (5, ⟨.int .u8, 1, 1, [.int .u8]⟩),
  (9, ⟨.str, 1, 16, [.str]⟩),
  (22, ⟨.slice 59, 1, 24, [.nil]⟩),
  (23, ⟨.slice 43, 1, 24, [.nil]⟩),
  (24, ⟨.slice 53, 1, 24, [.nil]⟩),
  (26, ⟨.struct [(0, 1), (1, 1)], 2, 48, [.nil, .nil]⟩),
  (28, ⟨.int .i64, 1, 8, [.int .i64]⟩),
  (43, ⟨.struct [(0, 1), (1, 1)], 2, 32, [.str, .str]⟩),
  (50, ⟨.slice 55, 1, 24, [.nil]⟩),
  (51, ⟨.slice 9, 1, 24, [.nil]⟩),
  (53, ⟨.struct [(0, 1), (1, 1), (2, 1)], 3, 64, [.str, .nil, .nil]⟩),
  (55, ⟨.struct [(0, 1), (1, 1)], 2, 32, [.str, .str]⟩),
  (57, ⟨.slice 70, 1, 24, [.nil]⟩),
  (59, ⟨.struct [(0, 1), (1, 1)], 2, 40, [.str, .nil]⟩),
  (61, ⟨.other, 1, 8, [.nilf]⟩),
  (70, ⟨.struct [(0, 1), (1, 1), (2, 1)], 3, 32, [.str, .int .i64, .int .i64]⟩),
  (77, ⟨.other, 1, 8, [.nilf]⟩),
  (87, ⟨.other, 1, 8, [.nilf]⟩),
  (89, ⟨.other, 1, 8, [.nilf]⟩),
  (93, ⟨.other, 1, 8, [.nilf]⟩),
  (99, ⟨.other, 1, 8, [.nilf]⟩),
  (100, ⟨.map 55 4, 1, 8, [.nilm]⟩),
  (103, ⟨.other, 1, 8, [.nilf]⟩),
  (107, ⟨.int .u64, 1, 8, [.int .u64]⟩),
  (110, ⟨.slice 50, 1, 24, [.nil]⟩),
  (113, ⟨.other, 1, 8, [.nilf]⟩),
  (117, ⟨.map 55 3, 1, 8, [.nilm]⟩)]
theorem XTok : TabOk PG XT := by
  unfold XT
  refine TabOk.cons (by kernel_rfl) ?_
  refine TabOk.cons (by kernel_rfl) ?_
  refine TabOk.cons (by kernel_rfl) ?_
  refine TabOk.cons (by kernel_rfl) ?_
  refine TabOk.cons (by kernel_rfl) ?_
  refine TabOk.cons (by kernel_rfl) ?_
  refine TabOk.cons (by kernel_rfl) ?_
  refine TabOk.cons (by kernel_rfl) ?_
  refine TabOk.cons (by kernel_rfl) ?_
  refine TabOk.cons (by kernel_rfl) ?_
  refine TabOk.cons (by kernel_rfl) ?_
  refine TabOk.cons (by kernel_rfl) ?_
  refine TabOk.cons (by kernel_rfl) ?_
  refine TabOk.cons (by kernel_rfl) ?_
  refine TabOk.cons (by kernel_rfl) ?_
  refine TabOk.cons (by kernel_rfl) ?_
  refine TabOk.cons (by kernel_rfl) ?_
  refine TabOk.cons (by kernel_rfl) ?_
  refine TabOk.cons (by kernel_rfl) ?_
  refine TabOk.cons (by kernel_rfl) ?_
  refine TabOk.cons (by kernel_rfl) ?_
  refine TabOk.cons (by kernel_rfl) ?_
  refine TabOk.cons (by kernel_rfl) ?_
  refine TabOk.cons (by kernel_rfl) ?_
  refine TabOk.cons (by kernel_rfl) ?_
  refine TabOk.cons (by kernel_rfl) ?_
  refine TabOk.cons (by kernel_rfl) ?_
  refine TabOk.cons (by kernel_rfl) ?_
  refine TabOk.cons (by kernel_rfl) ?_
  exact TabOk.nil _
theorem PGmix : PG.follows .mixedOrders = true := by kernel_rfl
structure PinType where
  Name : ByteArray
  Kind : Int
  Group : Int
structure PartType where
  Name : ByteArray
  Pins : List PinType
structure Part where
  Name : ByteArray
  Type_ : ByteArray
structure Pin where
  Part : ByteArray
  Pin : ByteArray
structure Net where
  Name : ByteArray
  Pins : List Pin
  Ports : List ByteArray
structure Netlist where
  Parts : List Part
  Nets : List Net
def e_PinType (x : PinType) : El := [sC x.Name, iC x.Kind, iC x.Group]
def e_PartType (x : PartType) : El := [sC x.Name, .sl 3 (List.map e_PinType x.Pins)]
def e_Part (x : Part) : El := [sC x.Name, sC x.Type_]
def e_str (x : ByteArray) : El := [sC x]
def e_Pin (x : Pin) : El := [sC x.Part, sC x.Pin]
def kv_Pin (x : Pin) : Value := .agg #[.string x.Part, .string x.Pin]
def dv_bool (x : Bool) : DV := .v (bC x)
def e_Net (x : Net) : El := [sC x.Name, .sl 2 (List.map e_Pin x.Pins), .sl 1 (List.map e_str x.Ports)]
def e_Netlist (x : Netlist) : El := [.sl 2 (List.map e_Part x.Parts), .sl 3 (List.map e_Net x.Nets)]
def dv_i64 (x : Int) : DV := .v (iC x)
def e_sl_Pin (x : List Pin) : El := [.sl 2 (List.map e_Pin x)]
theorem kd_Pin : Maps.Keyed PG 55 := Maps.Keyed.of_law (deep_law_laid (by kernel_rfl) (m := 2) (by omega) (of_decide_eq_true (by kernel_rfl)) (by kernel_rfl) (by kernel_rfl))
theorem kf_Pin (x : Pin) : okKV (kv_Pin x) = true → keys PG 55 (kv_Pin x) := fun h => keys_of (ks := [.s, .s]) (by kernel_rfl) (.cons (kv_s (okKV_all (l := [.string x.Part, .string x.Pin]) h _ (by simp))) (.cons (kv_s (okKV_all (l := [.string x.Part, .string x.Pin]) h _ (by simp))) .nil))
theorem ki_Pin (a b : Pin) (h : kv_Pin a = kv_Pin b) : a = b := by
  cases a; cases b; simp only [kv_Pin, Value.agg.injEq] at h; simpa using h
noncomputable def h_CompareString (a0 : ByteArray) (a1 : ByteArray) : Option (Int) := some (Lib.compareBytes a0.data.toList a1.data.toList)
theorem h_CompareString_ok (a0 : ByteArray) (a1 : ByteArray) (r : Int) (h : h_CompareString a0 a1 = some r) : Spec PG 73 [sT a0, sT a1] [] (iA r) [] := by
  have e := Option.some.inj h
  subst e
  exact Spec.leaf [.string a0, .string a1] _ ⟨Tryz.f73, by kernel_rfl, by kernel_rfl, by kernel_rfl⟩ rfl rfl (fun w => Tryz.bytealg_CompareString a0 a1 w)
noncomputable def h_IndexByte (a0 : ByteArray) (a1 : Int) : Option (Int) := some (Lib.indexByte a0.data.toList a1.toNat.toUInt8)
theorem h_IndexByte_ok (a0 : ByteArray) (a1 : Int) (r : Int) (h : h_IndexByte a0 a1 = some r) : Spec PG 112 [sT a0, .v (.c (.v (.int .u8 a1)))] [] (iA r) [] := by
  have e := Option.some.inj h
  subst e
  exact Spec.leaf [.string a0, .int .u8 a1] _ ⟨Tryz.f112, by kernel_rfl, by kernel_rfl, by kernel_rfl⟩ rfl rfl (fun w => Tryz.strings_IndexByte a0 a1 w)
noncomputable def h_explode (a0 : ByteArray) (a1 : Int) : Option (List ByteArray) := none
theorem h_explode_ok (a0 : ByteArray) (a1 : Int) (r : List ByteArray) (h : h_explode a0 a1 = some r) : Spec PG 130 [sT a0, iT a1] [] (lA 1 (List.map e_str r)) [] := by
  cases h
noncomputable def h_Count (a0 : ByteArray) (a1 : ByteArray) : Option (Int) := (one1 a1).map fun c => (Lib.countByte a0.data.toList c : Int)
theorem h_Count_ok (a0 : ByteArray) (a1 : ByteArray) (r : Int) (h : h_Count a0 a1 = some r) : Spec PG 131 [sT a0, sT a1] [] (iA r) [] := by
  obtain ⟨c, hc, e⟩ := Option.map_eq_some_iff.1 h
  obtain rfl := one1_e hc
  subst e
  exact Spec.leaf [.string a0, .string ⟨#[c]⟩] _ ⟨Tryz.f131, by kernel_rfl, by kernel_rfl, by kernel_rfl⟩ rfl rfl (fun w => Tryz.strings_Count_one a0 c w)
noncomputable def h_Index (a0 : ByteArray) (a1 : ByteArray) : Option (Int) := (one1 a1).map fun c => Lib.indexByte a0.data.toList c
theorem h_Index_ok (a0 : ByteArray) (a1 : ByteArray) (r : Int) (h : h_Index a0 a1 = some r) : Spec PG 132 [sT a0, sT a1] [] (iA r) [] := by
  obtain ⟨c, hc, e⟩ := Option.map_eq_some_iff.1 h
  obtain rfl := one1_e hc
  subst e
  exact Spec.leaf [.string a0, .string ⟨#[c]⟩] _ ⟨Tryz.f132, by kernel_rfl, by kernel_rfl, by kernel_rfl⟩ rfl rfl (fun w => Tryz.strings_Index_one a0 c w)
/-- Pins, sorted. -/
noncomputable def h_SortFunc_Pin (a0 : List Pin) : Option (List Pin) := grd (0 < a0.length) <| some (a0.mergeSort fun p q => decide (¬ plt2 (q.Part, q.Pin) (p.Part, p.Pin)))
theorem h_SortFunc_Pin_ok (a0 r : List Pin) (h : h_SortFunc_Pin a0 = some r) : Spec PG 33 [.v (.rt 0), .v (.c (.fn 34 []))] [(0, .row 55 2 (List.map e_Pin a0))] (.tup []) [(0, .row 55 2 (List.map e_Pin r))] := by
  obtain ⟨h1, h⟩ := grd_e h
  have e := Option.some.inj h
  subst e
  obtain ⟨l', p1, p2, p3⟩ := Spec.sortPins ⟨Tryz.f33, by kernel_rfl, by kernel_rfl, by kernel_rfl⟩ 55 (a0.map fun p => (p.Part, p.Pin)) (by rw [List.length_map]; exact h1)
  have e1 : l' = (a0.mergeSort fun p q => decide (¬ plt2 (q.Part, q.Pin) (p.Part, p.Pin))).map fun p => (p.Part, p.Pin) := by
    refine plt2_uniq (p1.trans ((List.mergeSort_perm _ _).symm.map _)) p2 ?_
    rw [List.pairwise_map]
    refine (List.pairwise_mergeSort (fun a b c h k => ?_) (fun a b => ?_) a0).imp fun h => by simpa using h
    · simp only [decide_eq_true_eq] at h k ⊢
      intro q
      rcases plt2_total (a.Part, a.Pin) (b.Part, b.Pin) with r | r | r
      · exact k (plt2_trans q r)
      · rw [r] at q; exact k q
      · exact h r
    · simp only [Bool.or_eq_true, decide_eq_true_eq]
      rcases plt2_total (a.Part, a.Pin) (b.Part, b.Pin) with r | r | r
      · exact .inl fun q => plt2_irrefl _ (plt2_trans q r)
      · rw [r]; exact .inl (plt2_irrefl _)
      · exact .inr fun q => plt2_irrefl _ (plt2_trans q r)
  subst e1
  rw [List.map_map, List.map_map] at p3
  exact p3
noncomputable def h_Delete_Net (a0 : List Net) (a1 a2 : Int) : Option (List Net) := grd (0 ≤ a1 ∧ a1 < a2 ∧ a2 ≤ (a0.length : Int)) <| some (a0.take a1.toNat ++ a0.drop a2.toNat)
theorem h_Delete_Net_ok (a0 : List Net) (a1 a2 : Int) (r : List Net) (h : h_Delete_Net a0 a1 a2 = some r) : Spec PG 35 [.v (.rt 0), iT a1, iT a2] [(0, .row 53 3 (List.map e_Net a0))] (.t (.v (.rt 1))) [(1, .row 53 3 (List.map e_Net r))] := by
  obtain ⟨h1, h⟩ := grd_e h
  have e := Option.some.inj h
  subst e
  obtain ⟨h2, h3, h4⟩ := h1
  have q := Spec.deleteRow (P := PG) (f := 35) (e := 53) (sz := 3) ⟨Tryz.f35, by kernel_rfl, by kernel_rfl, by kernel_rfl⟩ (fun v n i j cs w p1 p2 p3 p4 => Tryz.Delete_Net v n i j cs w p1 p2 p3 p4) (xs := List.map e_Net a0) (i := a1) (j := a2) h2 h3 (by rw [List.length_map]; exact h4)
  rw [← List.map_take, ← List.map_drop, ← List.map_append] at q
  exact q
noncomputable def h_Insert_Pin (a0 : List Pin) (a1 : Int) (a2 : List Pin) : Option (List Pin) := grd (0 ≤ a1 ∧ a1 ≤ (a0.length : Int) ∧ 0 < a2.length ∧ a0.length + a2.length ≤ lim) <| some (a0.take a1.toNat ++ a2 ++ a0.drop a1.toNat)
theorem h_Insert_Pin_ok (a0 : List Pin) (a1 : Int) (a2 r : List Pin) (h : h_Insert_Pin a0 a1 a2 = some r) : Spec PG 71 [.v (.rt 0), iT a1, .v (.rt 1)] [(0, .row 55 2 (List.map e_Pin a0)), (1, .row 55 2 (List.map e_Pin a2))] (.t (.v (.rt 2))) [(2, .row 55 2 (List.map e_Pin r))] := by
  obtain ⟨h1, h⟩ := grd_e h
  have e := Option.some.inj h
  subst e
  obtain ⟨h2, h3, h4, h5⟩ := h1
  have q := Spec.insertRow (P := PG) (f := 71) (e := 55) (sz := 2) ⟨Tryz.f71, by kernel_rfl, by kernel_rfl, by kernel_rfl⟩ (fun v u n m i cs vs w p1 p2 p3 p4 p5 p6 p7 p8 => Tryz.Insert_Pin v u n m i cs vs w p1 p2 p3 p4 p5 p6 p7 p8) (xs := List.map e_Pin a0) (ys := List.map e_Pin a2) (i := a1) h2 (by rw [List.length_map]; exact h3) (by rw [List.length_map]; exact h4) (by rw [List.length_map, List.length_map]; exact h5)
  rw [← List.map_take, ← List.map_drop, ← List.map_append, ← List.map_append] at q
  exact q
end Go.Proofs.YtlbndchfmdogeaaGreatDoor.Sym
