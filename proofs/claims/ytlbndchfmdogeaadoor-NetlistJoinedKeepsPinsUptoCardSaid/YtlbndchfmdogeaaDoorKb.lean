/- Printed by gen2.py: the types, their encodings, keys, and contracts of the library. Conditions: none. -/
import Derived.Test.YtlbndchfmdogeaaDoorSymw
import Derived.Test.YtlbndchfmdogeaaDoorProg
import Derived.DeepKeys4
import Derived.Test.YtlbndchfmdogeaaDoorShelf
import Derived.Test.YtlbndchfmdogeaaDoorSymee
import Derived.Test.YtlbndchfmdogeaaDoorShele
import Derived.Test.YtlbndchfmdogeaaDoorSymdd
import Derived.Test.YtlbndchfmdogeaaDoorSheld
import Derived.Test.YtlbndchfmdogeaaDoorShelc
set_option linter.unusedVariables false
set_option maxHeartbeats 4000000
namespace Go.Proofs.YtlbndchfmdogeaaDoor.Sym
open Go Go.RowKit
noncomputable abbrev PG : Program := Go.Proofs.Tryd.prog
def XT : Tab := [
  (3, ⟨.int .i64, 1, 8, [.int .i64]⟩),
  (4, ⟨.bool, 1, 1, [.bool]⟩),
  (5, ⟨.int .u8, 1, 1, [.int .u8]⟩),
  (9, ⟨.str, 1, 16, [.str]⟩),
  (22, ⟨.slice 93, 1, 24, [.nil]⟩),
  (23, ⟨.slice 73, 1, 24, [.nil]⟩),
  (24, ⟨.slice 64, 1, 24, [.nil]⟩),
  (26, ⟨.struct [(0, 1), (1, 1)], 2, 48, [.nil, .nil]⟩),
  (28, ⟨.struct [(0, 1), (1, 1)], 2, 32, [.str, .str]⟩),
  (29, ⟨.int .i64, 1, 8, [.int .i64]⟩),
  (33, ⟨.slice 28, 1, 24, [.nil]⟩),
  (47, ⟨.other, 1, 8, [.nilf]⟩),
  (55, ⟨.slice 9, 1, 24, [.nil]⟩),
  (64, ⟨.struct [(0, 1), (1, 1), (2, 1)], 3, 64, [.str, .nil, .nil]⟩),
  (73, ⟨.struct [(0, 1), (1, 1)], 2, 32, [.str, .str]⟩),
  (80, ⟨.map 28 3, 1, 8, [.nilm]⟩),
  (85, ⟨.map 28 4, 1, 8, [.nilm]⟩),
  (87, ⟨.other, 1, 8, [.nilf]⟩),
  (90, ⟨.struct [(0, 1), (1, 1), (2, 1)], 3, 32, [.str, .int .i64, .int .i64]⟩),
  (91, ⟨.slice 90, 1, 24, [.nil]⟩),
  (93, ⟨.struct [(0, 1), (1, 1)], 2, 40, [.str, .nil]⟩),
  (96, ⟨.other, 1, 8, [.nilf]⟩),
  (151, ⟨.int .u64, 1, 8, [.int .u64]⟩),
  (154, ⟨.other, 1, 8, [.nilf]⟩),
  (165, ⟨.other, 1, 8, [.nilf]⟩),
  (167, ⟨.other, 1, 8, [.nilf]⟩),
  (183, ⟨.other, 1, 8, [.nilf]⟩),
  (204, ⟨.other, 1, 8, [.nilf]⟩)]
theorem XTok : TabOk PG XT := by
  unfold XT
  refine TabOk.cons (by kernel_rfl) ?_
  refine TabOk.cons (by kernel_rfl) ?_
  refine TabOk.cons (by kernel_rfl) ?_
  refine TabOk.cons (by kernel_rfl) ?_
  refine TabOk.cons (by kernel_rfl) ?_
  refine TabOk.cons (by kernel_rfl) ?_
  refine TabOk.cons (by kernel_rfl) ?_
  refine TabOk.cons (by kernel_rfl) ?_
  refine TabOk.cons (by kernel_rfl) ?_
  refine TabOk.cons (by kernel_rfl) ?_
  refine TabOk.cons (by kernel_rfl) ?_
  refine TabOk.cons (by kernel_rfl) ?_
  refine TabOk.cons (by kernel_rfl) ?_
  refine TabOk.cons (by kernel_rfl) ?_
  refine TabOk.cons (by kernel_rfl) ?_
  refine TabOk.cons (by kernel_rfl) ?_
  refine TabOk.cons (by kernel_rfl) ?_
  refine TabOk.cons (by kernel_rfl) ?_
  refine TabOk.cons (by kernel_rfl) ?_
  refine TabOk.cons (by kernel_rfl) ?_
  refine TabOk.cons (by kernel_rfl) ?_
  refine TabOk.cons (by kernel_rfl) ?_
  refine TabOk.cons (by kernel_rfl) ?_
  refine TabOk.cons (by kernel_rfl) ?_
  refine TabOk.cons (by kernel_rfl) ?_
  refine TabOk.cons (by kernel_rfl) ?_
  refine TabOk.cons (by kernel_rfl) ?_
  refine TabOk.cons (by kernel_rfl) ?_
  exact TabOk.nil _
theorem PGmix : PG.follows .mixedOrders = true := by kernel_rfl
structure PinType where
  Name : ByteArray
  Kind : Int
  Group : Int
structure PartType where
  Name : ByteArray
  Pins : List PinType
structure Part where
  Name : ByteArray
  Type_ : ByteArray
structure Pin where
  Part : ByteArray
  Pin : ByteArray
structure Net where
  Name : ByteArray
  Pins : List Pin
  Ports : List ByteArray
structure Netlist where
  Parts : List Part
  Nets : List Net
def e_PinType (x : PinType) : El := [sC x.Name, iC x.Kind, iC x.Group]
def e_PartType (x : PartType) : El := [sC x.Name, .sl 3 (List.map e_PinType x.Pins)]
def e_Part (x : Part) : El := [sC x.Name, sC x.Type_]
def e_Pin (x : Pin) : El := [sC x.Part, sC x.Pin]
def e_str (x : ByteArray) : El := [sC x]
def e_Net (x : Net) : El := [sC x.Name, .sl 2 (List.map e_Pin x.Pins), .sl 1 (List.map e_str x.Ports)]
def e_Netlist (x : Netlist) : El := [.sl 2 (List.map e_Part x.Parts), .sl 3 (List.map e_Net x.Nets)]
def kv_Pin (x : Pin) : Value := .agg #[.string x.Part, .string x.Pin]
def dv_bool (x : Bool) : DV := .v (bC x)
def dv_i64 (x : Int) : DV := .v (iC x)
theorem kd_Pin : Maps.Keyed PG 28 := Maps.Keyed.of_law (deep_law_laid (by kernel_rfl) (m := 2) (by omega) (of_decide_eq_true (by kernel_rfl)) (by kernel_rfl) (by kernel_rfl))
theorem kf_Pin (x : Pin) : okKV (kv_Pin x) = true → keys PG 28 (kv_Pin x) := fun h => keys_of (ks := [.s, .s]) (by kernel_rfl) (.cons (kv_s (okKV_all (l := [.string x.Part, .string x.Pin]) h _ (by simp))) (.cons (kv_s (okKV_all (l := [.string x.Part, .string x.Pin]) h _ (by simp))) .nil))
theorem ki_Pin (a b : Pin) (h : kv_Pin a = kv_Pin b) : a = b := by
  cases a; cases b; simp only [kv_Pin, Value.agg.injEq] at h; simpa using h
noncomputable def h_IndexByte (a0 : ByteArray) (a1 : Int) : Option (Int) := some (Lib.indexByte a0.data.toList a1.toNat.toUInt8)
theorem h_IndexByte_ok (a0 : ByteArray) (a1 : Int) (r : Int) (h : h_IndexByte a0 a1 = some r) : Spec PG 157 [sT a0, .v (.c (.v (.int .u8 a1)))] [] (iA r) [] := by
  have e := Option.some.inj h
  subst e
  exact Spec.leaf [.string a0, .int .u8 a1] _ ⟨Tryd.f157, by kernel_rfl, by kernel_rfl, by kernel_rfl⟩ rfl rfl (fun w => Tryd.strings_IndexByte a0 a1 w)
noncomputable def h_CompareString (a0 : ByteArray) (a1 : ByteArray) : Option (Int) := some (Lib.compareBytes a0.data.toList a1.data.toList)
theorem h_CompareString_ok (a0 : ByteArray) (a1 : ByteArray) (r : Int) (h : h_CompareString a0 a1 = some r) : Spec PG 163 [sT a0, sT a1] [] (iA r) [] := by
  have e := Option.some.inj h
  subst e
  exact Spec.leaf [.string a0, .string a1] _ ⟨Tryd.f163, by kernel_rfl, by kernel_rfl, by kernel_rfl⟩ rfl rfl (fun w => Tryd.bytealg_CompareString a0 a1 w)
noncomputable def h_explode (a0 : ByteArray) (a1 : Int) : Option (List ByteArray) := none
theorem h_explode_ok (a0 : ByteArray) (a1 : Int) (r : List ByteArray) (h : h_explode a0 a1 = some r) : Spec PG 166 [sT a0, iT a1] [] (lA 1 (List.map e_str r)) [] := by
  cases h
noncomputable def h_Count (a0 : ByteArray) (a1 : ByteArray) : Option (Int) := (one1 a1).map fun c => (Lib.countByte a0.data.toList c : Int)
theorem h_Count_ok (a0 : ByteArray) (a1 : ByteArray) (r : Int) (h : h_Count a0 a1 = some r) : Spec PG 167 [sT a0, sT a1] [] (iA r) [] := by
  obtain ⟨c, hc, e⟩ := Option.map_eq_some_iff.1 h
  obtain rfl := one1_e hc
  subst e
  exact Spec.leaf [.string a0, .string ⟨#[c]⟩] _ ⟨Tryd.f167, by kernel_rfl, by kernel_rfl, by kernel_rfl⟩ rfl rfl (fun w => Tryd.strings_Count_one a0 c w)
noncomputable def h_Index (a0 : ByteArray) (a1 : ByteArray) : Option (Int) := (one1 a1).map fun c => Lib.indexByte a0.data.toList c
theorem h_Index_ok (a0 : ByteArray) (a1 : ByteArray) (r : Int) (h : h_Index a0 a1 = some r) : Spec PG 168 [sT a0, sT a1] [] (iA r) [] := by
  obtain ⟨c, hc, e⟩ := Option.map_eq_some_iff.1 h
  obtain rfl := one1_e hc
  subst e
  exact Spec.leaf [.string a0, .string ⟨#[c]⟩] _ ⟨Tryd.f168, by kernel_rfl, by kernel_rfl, by kernel_rfl⟩ rfl rfl (fun w => Tryd.strings_Index_one a0 c w)
/-- Pins, sorted. -/
noncomputable def h_SortFunc_Pin (a0 : List Pin) : Option (List Pin) := grd (0 < a0.length) <| some (a0.mergeSort fun p q => decide (¬ plt2 (q.Part, q.Pin) (p.Part, p.Pin)))
theorem h_SortFunc_Pin_ok (a0 r : List Pin) (h : h_SortFunc_Pin a0 = some r) : Spec PG 104 [.v (.rt 0), .v (.c (.fn 105 []))] [(0, .row 28 2 (List.map e_Pin a0))] (.tup []) [(0, .row 28 2 (List.map e_Pin r))] := by
  obtain ⟨h1, h⟩ := grd_e h
  have e := Option.some.inj h
  subst e
  obtain ⟨l', p1, p2, p3⟩ := Spec.sortPins ⟨Tryd.f104, by kernel_rfl, by kernel_rfl, by kernel_rfl⟩ 28 (a0.map fun p => (p.Part, p.Pin)) (by rw [List.length_map]; exact h1)
  have e1 : l' = (a0.mergeSort fun p q => decide (¬ plt2 (q.Part, q.Pin) (p.Part, p.Pin))).map fun p => (p.Part, p.Pin) := by
    refine plt2_uniq (p1.trans ((List.mergeSort_perm _ _).symm.map _)) p2 ?_
    rw [List.pairwise_map]
    refine (List.pairwise_mergeSort (fun a b c h k => ?_) (fun a b => ?_) a0).imp fun h => by simpa using h
    · simp only [decide_eq_true_eq] at h k ⊢
      intro q
      rcases plt2_total (a.Part, a.Pin) (b.Part, b.Pin) with r | r | r
      · exact k (plt2_trans q r)
      · rw [r] at q; exact k q
      · exact h r
    · simp only [Bool.or_eq_true, decide_eq_true_eq]
      rcases plt2_total (a.Part, a.Pin) (b.Part, b.Pin) with r | r | r
      · exact .inl fun q => plt2_irrefl _ (plt2_trans q r)
      · rw [r]; exact .inl (plt2_irrefl _)
      · exact .inr fun q => plt2_irrefl _ (plt2_trans q r)
  subst e1
  rw [List.map_map, List.map_map] at p3
  exact p3
noncomputable def h_Delete_Net (a0 : List Net) (a1 a2 : Int) : Option (List Net) := grd (0 ≤ a1 ∧ a1 < a2 ∧ a2 ≤ (a0.length : Int)) <| some (a0.take a1.toNat ++ a0.drop a2.toNat)
theorem h_Delete_Net_ok (a0 : List Net) (a1 a2 : Int) (r : List Net) (h : h_Delete_Net a0 a1 a2 = some r) : Spec PG 106 [.v (.rt 0), iT a1, iT a2] [(0, .row 64 3 (List.map e_Net a0))] (.t (.v (.rt 1))) [(1, .row 64 3 (List.map e_Net r))] := by
  obtain ⟨h1, h⟩ := grd_e h
  have e := Option.some.inj h
  subst e
  obtain ⟨h2, h3, h4⟩ := h1
  have q := Spec.deleteRow (P := PG) (f := 106) (e := 64) (sz := 3) ⟨Tryd.f106, by kernel_rfl, by kernel_rfl, by kernel_rfl⟩ (fun v n i j cs w p1 p2 p3 p4 => Tryd.Delete_Net v n i j cs w p1 p2 p3 p4) (xs := List.map e_Net a0) (i := a1) (j := a2) h2 h3 (by rw [List.length_map]; exact h4)
  rw [← List.map_take, ← List.map_drop, ← List.map_append] at q
  exact q
noncomputable def h_Insert_Pin (a0 : List Pin) (a1 : Int) (a2 : List Pin) : Option (List Pin) := grd (0 ≤ a1 ∧ a1 ≤ (a0.length : Int) ∧ 0 < a2.length ∧ a0.length + a2.length ≤ lim) <| some (a0.take a1.toNat ++ a2 ++ a0.drop a1.toNat)
theorem h_Insert_Pin_ok (a0 : List Pin) (a1 : Int) (a2 r : List Pin) (h : h_Insert_Pin a0 a1 a2 = some r) : Spec PG 155 [.v (.rt 0), iT a1, .v (.rt 1)] [(0, .row 28 2 (List.map e_Pin a0)), (1, .row 28 2 (List.map e_Pin a2))] (.t (.v (.rt 2))) [(2, .row 28 2 (List.map e_Pin r))] := by
  obtain ⟨h1, h⟩ := grd_e h
  have e := Option.some.inj h
  subst e
  obtain ⟨h2, h3, h4, h5⟩ := h1
  have q := Spec.insertRow (P := PG) (f := 155) (e := 28) (sz := 2) ⟨Tryd.f155, by kernel_rfl, by kernel_rfl, by kernel_rfl⟩ (fun v u n m i cs vs w p1 p2 p3 p4 p5 p6 p7 p8 => Tryd.Insert_Pin v u n m i cs vs w p1 p2 p3 p4 p5 p6 p7 p8) (xs := List.map e_Pin a0) (ys := List.map e_Pin a2) (i := a1) h2 (by rw [List.length_map]; exact h3) (by rw [List.length_map]; exact h4) (by rw [List.length_map, List.length_map]; exact h5)
  rw [← List.map_take, ← List.map_drop, ← List.map_append, ← List.map_append] at q
  exact q
end Go.Proofs.YtlbndchfmdogeaaDoor.Sym
