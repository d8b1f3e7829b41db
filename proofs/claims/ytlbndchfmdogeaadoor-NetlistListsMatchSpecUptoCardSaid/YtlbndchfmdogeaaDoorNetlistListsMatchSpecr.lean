/- NetlistListsMatchSpec: the law answers true at every input that the second form speaks of. Conditions: those of the given row. -/
import Derived.Test.YtlbndchfmdogeaaDoorNetlistListsMatchSpecp
import Derived.Test.YtlbndchfmdogeaaDoorSymy
import Derived.Test.YtlbndchfmdogeaaDoorCards
import Derived.Test.YtlbndchfmdogeaaDoorTie
import Derived.Deep.DeepHandedRow
import Derived.ProofKit
import Derived.OpenShut
set_option linter.unusedVariables false
set_option linter.unusedSimpArgs false
set_option maxHeartbeats 4000000
namespace Go.Proofs.YtlbndchfmdogeaaDoor.netlistListsMatchSpec
open Go Go.RowKit Go.ChangeShapes Go.WideShapes Sym
theorem ex_90 (xs : List C) (h : Shp PG 90 xs) : ∃ x : PinType, xs = e_PinType x := by
  obtain ⟨_, _, rfl, h0, _, _, rfl, h1, _, _, rfl, h2, rfl⟩ := h.st' (ts := [9, 3, 3]) (by kernel_rfl)
  obtain ⟨y0, rfl⟩ := h0.str' (by kernel_rfl)
  obtain ⟨y1, rfl, _⟩ := h1.i64' (by kernel_rfl)
  obtain ⟨y2, rfl, _⟩ := h2.i64' (by kernel_rfl)
  exact ⟨⟨y0, y1, y2⟩, rfl⟩
theorem ex_93 (xs : List C) (h : Shp PG 93 xs) : ∃ x : PartType, xs = e_PartType x := by
  obtain ⟨_, _, rfl, h0, _, _, rfl, h1, rfl⟩ := h.st' (ts := [9, 91]) (by kernel_rfl)
  obtain ⟨y0, rfl⟩ := h0.str' (by kernel_rfl)
  obtain ⟨y1, rfl⟩ := h1.sl' (f := e_PinType) (e := 90) (sz := 3) (by kernel_rfl) (by kernel_rfl) ex_90
  exact ⟨⟨y0, y1⟩, rfl⟩
theorem ex_73 (xs : List C) (h : Shp PG 73 xs) : ∃ x : Part, xs = e_Part x := by
  obtain ⟨_, _, rfl, h0, _, _, rfl, h1, rfl⟩ := h.st' (ts := [9, 9]) (by kernel_rfl)
  obtain ⟨y0, rfl⟩ := h0.str' (by kernel_rfl)
  obtain ⟨y1, rfl⟩ := h1.str' (by kernel_rfl)
  exact ⟨⟨y0, y1⟩, rfl⟩
theorem ex_28 (xs : List C) (h : Shp PG 28 xs) : ∃ x : Pin, xs = e_Pin x := by
  obtain ⟨_, _, rfl, h0, _, _, rfl, h1, rfl⟩ := h.st' (ts := [9, 9]) (by kernel_rfl)
  obtain ⟨y0, rfl⟩ := h0.str' (by kernel_rfl)
  obtain ⟨y1, rfl⟩ := h1.str' (by kernel_rfl)
  exact ⟨⟨y0, y1⟩, rfl⟩
theorem ex_9 (xs : List C) (h : Shp PG 9 xs) : ∃ x : ByteArray, xs = e_str x := by
  obtain ⟨y, rfl⟩ := h.str' (by kernel_rfl)
  exact ⟨y, rfl⟩
theorem ex_64 (xs : List C) (h : Shp PG 64 xs) : ∃ x : Net, xs = e_Net x := by
  obtain ⟨_, _, rfl, h0, _, _, rfl, h1, _, _, rfl, h2, rfl⟩ := h.st' (ts := [9, 33, 55]) (by kernel_rfl)
  obtain ⟨y0, rfl⟩ := h0.str' (by kernel_rfl)
  obtain ⟨y1, rfl⟩ := h1.sl' (f := e_Pin) (e := 28) (sz := 2) (by kernel_rfl) (by kernel_rfl) ex_28
  obtain ⟨y2, rfl⟩ := h2.sl' (f := e_str) (e := 9) (sz := 1) (by kernel_rfl) (by kernel_rfl) ex_9
  exact ⟨⟨y0, y1, y2⟩, rfl⟩
theorem ex_26 (xs : List C) (h : Shp PG 26 xs) : ∃ x : Netlist, xs = e_Netlist x := by
  obtain ⟨_, _, rfl, h0, _, _, rfl, h1, rfl⟩ := h.st' (ts := [23, 24]) (by kernel_rfl)
  obtain ⟨y0, rfl⟩ := h0.sl' (f := e_Part) (e := 73) (sz := 2) (by kernel_rfl) (by kernel_rfl) ex_73
  obtain ⟨y1, rfl⟩ := h1.sl' (f := e_Net) (e := 64) (sz := 3) (by kernel_rfl) (by kernel_rfl) ex_64
  exact ⟨⟨y0, y1⟩, rfl⟩
theorem kids : Kids PG (· < PG.types.size) := kids_rows (by kernel_rfl) (by kernel_rfl)
theorem full : ∀ t e, t < PG.types.size → PG.underlying t = some (.slice e) → 0 < PG.cellsOf e := slices_full_of PG (by kernel_rfl)
theorem own : ownKnob PG.godebug = none := by kernel_rfl
set_option maxRecDepth 100000 in
theorem contract (H : Type) (enc : TypeId × Value → H) (W : World) (base : Nat) (args : Array Value) (ds gs : List (DataW H)) (before : List MemPlace)
    (hval : ∀ (j : Nat) t v, Tryd.f3.params[j]? = some t → args[j]? = some v → Value.okWide PG W .any base t v)
    (hW : DataW.Whole enc PG Tryd.f3.params.toList Rows.netlistListsMatchSpecSpec.vars false W args.toList ds gs before) (hk : Rows.uptoSmall H (ds ++ gs) = true) :
    Calls PG 3 args W fun e W' => ∃ v, e = .returned v ∧ Rows.netlistListsMatchSpecSpec.post enc PG Tryd.f3 false true false false W args v W' := by
  have hW' := hW
  obtain ⟨p, q, hA0, hV, rfl, hfz, hnd⟩ := hW
  have hA : DataW.TrodAll enc PG W 0 (fun _ => true) true Tryd.f3.params.toList args.toList ds p := hA0
  rw [Tryd.params3] at hA hval
  obtain ⟨v0, vs0, d0, ds0, p0, q0, hargs, rfl, rfl, h0, r0⟩ := trodAll_cons hA
  obtain ⟨v1, vs1, d1, ds1, p1, q1, rfl, rfl, rfl, h1, r1⟩ := trodAll_cons r0
  obtain ⟨v2, vs2, d2, ds2, p2, q2, rfl, rfl, rfl, h2, r2⟩ := trodAll_cons r1
  obtain ⟨rfl, rfl, rfl⟩ := trodAll_nil r2
  obtain rfl : args = #[v0, v1, v2] := by cases args; simp_all
  obtain ⟨rfl, rfl⟩ := trodVars_none hV
  clear hA0
  simp only [List.append_nil] at hk
  have hb : Rows.uptoBulkAll [d0, d1, d2] ≤ 1048576 := of_decide_eq_true hk
  simp only [Rows.uptoBulkAll] at hb
  have hlim : lim = 1099511627776 := rfl
  obtain ⟨y0, t0, b0⟩ := rd_slice (ι := fun _ => undef) kids (f := e_PartType) (sz := 2) (hval 0 22 v0 rfl rfl) h0 (by kernel_rfl) (by kernel_rfl) ex_93 8 (by kernel_rfl) (of_decide_eq_true (by kernel_rfl)) (by omega)
  obtain ⟨y1, t1, b1⟩ := rd_struct (ι := fun _ => undef) kids (f := e_Netlist) (hval 1 26 v1 rfl rfl) h1 (fs := (match PG.underlying 26 with | some (.struct fs) => fs | _ => #[])) (by kernel_rfl) ex_26 8 (by kernel_rfl) (of_decide_eq_true (by kernel_rfl)) (by omega)
  obtain ⟨y2, t2, b2⟩ := rd_struct (ι := fun _ => undef) kids (f := e_Pin) (hval 2 28 v2 rfl rfl) h2 (fs := (match PG.underlying 28 with | some (.struct fs) => fs | _ => #[])) (by kernel_rfl) ex_28 8 (by kernel_rfl) (of_decide_eq_true (by kernel_rfl)) (by omega)
  have hT := NetlistListsMatchSpec_true y0 y1 y2  (show (cBss (List.map e_PartType y0) + 1) + cBs (e_Netlist y1) + cBs (e_Pin y2) ≤ 1048576 by omega)
  exact row_true kids full (by rw [Tryd.params3]; decide) (tb := 4) rfl (by kernel_rfl) rfl rfl hW' (.cons t0 (.cons t1 (.cons t2 .nil))) (law_NetlistListsMatchSpec_ok y0 y1 y2 true hT)
noncomputable def laidWorld (os : Os) : World := { World.holding PG os ⟨#[], #[], []⟩ with heap := (((World.holding PG os ⟨#[], #[], []⟩).heap.modify 1 fun
      | .cells _ t frozen => .cells ((Go.Pinned.utf8FirstZ.map fun (n : Nat) => Value.int .u8 (Int.ofNat n)).toArray) t frozen
      | o => o).modify 2 fun
      | .cells _ t frozen => .cells (#[.int .u8 128, .int .u8 191, .int .u8 160, .int .u8 191, .int .u8 128, .int .u8 159, .int .u8 144, .int .u8 191, .int .u8 128, .int .u8 143, .int .u8 0, .int .u8 0, .int .u8 0, .int .u8 0, .int .u8 0, .int .u8 0, .int .u8 0, .int .u8 0, .int .u8 0, .int .u8 0, .int .u8 0, .int .u8 0, .int .u8 0, .int .u8 0, .int .u8 0, .int .u8 0, .int .u8 0, .int .u8 0, .int .u8 0, .int .u8 0, .int .u8 0, .int .u8 0]) t frozen
      | o => o) }
theorem laid_met (os : Os) : laidMet PG Rows.netlistListsMatchSpecUptoRow.laid ((laidWorld os).forCall (fun _ _ => 0) ⟨#[], #[.slice none 0 0, .agg #[.slice none 0 0, .slice none 0 0], .agg #[.string .empty, .string .empty]], []⟩).memory :=
  laidMet_of_run' 8 (by kernel_rfl) (by kernel_rfl)
theorem reads0 (os : Os) {H : Type} (enc : TypeId × Value → H) : ∃ places, DataW.whole enc PG ((laidWorld os).forCall (fun _ _ => 0) ⟨#[], #[.slice none 0 0, .agg #[.slice none 0 0, .slice none 0 0], .agg #[.string .empty, .string .empty]], []⟩).memory Tryd.f3.params.toList Rows.netlistListsMatchSpecSpec.vars false (#[.slice none 0 0, .agg #[.slice none 0 0, .slice none 0 0], .agg #[.string .empty, .string .empty]] : Array Value).toList 8 = some ([.nil, .agg [.nil, .nil], .agg [.lit (.string []), .lit (.string [])]], [], places) :=
  ⟨[], by kernel_rfl⟩
theorem wit1 (os : Os) : ((laidWorld os).forCall (fun _ _ => 0) ⟨#[], #[.slice none 0 0, .agg #[.slice none 0 0, .slice none 0 0], .agg #[.string .empty, .string .empty]], []⟩).variablesB PG = true := by kernel_rfl
theorem wit2 (os : Os) : (((laidWorld os).forCall (fun _ _ => 0) ⟨#[], #[.slice none 0 0, .agg #[.slice none 0 0, .slice none 0 0], .agg #[.string .empty, .string .empty]], []⟩).heap.toList.drop PG.globals.size).take ((begin PG (fun _ _ => 0) default).world.heap.size - PG.globals.size) = (begin PG (fun _ _ => 0) default).world.heap.toList.drop PG.globals.size := by kernel_rfl
theorem wit3 (os : Os) : Input.okWideB PG ((laidWorld os).forCall (fun _ _ => 0) ⟨#[], #[.slice none 0 0, .agg #[.slice none 0 0, .slice none 0 0], .agg #[.string .empty, .string .empty]], []⟩) 3 ⟨#[], #[.slice none 0 0, .agg #[.slice none 0 0, .slice none 0 0], .agg #[.string .empty, .string .empty]], []⟩ = true := by kernel_rfl
theorem wit4 (os : Os) {H : Type} (enc : TypeId × Value → H) : (Rows.OpenSpec.upto Rows.netlistListsMatchSpecSpec).preRow enc PG Tryd.f3 Rows.netlistListsMatchSpecUptoRow.domain false Rows.netlistListsMatchSpecUptoRow.laid ((laidWorld os).forCall (fun _ _ => 0) ⟨#[], #[.slice none 0 0, .agg #[.slice none 0 0, .slice none 0 0], .agg #[.string .empty, .string .empty]], []⟩).memory #[.slice none 0 0, .agg #[.slice none 0 0, .slice none 0 0], .agg #[.string .empty, .string .empty]] := by
  obtain ⟨places, hx⟩ := reads0 os enc
  exact OpenSpec.preRow_of_cond 8 hx (by kernel_rfl) (fun k hk => by cases hk; kernel_rfl) (by kernel_rfl) (laid_met os)
set_option maxRecDepth 100000 in
theorem lifted (os : Os) (started : os.Started) (H : Type) (enc : TypeId × Value → H) (F : Stop.Interp) :
    ReturnsInHanded {} Tryd.checked os 3 .any ((Rows.OpenSpec.upto Rows.netlistListsMatchSpecSpec).preRow enc PG Tryd.f3 Rows.netlistListsMatchSpecUptoRow.domain false Rows.netlistListsMatchSpecUptoRow.laid) (((Rows.OpenSpec.upto Rows.netlistListsMatchSpecSpec).at F).post enc PG Tryd.f3 false true false false) := by
  refine returnsInHanded_of_row (C := Tryd.checked) (s := Rows.OpenSpec.upto Rows.netlistListsMatchSpecSpec) own started (by kernel_rfl) Tryd.func3
    (witness_row_at (enc := enc) (C := Tryd.checked) false (laidWorld os) #[.slice none 0 0, .agg #[.slice none 0 0, .slice none 0 0], .agg #[.string .empty, .string .empty]] rfl (wit1 os) (wit2 os) (wit3 os) (wit4 os enc)) ?_
  intro W base args ds gs before hval hW _ hcond _ hL _ _
  exact contract H enc W base args ds gs before hval hW (hcond _ rfl)
theorem said : Rows.NetlistListsMatchSpecUptoSaid :=
  OpenClaim.holds_of_cond 3 Tryd.f3 rfl rfl rfl rfl rfl rfl rfl ⟨rfl, rfl, rfl, rfl, rfl⟩ rfl rfl rfl rfl rfl (by kernel_rfl) Tryd.func3 (by kernel_rfl)
    (of_decide_eq_true (by kernel_rfl)) (by unfold Func.isWrapper; first | (rw [if_pos (by decide +kernel)]; kernel_rfl) | (rw [if_neg (by decide +kernel)]; exact ⟨rfl, rfl⟩))
    (fun os started H enc _ F => by rw [OpenClaim.pre_eq_preRow]; exact lifted os started H enc F)
theorem plain (f : FuncId) (fn : Func) (hf : Tryd.pinned.checked.prog.funcNamed "etchhouse/etchhouselaw2.NetlistListsMatchSpec" = some f) (hfn : Tryd.pinned.checked.prog.funcs[f]? = some fn) :
    false = Tryd.pinned.checked.prog.looks [] ∧ ∀ (j : Nat) t, fn.params[j]? = some t → Tryd.pinned.checked.prog.wantsStandIn t = false := by
  obtain rfl : f = 3 := Option.some.inj ((show PG.funcNamed "etchhouse/etchhouselaw2.NetlistListsMatchSpec" = some 3 by kernel_rfl).symm.trans hf) |>.symm
  obtain rfl : fn = Tryd.f3 := (Option.some.inj (Tryd.func3.symm.trans hfn)).symm
  refine ⟨by kernel_rfl, fun j t ht => ?_⟩
  rw [Tryd.params3] at ht
  have hm : t ∈ [22, 26, 28] := by simpa using Array.mem_of_getElem? ht
  simp only [List.mem_cons, List.not_mem_nil, or_false, or_self] at hm
  rcases hm with rfl | rfl | rfl
  · exact (show PG.wantsStandIn 22 = false by kernel_rfl)
  · exact (show PG.wantsStandIn 26 = false by kernel_rfl)
  · exact (show PG.wantsStandIn 28 = false by kernel_rfl)
theorem card : Rows.NetlistListsMatchSpecUptoCardSaid :=
  Claim7.holds_tied_plain_at .later [] _ _ _ _ said (fun _ h => by cases h) (by kernel_rfl) (fun _ h => by cases h) netlistListsMatchSpecUpto_row_tie rfl ⟨rfl, rfl⟩ (by kernel_rfl) rfl plain (by kernel_rfl)
end Go.Proofs.YtlbndchfmdogeaaDoor.netlistListsMatchSpec
