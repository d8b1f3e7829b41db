/- NetlistJoinedMatchesSpec: the law answers true at every input that the second form speaks of. Conditions: those of the given row. -/
import Derived.Test.YtlbndchfmdogeaaGreatDoorNetlistJoinedMatchesSpecp
import Derived.Test.YtlbndchfmdogeaaGreatDoorSymy
import Derived.Test.YtlbndchfmdogeaaGreatDoorCards
import Derived.Test.YtlbndchfmdogeaaGreatDoorTie
import Derived.Deep.DeepHandedRow
import Derived.ProofKit
import Derived.OpenShut
set_option linter.unusedVariables false
set_option linter.unusedSimpArgs false
set_option maxHeartbeats 4000000
namespace Go.Proofs.YtlbndchfmdogeaaGreatDoor.netlistJoinedMatchesSpec
open Go Go.RowKit Go.ChangeShapes Go.WideShapes Sym
theorem ex_70 (xs : List C) (h : Shp PG 70 xs) : ∃ x : PinType, xs = e_PinType x := by
  obtain ⟨_, _, rfl, h0, _, _, rfl, h1, _, _, rfl, h2, rfl⟩ := h.st' (ts := [9, 3, 3]) (by kernel_rfl)
  obtain ⟨y0, rfl⟩ := h0.str' (by kernel_rfl)
  obtain ⟨y1, rfl, _⟩ := h1.i64' (by kernel_rfl)
  obtain ⟨y2, rfl, _⟩ := h2.i64' (by kernel_rfl)
  exact ⟨⟨y0, y1, y2⟩, rfl⟩
theorem ex_59 (xs : List C) (h : Shp PG 59 xs) : ∃ x : PartType, xs = e_PartType x := by
  obtain ⟨_, _, rfl, h0, _, _, rfl, h1, rfl⟩ := h.st' (ts := [9, 57]) (by kernel_rfl)
  obtain ⟨y0, rfl⟩ := h0.str' (by kernel_rfl)
  obtain ⟨y1, rfl⟩ := h1.sl' (f := e_PinType) (e := 70) (sz := 3) (by kernel_rfl) (by kernel_rfl) ex_70
  exact ⟨⟨y0, y1⟩, rfl⟩
theorem ex_43 (xs : List C) (h : Shp PG 43 xs) : ∃ x : Part, xs = e_Part x := by
  obtain ⟨_, _, rfl, h0, _, _, rfl, h1, rfl⟩ := h.st' (ts := [9, 9]) (by kernel_rfl)
  obtain ⟨y0, rfl⟩ := h0.str' (by kernel_rfl)
  obtain ⟨y1, rfl⟩ := h1.str' (by kernel_rfl)
  exact ⟨⟨y0, y1⟩, rfl⟩
theorem ex_55 (xs : List C) (h : Shp PG 55 xs) : ∃ x : Pin, xs = e_Pin x := by
  obtain ⟨_, _, rfl, h0, _, _, rfl, h1, rfl⟩ := h.st' (ts := [9, 9]) (by kernel_rfl)
  obtain ⟨y0, rfl⟩ := h0.str' (by kernel_rfl)
  obtain ⟨y1, rfl⟩ := h1.str' (by kernel_rfl)
  exact ⟨⟨y0, y1⟩, rfl⟩
theorem ex_9 (xs : List C) (h : Shp PG 9 xs) : ∃ x : ByteArray, xs = e_str x := by
  obtain ⟨y, rfl⟩ := h.str' (by kernel_rfl)
  exact ⟨y, rfl⟩
theorem ex_53 (xs : List C) (h : Shp PG 53 xs) : ∃ x : Net, xs = e_Net x := by
  obtain ⟨_, _, rfl, h0, _, _, rfl, h1, _, _, rfl, h2, rfl⟩ := h.st' (ts := [9, 50, 51]) (by kernel_rfl)
  obtain ⟨y0, rfl⟩ := h0.str' (by kernel_rfl)
  obtain ⟨y1, rfl⟩ := h1.sl' (f := e_Pin) (e := 55) (sz := 2) (by kernel_rfl) (by kernel_rfl) ex_55
  obtain ⟨y2, rfl⟩ := h2.sl' (f := e_str) (e := 9) (sz := 1) (by kernel_rfl) (by kernel_rfl) ex_9
  exact ⟨⟨y0, y1, y2⟩, rfl⟩
theorem ex_26 (xs : List C) (h : Shp PG 26 xs) : ∃ x : Netlist, xs = e_Netlist x := by
  obtain ⟨_, _, rfl, h0, _, _, rfl, h1, rfl⟩ := h.st' (ts := [23, 24]) (by kernel_rfl)
  obtain ⟨y0, rfl⟩ := h0.sl' (f := e_Part) (e := 43) (sz := 2) (by kernel_rfl) (by kernel_rfl) ex_43
  obtain ⟨y1, rfl⟩ := h1.sl' (f := e_Net) (e := 53) (sz := 3) (by kernel_rfl) (by kernel_rfl) ex_53
  exact ⟨⟨y0, y1⟩, rfl⟩
theorem kids : Kids PG (· < PG.types.size) := kids_rows (by kernel_rfl) (by kernel_rfl)
theorem full : ∀ t e, t < PG.types.size → PG.underlying t = some (.slice e) → 0 < PG.cellsOf e := slices_full_of PG (by kernel_rfl)
theorem own : ownKnob PG.godebug = none := by kernel_rfl
set_option maxRecDepth 100000 in
theorem contract (H : Type) (enc : TypeId × Value → H) (W : World) (base : Nat) (args : Array Value) (ds gs : List (DataW H)) (before : List MemPlace)
    (hval : ∀ (j : Nat) t v, Tryz.f4.params[j]? = some t → args[j]? = some v → Value.okWide PG W .any base t v)
    (hW : DataW.Whole enc PG Tryz.f4.params.toList Rows.netlistJoinedMatchesSpecSpec.vars false W args.toList ds gs before) (hk : Rows.uptoSmall H (ds ++ gs) = true) :
    Calls PG 4 args W fun e W' => ∃ v, e = .returned v ∧ Rows.netlistJoinedMatchesSpecSpec.post enc PG Tryz.f4 false true false false W args v W' := by
  have hW' := hW
  obtain ⟨p, q, hA0, hV, rfl, hfz, hnd⟩ := hW
  have hA : DataW.TrodAll enc PG W 0 (fun _ => true) true Tryz.f4.params.toList args.toList ds p := hA0
  rw [Tryz.params4] at hA hval
  obtain ⟨v0, vs0, d0, ds0, p0, q0, hargs, rfl, rfl, h0, r0⟩ := trodAll_cons hA
  obtain ⟨v1, vs1, d1, ds1, p1, q1, rfl, rfl, rfl, h1, r1⟩ := trodAll_cons r0
  obtain ⟨v2, vs2, d2, ds2, p2, q2, rfl, rfl, rfl, h2, r2⟩ := trodAll_cons r1
  obtain ⟨v3, vs3, d3, ds3, p3, q3, rfl, rfl, rfl, h3, r3⟩ := trodAll_cons r2
  obtain ⟨rfl, rfl, rfl⟩ := trodAll_nil r3
  obtain rfl : args = #[v0, v1, v2, v3] := by cases args; simp_all
  obtain ⟨rfl, rfl⟩ := trodVars_none hV
  clear hA0
  simp only [List.append_nil] at hk
  have hb : Rows.uptoBulkAll [d0, d1, d2, d3] ≤ 1048576 := of_decide_eq_true hk
  simp only [Rows.uptoBulkAll] at hb
  have hlim : lim = 1099511627776 := rfl
  obtain ⟨y0, t0, b0⟩ := rd_slice (ι := fun _ => undef) kids (f := e_PartType) (sz := 2) (hval 0 22 v0 rfl rfl) h0 (by kernel_rfl) (by kernel_rfl) ex_59 8 (by kernel_rfl) (of_decide_eq_true (by kernel_rfl)) (by omega)
  obtain ⟨y1, t1, b1⟩ := rd_struct (ι := fun _ => undef) kids (f := e_Netlist) (hval 1 26 v1 rfl rfl) h1 (fs := (match PG.underlying 26 with | some (.struct fs) => fs | _ => #[])) (by kernel_rfl) ex_26 8 (by kernel_rfl) (of_decide_eq_true (by kernel_rfl)) (by omega)
  obtain ⟨y2, t2, b2⟩ := rd_string (ι := fun _ => undef) kids (hval 2 9 v2 rfl rfl) h2 (by kernel_rfl) 8 (by kernel_rfl) (of_decide_eq_true (by kernel_rfl)) (by omega)
  obtain ⟨y3, t3, b3⟩ := rd_string (ι := fun _ => undef) kids (hval 3 9 v3 rfl rfl) h3 (by kernel_rfl) 8 (by kernel_rfl) (of_decide_eq_true (by kernel_rfl)) (by omega)
  have hT := NetlistJoinedMatchesSpec_true y0 y1 y2 y3  (show (cBss (List.map e_PartType y0) + 1) + cBs (e_Netlist y1) + (y2.size + 1) + (y3.size + 1) ≤ 1048576 by omega)
  exact row_true kids full (by rw [Tryz.params4]; decide) (tb := 4) rfl (by kernel_rfl) rfl rfl hW' (.cons t0 (.cons t1 (.cons t2 (.cons t3 .nil)))) (law_NetlistJoinedMatchesSpec_ok y0 y1 y2 y3 true hT)
noncomputable def laidWorld (os : Os) : World := { World.holding PG os ⟨#[], #[], []⟩ with heap := (((World.holding PG os ⟨#[], #[], []⟩).heap.modify 1 fun
      | .cells _ t frozen => .cells ((Go.Pinned.utf8FirstZ.map fun (n : Nat) => Value.int .u8 (Int.ofNat n)).toArray) t frozen
      | o => o).modify 2 fun
      | .cells _ t frozen => .cells (#[.int .u8 128, .int .u8 191, .int .u8 160, .int .u8 191, .int .u8 128, .int .u8 159, .int .u8 144, .int .u8 191, .int .u8 128, .int .u8 143, .int .u8 0, .int .u8 0, .int .u8 0, .int .u8 0, .int .u8 0, .int .u8 0, .int .u8 0, .int .u8 0, .int .u8 0, .int .u8 0, .int .u8 0, .int .u8 0, .int .u8 0, .int .u8 0, .int .u8 0, .int .u8 0, .int .u8 0, .int .u8 0, .int .u8 0, .int .u8 0, .int .u8 0, .int .u8 0]) t frozen
      | o => o) }
theorem laid_met (os : Os) : laidMet PG Rows.netlistJoinedMatchesSpecUptoRow.laid ((laidWorld os).forCall (fun _ _ => 0) ⟨#[], #[.slice none 0 0, .agg #[.slice none 0 0, .slice none 0 0], .string .empty, .string .empty], []⟩).memory :=
  laidMet_of_run' 8 (by kernel_rfl) (by kernel_rfl)
theorem reads0 (os : Os) {H : Type} (enc : TypeId × Value → H) : ∃ places, DataW.whole enc PG ((laidWorld os).forCall (fun _ _ => 0) ⟨#[], #[.slice none 0 0, .agg #[.slice none 0 0, .slice none 0 0], .string .empty, .string .empty], []⟩).memory Tryz.f4.params.toList Rows.netlistJoinedMatchesSpecSpec.vars false (#[.slice none 0 0, .agg #[.slice none 0 0, .slice none 0 0], .string .empty, .string .empty] : Array Value).toList 8 = some ([.nil, .agg [.nil, .nil], .lit (.string []), .lit (.string [])], [], places) :=
  ⟨[], by kernel_rfl⟩
theorem wit1 (os : Os) : ((laidWorld os).forCall (fun _ _ => 0) ⟨#[], #[.slice none 0 0, .agg #[.slice none 0 0, .slice none 0 0], .string .empty, .string .empty], []⟩).variablesB PG = true := by kernel_rfl
theorem wit2 (os : Os) : (((laidWorld os).forCall (fun _ _ => 0) ⟨#[], #[.slice none 0 0, .agg #[.slice none 0 0, .slice none 0 0], .string .empty, .string .empty], []⟩).heap.toList.drop PG.globals.size).take ((begin PG (fun _ _ => 0) default).world.heap.size - PG.globals.size) = (begin PG (fun _ _ => 0) default).world.heap.toList.drop PG.globals.size := by kernel_rfl
theorem wit3 (os : Os) : Input.okWideB PG ((laidWorld os).forCall (fun _ _ => 0) ⟨#[], #[.slice none 0 0, .agg #[.slice none 0 0, .slice none 0 0], .string .empty, .string .empty], []⟩) 4 ⟨#[], #[.slice none 0 0, .agg #[.slice none 0 0, .slice none 0 0], .string .empty, .string .empty], []⟩ = true := by kernel_rfl
theorem wit4 (os : Os) {H : Type} (enc : TypeId × Value → H) : (Rows.OpenSpec.upto Rows.netlistJoinedMatchesSpecSpec).preRow enc PG Tryz.f4 Rows.netlistJoinedMatchesSpecUptoRow.domain false Rows.netlistJoinedMatchesSpecUptoRow.laid ((laidWorld os).forCall (fun _ _ => 0) ⟨#[], #[.slice none 0 0, .agg #[.slice none 0 0, .slice none 0 0], .string .empty, .string .empty], []⟩).memory #[.slice none 0 0, .agg #[.slice none 0 0, .slice none 0 0], .string .empty, .string .empty] := by
  obtain ⟨places, hx⟩ := reads0 os enc
  exact OpenSpec.preRow_of_cond 8 hx (by kernel_rfl) (fun k hk => by cases hk; kernel_rfl) (by kernel_rfl) (laid_met os)
theorem noInit : Tryz.checked.prog.inits.idxOf? 4 = none := by kernel_rfl
theorem func0 : Tryz.checked.prog.funcs[4]? = some Tryz.f4 := Tryz.func4
theorem wit1' (os : Os) : ((laidWorld os).forCall (fun _ _ => 0) ⟨#[], #[.slice none 0 0, .agg #[.slice none 0 0, .slice none 0 0], .string .empty, .string .empty], []⟩).variablesB Tryz.checked.prog = true := wit1 os
theorem wit2' (os : Os) : (((laidWorld os).forCall (fun _ _ => 0) ⟨#[], #[.slice none 0 0, .agg #[.slice none 0 0, .slice none 0 0], .string .empty, .string .empty], []⟩).heap.toList.drop Tryz.checked.prog.globals.size).take ((begin Tryz.checked.prog (fun _ _ => 0) default).world.heap.size - Tryz.checked.prog.globals.size) = (begin Tryz.checked.prog (fun _ _ => 0) default).world.heap.toList.drop Tryz.checked.prog.globals.size := wit2 os
theorem wit3' (os : Os) : Input.okWideB Tryz.checked.prog ((laidWorld os).forCall (fun _ _ => 0) ⟨#[], #[.slice none 0 0, .agg #[.slice none 0 0, .slice none 0 0], .string .empty, .string .empty], []⟩) 4 ⟨#[], #[.slice none 0 0, .agg #[.slice none 0 0, .slice none 0 0], .string .empty, .string .empty], []⟩ = true := wit3 os
theorem wit4' (os : Os) {H : Type} (enc : TypeId × Value → H) : (Rows.OpenSpec.upto Rows.netlistJoinedMatchesSpecSpec).preRow enc Tryz.checked.prog Tryz.f4 Rows.netlistJoinedMatchesSpecUptoRow.domain false Rows.netlistJoinedMatchesSpecUptoRow.laid ((laidWorld os).forCall (fun _ _ => 0) ⟨#[], #[.slice none 0 0, .agg #[.slice none 0 0, .slice none 0 0], .string .empty, .string .empty], []⟩).memory #[.slice none 0 0, .agg #[.slice none 0 0, .slice none 0 0], .string .empty, .string .empty] := wit4 os enc
theorem hosr (os : Os) : (laidWorld os).os = os := rfl
theorem witness (os : Os) {H : Type} (enc : TypeId × Value → H) : ∃ (w : World) (tape : Tape) (i : Input), w.os = os ∧ (w.forCall tape i).Shaped Tryz.checked.prog ∧ i.vars = [] ∧ Input.okWide Tryz.checked.prog (w.forCall tape i) .any w.heap.size 4 i ∧
      (Rows.OpenSpec.upto Rows.netlistJoinedMatchesSpecSpec).preRow enc Tryz.checked.prog Tryz.f4 Rows.netlistJoinedMatchesSpecUptoRow.domain false Rows.netlistJoinedMatchesSpecUptoRow.laid (w.forCall tape i).memory i.args ∧ ({ modest := false } : Assume).holds Tryz.checked.prog (lone (Frame.enter Tryz.checked.prog 4 i.args .normal) [] (w.forCall tape i)) :=
  witness_row_at (enc := enc) (C := Tryz.checked) false (laidWorld os) #[.slice none 0 0, .agg #[.slice none 0 0, .slice none 0 0], .string .empty, .string .empty] (hosr os) (wit1' os) (wit2' os) (wit3' os) (wit4' os enc)
set_option maxRecDepth 100000 in
theorem lifted (os : Os) (started : os.Started) (H : Type) (enc : TypeId × Value → H) (F : Stop.Interp) :
    ReturnsInHanded {} Tryz.checked os 4 .any ((Rows.OpenSpec.upto Rows.netlistJoinedMatchesSpecSpec).preRow enc PG Tryz.f4 Rows.netlistJoinedMatchesSpecUptoRow.domain false Rows.netlistJoinedMatchesSpecUptoRow.laid) (((Rows.OpenSpec.upto Rows.netlistJoinedMatchesSpecSpec).at F).post enc PG Tryz.f4 false true false false) := by
  refine returnsInHanded_of_row (C := Tryz.checked) (s := Rows.OpenSpec.upto Rows.netlistJoinedMatchesSpecSpec) own started noInit func0 (witness os enc) ?_
  intro W base args ds gs before hval hW _ hcond _ hL _ _
  exact contract H enc W base args ds gs before hval hW (hcond _ rfl)
theorem cf0 : (fun (P : Program) (f : FuncId) (fn : Func) (s : ChangeSpec) (c : OpenClaim) => c.wf (OpenSpec.ofChange s)) Tryz.pinned.checked.prog 4 Tryz.f4 (Rows.OpenSpec.upto Rows.netlistJoinedMatchesSpecSpec).bare Rows.netlistJoinedMatchesSpecUptoRow = true := by kernel_rfl
theorem cf1 : (fun (P : Program) (f : FuncId) (fn : Func) (s : ChangeSpec) (c : OpenClaim) => laidOutB P) Tryz.pinned.checked.prog 4 Tryz.f4 (Rows.OpenSpec.upto Rows.netlistJoinedMatchesSpecSpec).bare Rows.netlistJoinedMatchesSpecUptoRow = true := by kernel_rfl
theorem cf2 : (fun (P : Program) (f : FuncId) (fn : Func) (s : ChangeSpec) (c : OpenClaim) => mapsRowed P) Tryz.pinned.checked.prog 4 Tryz.f4 (Rows.OpenSpec.upto Rows.netlistJoinedMatchesSpecSpec).bare Rows.netlistJoinedMatchesSpecUptoRow = true := by kernel_rfl
theorem cf3 : (fun (P : Program) (f : FuncId) (fn : Func) (s : ChangeSpec) (c : OpenClaim) => fn.params.all (P.readableRec ·)) Tryz.pinned.checked.prog 4 Tryz.f4 (Rows.OpenSpec.upto Rows.netlistJoinedMatchesSpecSpec).bare Rows.netlistJoinedMatchesSpecUptoRow = true := by kernel_rfl
theorem cf4 : (fun (P : Program) (f : FuncId) (fn : Func) (s : ChangeSpec) (c : OpenClaim) => namedTie P c.named s.vars) Tryz.pinned.checked.prog 4 Tryz.f4 (Rows.OpenSpec.upto Rows.netlistJoinedMatchesSpecSpec).bare Rows.netlistJoinedMatchesSpecUptoRow = true := by kernel_rfl
theorem cf5 : (fun (P : Program) (f : FuncId) (fn : Func) (s : ChangeSpec) (c : OpenClaim) => (c.stops == [])) Tryz.pinned.checked.prog 4 Tryz.f4 (Rows.OpenSpec.upto Rows.netlistJoinedMatchesSpecSpec).bare Rows.netlistJoinedMatchesSpecUptoRow = true := by kernel_rfl
theorem cf6 : (fun (P : Program) (f : FuncId) (fn : Func) (s : ChangeSpec) (c : OpenClaim) => (P.stops == [])) Tryz.pinned.checked.prog 4 Tryz.f4 (Rows.OpenSpec.upto Rows.netlistJoinedMatchesSpecSpec).bare Rows.netlistJoinedMatchesSpecUptoRow = true := by kernel_rfl
theorem cf7 : (fun (P : Program) (f : FuncId) (fn : Func) (s : ChangeSpec) (c : OpenClaim) => (c.knobs == [])) Tryz.pinned.checked.prog 4 Tryz.f4 (Rows.OpenSpec.upto Rows.netlistJoinedMatchesSpecSpec).bare Rows.netlistJoinedMatchesSpecUptoRow = true := by kernel_rfl
theorem cf8 : (fun (P : Program) (f : FuncId) (fn : Func) (s : ChangeSpec) (c : OpenClaim) => (P.stopKnobs == [])) Tryz.pinned.checked.prog 4 Tryz.f4 (Rows.OpenSpec.upto Rows.netlistJoinedMatchesSpecSpec).bare Rows.netlistJoinedMatchesSpecUptoRow = true := by kernel_rfl
theorem cf9 : (fun (P : Program) (f : FuncId) (fn : Func) (s : ChangeSpec) (c : OpenClaim) => (c.inPlace == P.inPlace f)) Tryz.pinned.checked.prog 4 Tryz.f4 (Rows.OpenSpec.upto Rows.netlistJoinedMatchesSpecSpec).bare Rows.netlistJoinedMatchesSpecUptoRow = true := by kernel_rfl
theorem cf10 : (fun (P : Program) (f : FuncId) (fn : Func) (s : ChangeSpec) (c : OpenClaim) => (c.unfollowed == P.unfollowed f)) Tryz.pinned.checked.prog 4 Tryz.f4 (Rows.OpenSpec.upto Rows.netlistJoinedMatchesSpecSpec).bare Rows.netlistJoinedMatchesSpecUptoRow = true := by kernel_rfl
theorem cf11 : (fun (P : Program) (f : FuncId) (fn : Func) (s : ChangeSpec) (c : OpenClaim) => (c.recurses == P.recurses f)) Tryz.pinned.checked.prog 4 Tryz.f4 (Rows.OpenSpec.upto Rows.netlistJoinedMatchesSpecSpec).bare Rows.netlistJoinedMatchesSpecUptoRow = true := by kernel_rfl
theorem cf12 : (fun (P : Program) (f : FuncId) (fn : Func) (s : ChangeSpec) (c : OpenClaim) => (c.named == P.varsNamed f)) Tryz.pinned.checked.prog 4 Tryz.f4 (Rows.OpenSpec.upto Rows.netlistJoinedMatchesSpecSpec).bare Rows.netlistJoinedMatchesSpecUptoRow = true := by kernel_rfl
theorem cf13 : (fun (P : Program) (f : FuncId) (fn : Func) (s : ChangeSpec) (c : OpenClaim) => (c.maps == (fn.params.toList ++ s.plain.varTypes P).any (P.mapsRec ·))) Tryz.pinned.checked.prog 4 Tryz.f4 (Rows.OpenSpec.upto Rows.netlistJoinedMatchesSpecSpec).bare Rows.netlistJoinedMatchesSpecUptoRow = true := by kernel_rfl
theorem cf14 : (fun (P : Program) (f : FuncId) (fn : Func) (s : ChangeSpec) (c : OpenClaim) => (c.ifaces == (fn.params.toList ++ s.plain.varTypes P).any (P.ifacesRec ·))) Tryz.pinned.checked.prog 4 Tryz.f4 (Rows.OpenSpec.upto Rows.netlistJoinedMatchesSpecSpec).bare Rows.netlistJoinedMatchesSpecUptoRow = true := by kernel_rfl
theorem cf15 : (fun (P : Program) (f : FuncId) (fn : Func) (s : ChangeSpec) (c : OpenClaim) => (c.mapsOut == P.mapsAmong fn.resultTypes.toList)) Tryz.pinned.checked.prog 4 Tryz.f4 (Rows.OpenSpec.upto Rows.netlistJoinedMatchesSpecSpec).bare Rows.netlistJoinedMatchesSpecUptoRow = true := by kernel_rfl
theorem cf16 : (fun (P : Program) (f : FuncId) (fn : Func) (s : ChangeSpec) (c : OpenClaim) => (c.loops == (fn.params.toList ++ s.plain.varTypes P).any (P.loopsFrom ·))) Tryz.pinned.checked.prog 4 Tryz.f4 (Rows.OpenSpec.upto Rows.netlistJoinedMatchesSpecSpec).bare Rows.netlistJoinedMatchesSpecUptoRow = true := by kernel_rfl
theorem cf17 : (fun (P : Program) (f : FuncId) (fn : Func) (s : ChangeSpec) (c : OpenClaim) => (c.wideKeys == (fn.params.toList ++ s.plain.varTypes P ++ fn.resultTypes.toList).any (P.wideKeysFrom ·))) Tryz.pinned.checked.prog 4 Tryz.f4 (Rows.OpenSpec.upto Rows.netlistJoinedMatchesSpecSpec).bare Rows.netlistJoinedMatchesSpecUptoRow = true := by kernel_rfl
theorem cf18 : (fun (P : Program) (f : FuncId) (fn : Func) (s : ChangeSpec) (c : OpenClaim) => s.vars.all (P.varReadable ·)) Tryz.pinned.checked.prog 4 Tryz.f4 (Rows.OpenSpec.upto Rows.netlistJoinedMatchesSpecSpec).bare Rows.netlistJoinedMatchesSpecUptoRow = true := by kernel_rfl
theorem cf19 : (fun (P : Program) (f : FuncId) (fn : Func) (s : ChangeSpec) (c : OpenClaim) => fn.resultTypes.all (fun t => P.readableRec t && decide (t < P.types.size))) Tryz.pinned.checked.prog 4 Tryz.f4 (Rows.OpenSpec.upto Rows.netlistJoinedMatchesSpecSpec).bare Rows.netlistJoinedMatchesSpecUptoRow = true := by kernel_rfl
theorem cf20 : (fun (P : Program) (f : FuncId) (fn : Func) (s : ChangeSpec) (c : OpenClaim) => (c.ifacesOut == fn.resultTypes.toList.any (P.ifacesRec ·))) Tryz.pinned.checked.prog 4 Tryz.f4 (Rows.OpenSpec.upto Rows.netlistJoinedMatchesSpecSpec).bare Rows.netlistJoinedMatchesSpecUptoRow = true := by kernel_rfl
theorem cf21 : (fun (P : Program) (f : FuncId) (fn : Func) (s : ChangeSpec) (c : OpenClaim) => (c.loopsOut == fn.resultTypes.toList.any (P.loopsFrom ·))) Tryz.pinned.checked.prog 4 Tryz.f4 (Rows.OpenSpec.upto Rows.netlistJoinedMatchesSpecSpec).bare Rows.netlistJoinedMatchesSpecUptoRow = true := by kernel_rfl
theorem cf22 : (fun (P : Program) (f : FuncId) (fn : Func) (s : ChangeSpec) (c : OpenClaim) => (c.plainKeys == P.plainKeys)) Tryz.pinned.checked.prog 4 Tryz.f4 (Rows.OpenSpec.upto Rows.netlistJoinedMatchesSpecSpec).bare Rows.netlistJoinedMatchesSpecUptoRow = true := by kernel_rfl
theorem cf23 : (fun (P : Program) (f : FuncId) (fn : Func) (s : ChangeSpec) (c : OpenClaim) => c.shortTexts.isNone) Tryz.pinned.checked.prog 4 Tryz.f4 (Rows.OpenSpec.upto Rows.netlistJoinedMatchesSpecSpec).bare Rows.netlistJoinedMatchesSpecUptoRow = true := by kernel_rfl
theorem cf24 : (fun (P : Program) (f : FuncId) (fn : Func) (s : ChangeSpec) (c : OpenClaim) => P.stopsHeard) Tryz.pinned.checked.prog 4 Tryz.f4 (Rows.OpenSpec.upto Rows.netlistJoinedMatchesSpecSpec).bare Rows.netlistJoinedMatchesSpecUptoRow = true := by kernel_rfl
theorem cf25 : (fun (P : Program) (f : FuncId) (fn : Func) (s : ChangeSpec) (c : OpenClaim) => P.mayEnter) Tryz.pinned.checked.prog 4 Tryz.f4 (Rows.OpenSpec.upto Rows.netlistJoinedMatchesSpecSpec).bare Rows.netlistJoinedMatchesSpecUptoRow = true := by kernel_rfl
theorem cf26 : (fun (P : Program) (f : FuncId) (fn : Func) (s : ChangeSpec) (c : OpenClaim) => (c.lifted == P.liftsFinal)) Tryz.pinned.checked.prog 4 Tryz.f4 (Rows.OpenSpec.upto Rows.netlistJoinedMatchesSpecSpec).bare Rows.netlistJoinedMatchesSpecUptoRow = true := by kernel_rfl
theorem cf27 : (fun (P : Program) (f : FuncId) (fn : Func) (s : ChangeSpec) (c : OpenClaim) => (P.make == some c.make)) Tryz.pinned.checked.prog 4 Tryz.f4 (Rows.OpenSpec.upto Rows.netlistJoinedMatchesSpecSpec).bare Rows.netlistJoinedMatchesSpecUptoRow = true := by kernel_rfl
theorem cf28 : (fun (P : Program) (f : FuncId) (fn : Func) (s : ChangeSpec) (c : OpenClaim) => (c.kinds == (if c.domain.isEmpty then [] else fn.params.toList.map fun t => match P.underlying t with | some (.int k) => some k | _ => none))) Tryz.pinned.checked.prog 4 Tryz.f4 (Rows.OpenSpec.upto Rows.netlistJoinedMatchesSpecSpec).bare Rows.netlistJoinedMatchesSpecUptoRow = true := by kernel_rfl
theorem cf29 : (fun (P : Program) (f : FuncId) (fn : Func) (s : ChangeSpec) (c : OpenClaim) => (c.pinned == c.pinnedBy)) Tryz.pinned.checked.prog 4 Tryz.f4 (Rows.OpenSpec.upto Rows.netlistJoinedMatchesSpecSpec).bare Rows.netlistJoinedMatchesSpecUptoRow = true := by kernel_rfl
theorem cf30 : (fun (P : Program) (f : FuncId) (fn : Func) (s : ChangeSpec) (c : OpenClaim) => (c.veiled == (fn.params.toList ++ s.plain.varTypes P ++ fn.resultTypes.toList).any (P.veiledRec ·))) Tryz.pinned.checked.prog 4 Tryz.f4 (Rows.OpenSpec.upto Rows.netlistJoinedMatchesSpecSpec).bare Rows.netlistJoinedMatchesSpecUptoRow = true := by kernel_rfl
theorem cf31 : (fun (P : Program) (f : FuncId) (fn : Func) (s : ChangeSpec) (c : OpenClaim) => c.veiledFits P fn.params.toList (fn.params.toList ++ s.plain.varTypes P ++ fn.resultTypes.toList)) Tryz.pinned.checked.prog 4 Tryz.f4 (Rows.OpenSpec.upto Rows.netlistJoinedMatchesSpecSpec).bare Rows.netlistJoinedMatchesSpecUptoRow = true := by kernel_rfl
theorem bt {a b : Bool} (h : a = true) (k : b = true) : (a && b) = true := by rw [h, k]; rfl
theorem allFacts {P : Program} {f : FuncId} {fn : Func} {s : ChangeSpec} {c : OpenClaim} (h0 : (fun (P : Program) (f : FuncId) (fn : Func) (s : ChangeSpec) (c : OpenClaim) => c.wf (OpenSpec.ofChange s)) P f fn s c = true) (h1 : (fun (P : Program) (f : FuncId) (fn : Func) (s : ChangeSpec) (c : OpenClaim) => laidOutB P) P f fn s c = true) (h2 : (fun (P : Program) (f : FuncId) (fn : Func) (s : ChangeSpec) (c : OpenClaim) => mapsRowed P) P f fn s c = true) (h3 : (fun (P : Program) (f : FuncId) (fn : Func) (s : ChangeSpec) (c : OpenClaim) => fn.params.all (P.readableRec ·)) P f fn s c = true) (h4 : (fun (P : Program) (f : FuncId) (fn : Func) (s : ChangeSpec) (c : OpenClaim) => namedTie P c.named s.vars) P f fn s c = true) (h5 : (fun (P : Program) (f : FuncId) (fn : Func) (s : ChangeSpec) (c : OpenClaim) => (c.stops == [])) P f fn s c = true) (h6 : (fun (P : Program) (f : FuncId) (fn : Func) (s : ChangeSpec) (c : OpenClaim) => (P.stops == [])) P f fn s c = true) (h7 : (fun (P : Program) (f : FuncId) (fn : Func) (s : ChangeSpec) (c : OpenClaim) => (c.knobs == [])) P f fn s c = true) (h8 : (fun (P : Program) (f : FuncId) (fn : Func) (s : ChangeSpec) (c : OpenClaim) => (P.stopKnobs == [])) P f fn s c = true) (h9 : (fun (P : Program) (f : FuncId) (fn : Func) (s : ChangeSpec) (c : OpenClaim) => (c.inPlace == P.inPlace f)) P f fn s c = true) (h10 : (fun (P : Program) (f : FuncId) (fn : Func) (s : ChangeSpec) (c : OpenClaim) => (c.unfollowed == P.unfollowed f)) P f fn s c = true) (h11 : (fun (P : Program) (f : FuncId) (fn : Func) (s : ChangeSpec) (c : OpenClaim) => (c.recurses == P.recurses f)) P f fn s c = true) (h12 : (fun (P : Program) (f : FuncId) (fn : Func) (s : ChangeSpec) (c : OpenClaim) => (c.named == P.varsNamed f)) P f fn s c = true) (h13 : (fun (P : Program) (f : FuncId) (fn : Func) (s : ChangeSpec) (c : OpenClaim) => (c.maps == (fn.params.toList ++ s.plain.varTypes P).any (P.mapsRec ·))) P f fn s c = true) (h14 : (fun (P : Program) (f : FuncId) (fn : Func) (s : ChangeSpec) (c : OpenClaim) => (c.ifaces == (fn.params.toList ++ s.plain.varTypes P).any (P.ifacesRec ·))) P f fn s c = true) (h15 : (fun (P : Program) (f : FuncId) (fn : Func) (s : ChangeSpec) (c : OpenClaim) => (c.mapsOut == P.mapsAmong fn.resultTypes.toList)) P f fn s c = true) (h16 : (fun (P : Program) (f : FuncId) (fn : Func) (s : ChangeSpec) (c : OpenClaim) => (c.loops == (fn.params.toList ++ s.plain.varTypes P).any (P.loopsFrom ·))) P f fn s c = true) (h17 : (fun (P : Program) (f : FuncId) (fn : Func) (s : ChangeSpec) (c : OpenClaim) => (c.wideKeys == (fn.params.toList ++ s.plain.varTypes P ++ fn.resultTypes.toList).any (P.wideKeysFrom ·))) P f fn s c = true) (h18 : (fun (P : Program) (f : FuncId) (fn : Func) (s : ChangeSpec) (c : OpenClaim) => s.vars.all (P.varReadable ·)) P f fn s c = true) (h19 : (fun (P : Program) (f : FuncId) (fn : Func) (s : ChangeSpec) (c : OpenClaim) => fn.resultTypes.all (fun t => P.readableRec t && decide (t < P.types.size))) P f fn s c = true) (h20 : (fun (P : Program) (f : FuncId) (fn : Func) (s : ChangeSpec) (c : OpenClaim) => (c.ifacesOut == fn.resultTypes.toList.any (P.ifacesRec ·))) P f fn s c = true) (h21 : (fun (P : Program) (f : FuncId) (fn : Func) (s : ChangeSpec) (c : OpenClaim) => (c.loopsOut == fn.resultTypes.toList.any (P.loopsFrom ·))) P f fn s c = true) (h22 : (fun (P : Program) (f : FuncId) (fn : Func) (s : ChangeSpec) (c : OpenClaim) => (c.plainKeys == P.plainKeys)) P f fn s c = true) (h23 : (fun (P : Program) (f : FuncId) (fn : Func) (s : ChangeSpec) (c : OpenClaim) => c.shortTexts.isNone) P f fn s c = true) (h24 : (fun (P : Program) (f : FuncId) (fn : Func) (s : ChangeSpec) (c : OpenClaim) => P.stopsHeard) P f fn s c = true) (h25 : (fun (P : Program) (f : FuncId) (fn : Func) (s : ChangeSpec) (c : OpenClaim) => P.mayEnter) P f fn s c = true) (h26 : (fun (P : Program) (f : FuncId) (fn : Func) (s : ChangeSpec) (c : OpenClaim) => (c.lifted == P.liftsFinal)) P f fn s c = true) (h27 : (fun (P : Program) (f : FuncId) (fn : Func) (s : ChangeSpec) (c : OpenClaim) => (P.make == some c.make)) P f fn s c = true) (h28 : (fun (P : Program) (f : FuncId) (fn : Func) (s : ChangeSpec) (c : OpenClaim) => (c.kinds == (if c.domain.isEmpty then [] else fn.params.toList.map fun t => match P.underlying t with | some (.int k) => some k | _ => none))) P f fn s c = true) (h29 : (fun (P : Program) (f : FuncId) (fn : Func) (s : ChangeSpec) (c : OpenClaim) => (c.pinned == c.pinnedBy)) P f fn s c = true) (h30 : (fun (P : Program) (f : FuncId) (fn : Func) (s : ChangeSpec) (c : OpenClaim) => (c.veiled == (fn.params.toList ++ s.plain.varTypes P ++ fn.resultTypes.toList).any (P.veiledRec ·))) P f fn s c = true) (h31 : (fun (P : Program) (f : FuncId) (fn : Func) (s : ChangeSpec) (c : OpenClaim) => c.veiledFits P fn.params.toList (fn.params.toList ++ s.plain.varTypes P ++ fn.resultTypes.toList)) P f fn s c = true) : joinedFacts P f fn s c = true := by
  unfold joinedFacts
  exact (bt (bt (bt (bt (bt (bt (bt (bt (bt (bt (bt (bt (bt (bt (bt (bt (bt (bt (bt (bt (bt (bt (bt (bt (bt (bt (bt (bt (bt (bt (bt h0 h1) h2) h3) h4) h5) h6) h7) h8) h9) h10) h11) h12) h13) h14) h15) h16) h17) h18) h19) h20) h21) h22) h23) h24) h25) h26) h27) h28) h29) h30) h31)
theorem closed : joinedFacts Tryz.pinned.checked.prog 4 Tryz.f4 (Rows.OpenSpec.upto Rows.netlistJoinedMatchesSpecSpec).bare Rows.netlistJoinedMatchesSpecUptoRow = true := allFacts cf0 cf1 cf2 cf3 cf4 cf5 cf6 cf7 cf8 cf9 cf10 cf11 cf12 cf13 cf14 cf15 cf16 cf17 cf18 cf19 cf20 cf21 cf22 cf23 cf24 cf25 cf26 cf27 cf28 cf29 cf30 cf31
theorem said : Rows.NetlistJoinedMatchesSpecUptoSaid :=
  OpenClaim.holds_of_cond 4 Tryz.f4 rfl rfl rfl rfl rfl rfl rfl ⟨rfl, rfl, rfl, rfl, rfl⟩ rfl rfl rfl rfl rfl (by kernel_rfl) Tryz.func4 closed
    (of_decide_eq_true (by kernel_rfl)) (by unfold Func.isWrapper; first | (rw [if_pos (by decide +kernel)]; kernel_rfl) | (rw [if_neg (by decide +kernel)]; exact ⟨rfl, rfl⟩))
    (fun os started H enc _ F => by rw [OpenClaim.pre_eq_preRow]; exact lifted os started H enc F)
theorem plain (f : FuncId) (fn : Func) (hf : Tryz.pinned.checked.prog.funcNamed "etchhouse/etchhouselaw2.NetlistJoinedMatchesSpec" = some f) (hfn : Tryz.pinned.checked.prog.funcs[f]? = some fn) :
    false = Tryz.pinned.checked.prog.looks [] ∧ ∀ (j : Nat) t, fn.params[j]? = some t → Tryz.pinned.checked.prog.wantsStandIn t = false := by
  obtain rfl : f = 4 := Option.some.inj ((show PG.funcNamed "etchhouse/etchhouselaw2.NetlistJoinedMatchesSpec" = some 4 by kernel_rfl).symm.trans hf) |>.symm
  obtain rfl : fn = Tryz.f4 := (Option.some.inj (Tryz.func4.symm.trans hfn)).symm
  refine ⟨by kernel_rfl, fun j t ht => ?_⟩
  rw [Tryz.params4] at ht
  have hm : t ∈ [22, 26, 9, 9] := by simpa using Array.mem_of_getElem? ht
  simp only [List.mem_cons, List.not_mem_nil, or_false] at hm
  rcases hm with rfl | rfl | rfl | rfl
  · exact (show PG.wantsStandIn 22 = false by kernel_rfl)
  · exact (show PG.wantsStandIn 26 = false by kernel_rfl)
  · exact (show PG.wantsStandIn 9 = false by kernel_rfl)
  · exact (show PG.wantsStandIn 9 = false by kernel_rfl)
theorem card : Rows.NetlistJoinedMatchesSpecUptoCardSaid :=
  Claim7.holds_tied_plain_at .later [] _ _ _ _ said (fun _ h => by cases h) (by kernel_rfl) (fun _ h => by cases h) netlistJoinedMatchesSpecUpto_row_tie rfl ⟨rfl, rfl⟩ (by kernel_rfl) rfl plain (by kernel_rfl)
end Go.Proofs.YtlbndchfmdogeaaGreatDoor.netlistJoinedMatchesSpec
