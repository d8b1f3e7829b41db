/- Contracts of slices.Insert at []Pin, walked at this dump. Conditions: as each says. -/
import Derived.Shelf.Spec.SlicesInsertGrow
import Derived.Maps.AppendAt
import Derived.Laws.CopyRow
import Derived.Test.YtlbndchfmdogeaaDoorProg
set_option linter.unusedVariables false
set_option linter.unusedSimpArgs false
namespace Go.Proofs
open Go.Shelf Go.RowKit Go.Lib
variable {P : Program}

theorem run_copy_cellsK (w : World) (dT sT ty elem : TypeId) (k b o dLen dCap : Nat) (a : Addr) (sLen sCap : Nat) (cs : List Value)
    (hu : P.underlying dT = some (.slice elem)) (hs : (P.info? elem).map (·.size) = some k) (hn : cs.length = Nat.min sLen dLen * k)
    (hsrc : ∀ j v, cs[j]? = some v → w.cell? (a.add j) = some v) (hc : ∀ j, j < cs.length → (w.cell? ⟨b, o + j, none⟩).isSome = true) (hf : ∀ j, j < cs.length → w.frozen? ⟨b, o + j, none⟩ = false) (h1 : ∀ v ∈ cs, v.oneCell' = true) :
    (Builtin.copy_ #[dT, sT] ty #[.slice (some ⟨b, o, none⟩) dLen dCap, .slice (some a) sLen sCap]).run P w = .ok (goInt (Nat.min sLen dLen)) (w.setCells b o cs) := by
  have hl := run_loadCells_list (P := P) w a cs hsrc
  have hst := run_storeCells_cells (P := P) b o cs 0 w (by simpa using hc) (by simpa using hf) h1
  cases hq : P.info? elem with
  | none => simp [hq] at hs
  | some i =>
    have hi : i.size = k := by simpa [hq] using hs
    simp [Builtin.copy_, run_underlying hu, Builtin.lenOf, Builtin.firstCells, sizeOf, typeInfo, hq, hi, ← hn, hl, hst]

theorem Tryd.info28 : (Tryd.prog.info? 28).map (fun i => (i.zero, i.size, i.bytes)) = some (some (.agg #[.string ⟨#[]⟩, .string ⟨#[]⟩]), 2, 32) := by kernel_rfl

set_option maxHeartbeats 4000000 in
set_option maxRecDepth 100000 in
theorem Tryd.Insert_Pin_shift (b n c i vb voff m vc : Nat) (cs vs : List Value) (w : World) (hi : i < n) (hm : 0 < m) (hroom : n + m ≤ c) (hc63 : c ≤ 9223372036854775807) (hvb : vb ≠ b)
    (hcl : cs.length = n * 2) (hvl : vs.length = m * 2)
    (hcs : ∀ j v, cs[j]? = some v → w.cell? ⟨b, j, none⟩ = some v) (hsp : ∀ j, j < (n + m) * 2 → (w.cell? ⟨b, j, none⟩).isSome = true) (hfz : ∀ j, j < (n + m) * 2 → w.frozen? ⟨b, j, none⟩ = false)
    (hvs : ∀ j v, vs[j]? = some v → w.cell? ⟨vb, voff + j, none⟩ = some v) (h1c : ∀ v ∈ cs, v.oneCell' = true) (h1v : ∀ v ∈ vs, v.oneCell' = true)
    (tA tB : TypeId) (kA kB : Nat) (hsa : w.shape? vb = some (tA, kA)) (hsb : w.shape? b = some (tB, kB)) (hkB : kB ≠ 0) (hfa : w.frozen? ⟨vb, voff, none⟩ = false) (hfe : w.frozen? ⟨vb, kA, none⟩ = false) :
    Calls Tryd.prog 155 #[.slice (some ⟨b, 0, none⟩) n c, .int .i64 i, .slice (some ⟨vb, voff, none⟩) m vc] w fun e w' =>
      e = .returned (.slice (some ⟨b, 0, none⟩) (n + m) c) ∧ w' = (w.drew.setCells b ((i + m) * 2) (cs.drop (i * 2))).setCells b (i * 2) vs := by
  have t0 := Tryd.underlying0; have t3 := Tryd.underlying3; have a3 := Tryd.isAgg3; have z3 := Tryd.sizeOf3; have v3 := Tryd.zeroValue3; have t4 := Tryd.underlying4; have a4 := Tryd.isAgg4; have z4 := Tryd.sizeOf4; have v4 := Tryd.zeroValue4
  have t28 := Tryd.underlying28; have a28 := Tryd.isAgg28; have z28 := Tryd.sizeOf28; have v28 := Tryd.zeroValue28; have t33 := Tryd.underlying33; have a33 := Tryd.isAgg33; have z33 := Tryd.sizeOf33; have v33 := Tryd.zeroValue33
  have u3 := run_underlying t3; have u4 := run_underlying t4; have u28 := run_underlying t28; have u33 := run_underlying t33
  have hz1 : ¬ ((m : Int) = 0) := by omega
  have hz2 : ¬ ((i : Int) = (n : Int)) := by omega
  have hsz : (Tryd.prog.info? 28).map (·.size) = some 2 := by
    obtain ⟨i0, hi0, h0, h1, h2⟩ := info_parts Tryd.info28
    rw [hi0]; simp [h1]
  have hov : ∀ lb cb, (callFunc 186 #[.slice (some ⟨vb, voff, none⟩) m vc, .slice (some ⟨b, (i + m) * 2, none⟩) lb cb]).run Tryd.prog w = .ok (.value (.bool false)) w := fun lb cb => by
    rw [run_callFunc_extern Tryd.func186 (by kernel_rfl) (by kernel_rfl) (by kernel_rfl) (e := Extern.SlicesOverlaps.overlaps #[33, 33] #[4]) (by kernel_rfl),
      Lib.run_overlaps_apart w 33 4 28 t33 2 Tryd.sizeOf28 ⟨vb, voff, none⟩ ⟨b, (i + m) * 2, none⟩ m vc lb cb hvb tA tB kA kB hsa hsb hkB hfa hfe]
    rfl
  have hdl : (cs.drop (i * 2)).length = (n - i) * 2 := by rw [List.length_drop, hcl, Nat.sub_mul]
  have mixed : Tryd.prog.follows .mixedOrders = true := by kernel_rfl
  have hw1 : IntKind.i64.wrap ((i : Int) + (m : Int)) = (i : Int) + (m : Int) := by rw [IntKind.wrap_i64]; omega
  have hb1 : (0 : Int) ≤ (i : Int) + (m : Int) := by omega
  have hin : i ≤ n := by omega
  have htn : ((i : Int) + (m : Int)).toNat = i + m := by omega
  have hb2 : ¬ (c = i + m) := by omega
  have hb3 : (i : Int) ≤ (n : Int) + (m : Int) := by omega
  have hb4 : ¬ (c = i) := by omega
  have hcp1 : ∀ ty dc sc, (Builtin.copy_ #[33, 33] ty #[.slice (some ⟨b, (i + m) * 2, none⟩) (n + m - (i + m)) dc, .slice (some ⟨b, i * 2, none⟩) (n + m - i) sc]).run Tryd.prog w.drew = .ok (goInt ((n - i : Nat) : Int)) (w.drew.setCells b ((i + m) * 2) (cs.drop (i * 2))) := fun ty dc sc => by
    have hmin : Nat.min (n + m - i) (n + m - (i + m)) = n - i := by simp only [Nat.min_def]; split <;> omega
    have := run_copy_cellsK w.drew 33 33 ty 28 2 b ((i + m) * 2) (n + m - (i + m)) dc ⟨b, i * 2, none⟩ (n + m - i) sc (cs.drop (i * 2)) t33 hsz (by rw [hdl, hmin])
      (fun j v hj => by rw [Addr.add_lit]; exact hcs (i * 2 + j) v (by rwa [List.getElem?_drop] at hj))
      (fun j hj => hsp _ (by omega)) (fun j hj => hfz _ (by omega)) (fun v hv => h1c v (List.mem_of_mem_drop hv))
    rw [hmin] at this; exact this
  obtain ⟨W1, hW1⟩ : ∃ W1, W1 = w.drew.setCells b ((i + m) * 2) (cs.drop (i * 2)) := ⟨_, rfl⟩
  have hsp1 : ∀ k, k < (n + m) * 2 → (W1.cell? ⟨b, k, none⟩).isSome = true := fun k hk => by
    rw [hW1]
    exact isSome_setCells b (cs.drop (i * 2)) ((i + m) * 2) w.drew (fun j hj => hsp _ (by omega)) k (hsp k hk)
  have hcp2 : ∀ (W : World), (∀ x, W.cell? x = W1.cell? x) → (∀ x, W.frozen? x = W1.frozen? x) → ∀ ty dc, (Builtin.copy_ #[33, 33] ty #[.slice (some ⟨b, i * 2, none⟩) (n + m - i) dc, .slice (some ⟨vb, voff, none⟩) m vc]).run Tryd.prog W = .ok (goInt m) (W.setCells b (i * 2) vs) := fun W hWc hWf ty dc => by
    have hmin : Nat.min m (n + m - i) = m := by simp only [Nat.min_def]; split <;> omega
    have := run_copy_cellsK W 33 33 ty 28 2 b (i * 2) (n + m - i) dc ⟨vb, voff, none⟩ m vc vs t33 hsz (by rw [hvl, hmin])
      (fun j v hj => by
        rw [Addr.add_lit, hWc, hW1, World.cell?_setCells_out b _ _ _ _ (fun h _ => absurd h hvb)]
        exact hvs j v hj)
      (fun j hj => by rw [hWc]; exact hsp1 _ (by omega)) (fun j hj => by rw [hWf, hW1, World.frozen?_setCells]; exact hfz _ (by omega)) h1v
    rw [hmin] at this; exact this
  rw [← hW1] at hcp1
  go_enter Tryd.func155, Tryd.ntmps155
  go_wp2_with (simp only [hov])
  go_region_law_o (refine step_copy_runI rfl _ _ 33 33 rfl _ _ (by simp [Act.eval, Act.put]) (by simp [Act.eval, Act.put]) (hcp1 _ _ _) ?_)
  go_wp2_with (at_builtin; refine wpList_copy_runI _ rfl _ _ 33 33 rfl _ _ rfl rfl (hcp2 _ (fun _ => rfl) (fun _ => rfl) _ _) ?_)
  go_ret
  first | exact ⟨rfl, rfl⟩ | exact ⟨rfl, by rw [hW1]⟩

set_option maxHeartbeats 4000000 in
set_option maxRecDepth 100000 in
theorem Tryd.Insert_Pin_grow (b n c i vb voff m vc : Nat) (cs vs : List Value) (w : World) (hi : i < n) (hm : 0 < m) (hnc : n ≤ c) (hroom : c < n + m) (hbig : (n + m) * 32 ≤ 140737488355328)
    (hcl : cs.length = n * 2) (hvl : vs.length = m * 2)
    (hcs : ∀ j v, cs[j]? = some v → w.cell? ⟨b, j, none⟩ = some v)
    (hvs : ∀ j v, vs[j]? = some v → w.cell? ⟨vb, voff + j, none⟩ = some v) (h1c : ∀ v ∈ cs, v.oneCell' = true) (h1v : ∀ v ∈ vs, v.oneCell' = true) :
    Calls Tryd.prog 155 #[.slice (some ⟨b, 0, none⟩) n c, .int .i64 i, .slice (some ⟨vb, voff, none⟩) m vc] w fun e w' =>
      e = .returned (.slice (some ⟨w.heap.size, 0, none⟩) (n + m) (grownCap w (n + m) c 28)) ∧
      w' = (((w.alloc (.cells ((cs.take (i * 2)).toArray ++ Builtin.zeroCells (Value.agg #[.string ⟨#[]⟩, .string ⟨#[]⟩]).cells (n + m - i) ++ Builtin.zeroCells (Value.agg #[.string ⟨#[]⟩, .string ⟨#[]⟩]).cells (grownCap w (n + m) c 28 - (n + m))) 28)).drew.setCells w.heap.size (i * 2) vs).drew).setCells w.heap.size ((i + m) * 2) (cs.drop (i * 2)) := by
  have t0 := Tryd.underlying0; have t3 := Tryd.underlying3; have a3 := Tryd.isAgg3; have z3 := Tryd.sizeOf3; have v3 := Tryd.zeroValue3; have t4 := Tryd.underlying4; have a4 := Tryd.isAgg4; have z4 := Tryd.sizeOf4; have v4 := Tryd.zeroValue4
  have t28 := Tryd.underlying28; have a28 := Tryd.isAgg28; have z28 := Tryd.sizeOf28; have v28 := Tryd.zeroValue28; have t33 := Tryd.underlying33; have a33 := Tryd.isAgg33; have z33 := Tryd.sizeOf33; have v33 := Tryd.zeroValue33
  have u3 := run_underlying t3; have u4 := run_underlying t4; have u28 := run_underlying t28; have u33 := run_underlying t33
  have mixed : Tryd.prog.follows .mixedOrders = true := by kernel_rfl
  obtain ⟨i0, hi0, hz0, hzs, hzb⟩ := info_parts Tryd.info28
  have hz1 : ¬ ((m : Int) = 0) := by omega
  have hz2 : ¬ ((i : Int) = (n : Int)) := by omega
  have hz3 : (c : Int) < (n : Int) + (m : Int) := by omega
  have hsz : (Tryd.prog.info? 28).map (·.size) = some 2 := by rw [hi0]; simp [hzs]
  have hbw : b < w.heap.size := block_lt_of_cell (hcs 0 _ (List.getElem?_eq_getElem (by omega)))
  have hvw : vb < w.heap.size := block_lt_of_cell (hvs 0 _ (List.getElem?_eq_getElem (by omega)))
  have hkk : (n : Int) + (m : Int) - (i : Int) = ((n + m - i : Nat) : Int) := by omega
  have hik : i + (n + m - i) = n + m := by omega
  have hold : (Builtin.firstCells i0.size i (.slice (some ⟨b, 0, none⟩) i c)).run Tryd.prog w.drew = .ok (cs.take (i * 2)).toArray w.drew := by
    rw [hzs]
    exact run_firstCells_some w.drew 2 i ⟨b, 0, none⟩ i c (cs.take (i * 2)) (by rw [List.length_take]; omega) (fun j v hj => by
      rw [Addr.add_lit, Nat.zero_add]
      rw [List.getElem?_take] at hj
      split at hj
      · exact hcs j v hj
      · cases hj)
  have hrz : ∀ ty, (Builtin.append_ #[33, 3] ty #[.slice (some ⟨b, 0, none⟩) i c, .int .i64 ((n : Int) + (m : Int) - (i : Int))]).run Tryd.prog w =
      .ok (.slice (some ⟨w.heap.size, 0, none⟩) (n + m) (grownCap w (n + m) c 28)) (w.drew.alloc (.cells ((cs.take (i * 2)).toArray ++ Builtin.zeroCells (Value.agg #[.string ⟨#[]⟩, .string ⟨#[]⟩]).cells (n + m - i) ++ Builtin.zeroCells (Value.agg #[.string ⟨#[]⟩, .string ⟨#[]⟩]).cells (grownCap w (n + m) c 28 - (n + m))) 28)) := fun ty => by
    have h := Lib.run_append_grow_zeros w 33 3 ty 28 i0 _ .i64 .i64 t33 t3 hi0 hz0 (some ⟨b, 0, none⟩) i c (cs.take (i * 2)) hold (n + m - i) (by omega) (by omega) (by omega) (by omega) (by rw [hzb]; omega) (by rw [hzb, hik]; exact growslice_fits hroom hbig)
    rw [hik] at h
    rw [hkk]
    exact h
  obtain ⟨G, hG⟩ : ∃ G, G = grownCap w (n + m) c 28 := ⟨_, rfl⟩
  obtain ⟨ROW, hROW⟩ : ∃ ROW : Array Value, ROW = (cs.take (i * 2)).toArray ++ Builtin.zeroCells (Value.agg #[.string ⟨#[]⟩, .string ⟨#[]⟩]).cells (n + m - i) ++ Builtin.zeroCells (Value.agg #[.string ⟨#[]⟩, .string ⟨#[]⟩]).cells (G - (n + m)) := ⟨_, rfl⟩
  rw [← hG] at hrz ⊢
  rw [← hROW] at hrz ⊢
  have hRl : (n + m) * 2 ≤ ROW.size := by
    rw [hROW]
    simp [Builtin.zeroCells, Value.cells]
    omega
  obtain ⟨W1, hW1⟩ : ∃ W1, W1 = w.drew.alloc (.cells ROW 28) := ⟨_, rfl⟩
  rw [← hW1] at hrz
  have hN : ∀ j, j < (n + m) * 2 → (W1.cell? ⟨w.heap.size, j, none⟩).isSome = true := fun j hj => by
    rw [hW1, World.cell?_alloc_at (w := w.drew) ROW _ w.heap.size j rfl, Array.getElem?_eq_getElem (by omega)]; rfl
  have hNf : ∀ j, W1.frozen? ⟨w.heap.size, j, none⟩ = false := fun j => by rw [hW1]; exact World.frozen?_alloc_at (w := w.drew) ROW _ w.heap.size j rfl
  have hOb : ∀ j v, w.cell? ⟨b, j, none⟩ = some v → W1.cell? ⟨b, j, none⟩ = some v := fun j v h => by rw [hW1, World.cell?_alloc_past (w := w.drew) _ b j hbw]; exact h
  have hOv : ∀ j v, w.cell? ⟨vb, j, none⟩ = some v → W1.cell? ⟨vb, j, none⟩ = some v := fun j v h => by rw [hW1, World.cell?_alloc_past (w := w.drew) _ vb j hvw]; exact h
  have hcpA : ∀ (W : World), (∀ x, W.cell? x = W1.cell? x) → (∀ x, W.frozen? x = W1.frozen? x) → ∀ ty dc, (Builtin.copy_ #[33, 33] ty #[.slice (some ⟨w.heap.size, i * 2, none⟩) (n + m - i) dc, .slice (some ⟨vb, voff, none⟩) m vc]).run Tryd.prog W = .ok (goInt (m : Int)) (W.setCells w.heap.size (i * 2) vs) := fun W hWc hWf ty dc => by
    have hmin : Nat.min m (n + m - i) = m := by simp only [Nat.min_def]; split <;> omega
    have := run_copy_cellsK W 33 33 ty 28 2 w.heap.size (i * 2) (n + m - i) dc ⟨vb, voff, none⟩ m vc vs t33 hsz (by rw [hvl, hmin])
      (fun j v hj => by rw [Addr.add_lit, hWc]; exact hOv _ v (hvs j v hj))
      (fun j hj => by rw [hWc]; exact hN _ (by omega)) (fun j hj => by rw [hWf]; exact hNf _) h1v
    rw [hmin] at this; exact this
  have hGn : n + m ≤ G := by rw [hG]; exact grownCap_ge w _ _ _
  have hG63 : G ≤ 9223372036854775807 := by
    have := grownCap_le_maxLen w (n + m) c 28 (by unfold maxLen; omega)
    rw [← hG] at this
    unfold maxLen at this
    omega
  have hGi : ¬ (G = i) := by omega
  have hGim : ¬ (G = i + m) := by omega
  have hci : ¬ (c = i) := by omega
  have hbN : b ≠ w.heap.size := by omega
  have hdl : (cs.drop (i * 2)).length = (n - i) * 2 := by rw [List.length_drop, hcl, Nat.sub_mul]
  have hcpB : ∀ (W : World), (∀ x, W.cell? x = (W1.setCells w.heap.size (i * 2) vs).cell? x) → (∀ x, W.frozen? x = (W1.setCells w.heap.size (i * 2) vs).frozen? x) → ∀ ty dc sc, (Builtin.copy_ #[33, 33] ty #[.slice (some ⟨w.heap.size, (i + m) * 2, none⟩) (n + m - (i + m)) dc, .slice (some ⟨b, i * 2, none⟩) (n - i) sc]).run Tryd.prog W = .ok (goInt ((n - i : Nat) : Int)) (W.setCells w.heap.size ((i + m) * 2) (cs.drop (i * 2))) := fun W hWc hWf ty dc sc => by
    have hmin : Nat.min (n - i) (n + m - (i + m)) = n - i := by simp only [Nat.min_def]; split <;> omega
    have := run_copy_cellsK W 33 33 ty 28 2 w.heap.size ((i + m) * 2) (n + m - (i + m)) dc ⟨b, i * 2, none⟩ (n - i) sc (cs.drop (i * 2)) t33 hsz (by rw [hdl, hmin])
      (fun j v hj => by
        rw [Addr.add_lit, hWc, World.cell?_setCells_out _ _ _ _ _ (fun h _ => absurd h hbN)]
        exact hOb _ v (hcs (i * 2 + j) v (by rwa [List.getElem?_drop] at hj)))
      (fun j hj => by rw [hWc]; exact isSome_setCells w.heap.size vs (i * 2) W1 (fun t ht => hN _ (by omega)) _ (hN _ (by omega)))
      (fun j hj => by rw [hWf, World.frozen?_setCells]; exact hNf _) (fun v hv => h1c v (List.mem_of_mem_drop hv))
    rw [hmin] at this; exact this
  subst hW1
  have hE1 : ∀ x, ((w.alloc (.cells ROW 28)).drew).cell? x = (w.drew.alloc (.cells ROW 28)).cell? x := fun x => rfl
  have hE2 : ∀ x, ((w.alloc (.cells ROW 28)).drew).frozen? x = (w.drew.alloc (.cells ROW 28)).frozen? x := fun x => rfl
  have hF1 : ∀ x, (((w.alloc (.cells ROW 28)).drew.setCells w.heap.size (i * 2) vs).drew).cell? x = ((w.drew.alloc (.cells ROW 28)).setCells w.heap.size (i * 2) vs).cell? x := fun x => rfl
  have hF2 : ∀ x, (((w.alloc (.cells ROW 28)).drew.setCells w.heap.size (i * 2) vs).drew).frozen? x = ((w.drew.alloc (.cells ROW 28)).setCells w.heap.size (i * 2) vs).frozen? x := fun x => rfl
  have hw1 : IntKind.i64.wrap ((i : Int) + (m : Int)) = (i : Int) + (m : Int) := by rw [IntKind.wrap_i64]; omega
  have hb1 : (0 : Int) ≤ (i : Int) + (m : Int) := by omega
  have hin : i ≤ n := by omega
  have htn : ((i : Int) + (m : Int)).toNat = i + m := by omega
  have hb3 : (i : Int) ≤ (n : Int) := by omega
  clear hkk hik hold hROW hG hRl
  go_enter Tryd.func155, Tryd.ntmps155
  go_wp2_with (first
    | (at_builtin; refine Lib.wpList_append_run _ rfl _ _ _ _ rfl _ _ rfl rfl _ _ (hrz _) ?_)
    | (at_builtin; refine wpList_copy_runI _ rfl _ _ 33 33 rfl _ _ rfl rfl (hcpA _ hE1 hE2 _ _) ?_)
    | (at_builtin; refine wpList_copy_runI _ rfl _ _ 33 33 rfl _ _ rfl rfl (hcpB _ (fun _ => rfl) (fun _ => rfl) _ _ _) ?_))
  go_region_law_o (refine step_copy_runI rfl _ _ 33 33 rfl (.slice (some ⟨w.heap.size, (i + m) * 2, none⟩) (n + m - (i + m)) (G - (i + m))) (.slice (some ⟨b, i * 2, none⟩) (n - i) (c - i)) (by simp [Act.eval, Act.put]) (by simp [Act.eval, Act.put]) (hcpB _ hF1 hF2 3 (G - (i + m)) (c - i)) ?_)
  go_wp2
  go_ret
  exact ⟨rfl, rfl⟩

set_option maxHeartbeats 4000000 in
set_option maxRecDepth 100000 in
theorem Tryd.Insert_Pin_end (v : Value) (n vb voff m vc : Nat) (cs vs : List Value) (w : World) (hown : w.ownsRow 0 28 2 v n cs) (hm : 0 < m) (h63 : n + m ≤ 1099511627776)
    (hvl : vs.length = m * 2) (hvs : ∀ j u, vs[j]? = some u → w.cell? ⟨vb, voff + j, none⟩ = some u) (h1v : ∀ u ∈ vs, u.oneCell' = true) :
    Calls Tryd.prog 155 #[v, .int .i64 n, .slice (some ⟨vb, voff, none⟩) m vc] w fun e w' =>
      ∃ v', e = .returned v' ∧ w'.ownsRow 0 28 2 v' (n + m) (cs ++ vs) ∧ w.grownBy w' v.ownBlock ∧ (v'.ownBlock = v.ownBlock ∨ v'.ownBlock = some w.heap.size) := by
  have t0 := Tryd.underlying0; have t3 := Tryd.underlying3; have a3 := Tryd.isAgg3; have z3 := Tryd.sizeOf3; have v3 := Tryd.zeroValue3; have t4 := Tryd.underlying4; have a4 := Tryd.isAgg4; have z4 := Tryd.sizeOf4; have v4 := Tryd.zeroValue4
  have t28 := Tryd.underlying28; have a28 := Tryd.isAgg28; have z28 := Tryd.sizeOf28; have v28 := Tryd.zeroValue28; have t33 := Tryd.underlying33; have a33 := Tryd.isAgg33; have z33 := Tryd.sizeOf33; have v33 := Tryd.zeroValue33
  have u3 := run_underlying t3; have u4 := run_underlying t4; have u28 := run_underlying t28; have u33 := run_underlying t33
  have mixed : Tryd.prog.follows .mixedOrders = true := by kernel_rfl
  obtain ⟨i0, hi0, hz0, hzs, hzb⟩ := info_parts Tryd.info28
  have hz1 : ¬ ((m : Int) = 0) := by omega
  have hown0 := hown
  rcases hown0.2 with ⟨rfl, h0⟩ | ⟨g, cap, cur, rfl, _, hg, hnc, hcap, _, _⟩
  · subst h0
    obtain ⟨v', w', hr, r1, r2, r3, r4⟩ := run_append_own_at (P := Tryd.prog) w 0 33 33 28 i0 _ 2 32 t33 hi0 hz0 hzs hzb rfl (by omega) (.slice none 0 0) 0 cs hown ⟨vb, voff, none⟩ m vc vs hvl (fun j u hj => by rw [Addr.add_lit]; exact hvs j u hj) h1v (by unfold maxLen; omega) (by omega) (Nat.zero_le _)
    have hrun : ∀ ty, (Builtin.append_ #[33, 33] ty #[.slice none 0 0, .slice (some ⟨vb, voff, none⟩) m vc]).run Tryd.prog w = .ok v' w' := fun ty => hr
    clear hown
    go_enter Tryd.func155, Tryd.ntmps155
    go_wp2_with (at_builtin; refine Lib.wpList_append_run _ rfl _ _ _ _ rfl _ _ rfl rfl _ _ (hrun _) ?_)
    all_goals (go_ret; exact ⟨v', rfl, by simpa using r1, r2, r4⟩)
  · obtain ⟨v', w', hr, r1, r2, r3, r4⟩ := run_append_own_at (P := Tryd.prog) w 0 33 33 28 i0 _ 2 32 t33 hi0 hz0 hzs hzb rfl (by omega) (.slice (some ⟨g, 0, none⟩) n cap) n cs hown ⟨vb, voff, none⟩ m vc vs hvl (fun j u hj => by rw [Addr.add_lit]; exact hvs j u hj) h1v (by unfold maxLen; omega) (by omega) (Nat.zero_le _)
    have hrun : ∀ ty, (Builtin.append_ #[33, 33] ty #[.slice (some ⟨g, 0, none⟩) n cap, .slice (some ⟨vb, voff, none⟩) m vc]).run Tryd.prog w = .ok v' w' := fun ty => hr
    have hcap' : cap ≤ 9223372036854775807 := by unfold maxLen at hcap; omega
    clear hown hg hcap
    go_enter Tryd.func155, Tryd.ntmps155
    go_wp2_with (at_builtin; refine Lib.wpList_append_run _ rfl _ _ _ _ rfl _ _ rfl rfl _ _ (hrun _) ?_)
    all_goals (go_ret; exact ⟨v', rfl, r1, r2, r4⟩)

theorem setCells_setRow (g : Nat) (t : TypeId) : ∀ (vs : List Value) (o : Nat) (cur : Array Value) (w : World), w.heap[g]? = some (.cells cur t (0, 0)) → o + vs.length ≤ cur.size →
    w.setCells g o vs = w.setRow g (cur.toList.take o ++ vs ++ cur.toList.drop (o + vs.length)).toArray
  | [], o, cur, w, hg, _ => by
    rw [List.append_nil, List.length_nil, Nat.add_zero, List.take_append_drop, Array.toArray_toList, setRow_self w g cur t (0, 0) hg]
    rfl
  | v :: rest, o, cur, w, hg, hl => by
    rw [List.length_cons] at hl
    rw [World.setCells, setCell_eq_setRow w g o cur t (0, 0) v hg, setCells_setRow g t rest (o + 1) (cur.setIfInBounds o v) _ (setRow_heap w g cur _ t _ hg) (by simp; omega), setRow_setRow]
    have e := list_seg_step cur.toList o v rest (by simp; omega)
    congr 2
    simpa [Array.toList_setIfInBounds] using e
theorem setRow_grown (w : World) (g : Nat) (cs : Array Value) : w.grownBy (w.setRow g cs) (some g) :=
  ⟨rfl, rfl, rfl, by simp [World.setRow], fun k _ hne => setRow_other w g k cs (fun e => hne (by rw [e]))⟩
theorem size_setRow (w : World) (g : Nat) (cs : Array Value) : (w.setRow g cs).heap.size = w.heap.size := by simp [World.setRow]
theorem drew_grown (w : World) (r : Option Nat) : w.grownBy w.drew r := ⟨rfl, rfl, rfl, Nat.le_refl _, fun _ _ _ => rfl⟩
/-- What lies in the row after both copies. -/
theorem insert_list {cur cs vs : List Value} {i n m c : Nat} (hi : i ≤ n) (hnm : n + m ≤ c) (hcur : cur.length = c * 2) (hcl : cs.length = n * 2) (hvl : vs.length = m * 2) (hpre : cur.take (i * 2) = cs.take (i * 2)) :
    (((cur.take ((i + m) * 2) ++ cs.drop (i * 2) ++ cur.drop ((i + m) * 2 + (cs.drop (i * 2)).length)).take (i * 2) ++ vs ++ (cur.take ((i + m) * 2) ++ cs.drop (i * 2) ++ cur.drop ((i + m) * 2 + (cs.drop (i * 2)).length)).drop (i * 2 + vs.length)).take ((n + m) * 2)) = cs.take (i * 2) ++ vs ++ cs.drop (i * 2) := by
  have hd : (cs.drop (i * 2)).length = (n - i) * 2 := by rw [List.length_drop, hcl, Nat.sub_mul]
  have h1 : (cur.take ((i + m) * 2)).length = (i + m) * 2 := by rw [List.length_take]; omega
  have e1 : (cur.take ((i + m) * 2) ++ cs.drop (i * 2) ++ cur.drop ((i + m) * 2 + (cs.drop (i * 2)).length)).take (i * 2) = cs.take (i * 2) := by
    rw [List.append_assoc, List.take_append_of_le_length (by omega), List.take_take, Nat.min_eq_left (by omega), hpre]
  have e2 : (cur.take ((i + m) * 2) ++ cs.drop (i * 2) ++ cur.drop ((i + m) * 2 + (cs.drop (i * 2)).length)).drop (i * 2 + vs.length) = cs.drop (i * 2) ++ cur.drop ((i + m) * 2 + (cs.drop (i * 2)).length) := by
    rw [List.append_assoc, List.drop_append_of_le_length (by omega), List.drop_of_length_le (by omega), List.nil_append]
  rw [e1, e2, ← List.append_assoc, List.take_append_of_le_length (by simp only [List.length_append, List.length_take, hvl, hd, hcl]; omega), List.take_of_length_le (by simp only [List.length_append, List.length_take, hvl, hd, hcl]; omega)]
theorem insert_size {cur cs vs : List Value} {i n m c : Nat} (hi : i ≤ n) (hnm : n + m ≤ c) (hcur : cur.length = c * 2) (hcl : cs.length = n * 2) (hvl : vs.length = m * 2) :
    ((cur.take ((i + m) * 2) ++ cs.drop (i * 2) ++ cur.drop ((i + m) * 2 + (cs.drop (i * 2)).length)).length = c * 2) ∧ ((cur.take ((i + m) * 2) ++ cs.drop (i * 2) ++ cur.drop ((i + m) * 2 + (cs.drop (i * 2)).length)).take (i * 2) ++ vs ++ (cur.take ((i + m) * 2) ++ cs.drop (i * 2) ++ cur.drop ((i + m) * 2 + (cs.drop (i * 2)).length)).drop (i * 2 + vs.length)).length = c * 2 := by
  have hd : (cs.drop (i * 2)).length = (n - i) * 2 := by rw [List.length_drop, hcl, Nat.sub_mul]
  have h1 : (cur.take ((i + m) * 2)).length = (i + m) * 2 := by rw [List.length_take]; omega
  have hL : (cur.take ((i + m) * 2) ++ cs.drop (i * 2) ++ cur.drop ((i + m) * 2 + (cs.drop (i * 2)).length)).length = c * 2 := by
    simp only [List.length_append, h1, hd, List.length_drop, hcur]; omega
  refine ⟨hL, ?_⟩
  revert hL
  generalize cur.take ((i + m) * 2) ++ cs.drop (i * 2) ++ cur.drop ((i + m) * 2 + (cs.drop (i * 2)).length) = L
  intro hL
  rw [List.length_append, List.length_append, List.length_take, List.length_drop, hL, hvl]
  omega
/-- **slices.Insert at []Pin: own slices, whatever room there is.** -/
theorem Tryd.Insert_Pin (v u : Value) (n m i : Nat) (cs vs : List Value) (w : World) (hown : w.ownsRow 0 28 2 v n cs) (hu : w.ownsRow 0 28 2 u m vs) (hne : ∀ B, v.ownBlock = some B → u.ownBlock ≠ some B) (hi : i ≤ n) (hm : 0 < m) (h63 : n + m ≤ 1099511627776)
    (h1c : ∀ x ∈ cs, x.oneCell' = true) (h1v : ∀ x ∈ vs, x.oneCell' = true) :
    Calls Tryd.prog 155 #[v, .int .i64 i, u] w fun e w' =>
      ∃ v', e = .returned v' ∧ w'.ownsRow 0 28 2 v' (n + m) (cs.take (i * 2) ++ vs ++ cs.drop (i * 2)) ∧ w.grownBy w' v.ownBlock ∧ (v'.ownBlock = v.ownBlock ∨ v'.ownBlock = some w.heap.size) := by
  rcases hu.2 with ⟨_, h0⟩ | ⟨vb, vc, cv, rfl, _, hvb, hmc, hvcap, hvs, hvt⟩
  · omega
  have hvcell := hu.cells (g := vb) rfl
  have hvc : ∀ j x, vs[j]? = some x → w.cell? ⟨vb, 0 + j, none⟩ = some x := fun j x hj => by
    have := hvcell j x hj
    rwa [Addr.add_lit] at this
  by_cases hin : i = n
  · subst hin
    have hcl := hown.1
    refine (Tryd.Insert_Pin_end v i vb 0 m vc cs vs w hown hm h63 hu.1 hvc h1v).mono fun e w' ⟨v', q1, q2, q3, q4⟩ => ⟨v', q1, ?_, q3, q4⟩
    rw [List.take_of_length_le (by omega), List.drop_of_length_le (by omega), List.append_nil]
    exact q2
  · rcases hown.2 with ⟨_, h0⟩ | ⟨b, c, cur, rfl, _, hb, hnc, hcap, hcur, hct⟩
    · omega
    have hcl := hown.1
    have hbv : vb ≠ b := fun e => hne b rfl (by rw [e]; rfl)
    have hcell := hown.cells (g := b) rfl
    have hcc : ∀ j x, cs[j]? = some x → w.cell? ⟨b, j, none⟩ = some x := fun j x hj => by
      have := hcell j x hj
      rwa [Addr.add_lit, Nat.zero_add] at this
    have hlt : b < w.heap.size := (Array.getElem?_eq_some_iff.1 hb).1
    have hcap' : c ≤ 9223372036854775807 := by unfold maxLen at hcap; omega
    have hpre : cur.toList.take (i * 2) = cs.take (i * 2) := by
      rw [← hct, List.take_take, Nat.min_eq_left (by omega)]
    by_cases hroom : n + m ≤ c
    · have hcells : ∀ j, j < (n + m) * 2 → (w.cell? ⟨b, j, none⟩).isSome = true := fun j hj => by
        simp only [World.cell?, hb]
        rw [if_neg (by simp), Array.getElem?_eq_getElem (by omega)]; rfl
      refine (Tryd.Insert_Pin_shift b n c i vb 0 m vc cs vs w (by omega) hm hroom hcap' hbv hcl hu.1 hcc hcells (fun j hj => by simp [World.frozen?, hb]) hvc h1c h1v 28 28 cv.size cur.size (by simp [World.shape?, hvb]) (by simp [World.shape?, hb]) (by omega) (by simp [World.frozen?, hvb]) (by simp [World.frozen?, hvb])).mono fun e w' ⟨q1, q2⟩ => ⟨_, q1, ?_⟩
      have hb0 : w.drew.heap[b]? = some (.cells cur 28 (0, 0)) := hb
      have hcur' : cur.toList.length = c * 2 := by rw [Array.length_toList]; exact hcur
      obtain ⟨hs1, hs2⟩ := insert_size (cur := cur.toList) (cs := cs) (vs := vs) (i := i) (n := n) (m := m) (c := c) (by omega) hroom hcur' hcl hu.1
      have hdl : (cs.drop (i * 2)).length = (n - i) * 2 := by rw [List.length_drop, hcl, Nat.sub_mul]
      have hvl := hu.1
      have e1 := setCells_setRow b 28 (cs.drop (i * 2)) ((i + m) * 2) cur w.drew hb0 (by omega)
      have hb1 := setRow_heap w.drew b cur (cur.toList.take ((i + m) * 2) ++ cs.drop (i * 2) ++ cur.toList.drop ((i + m) * 2 + (cs.drop (i * 2)).length)).toArray 28 (0, 0) hb0
      have e2 := setCells_setRow b 28 vs (i * 2) _ _ hb1 (by rw [List.size_toArray, hs1]; omega)
      rw [setRow_setRow] at e2
      rw [e1, e2] at q2
      have hb2 := setRow_heap w.drew b cur ((cur.toList.take ((i + m) * 2) ++ cs.drop (i * 2) ++ cur.toList.drop ((i + m) * 2 + (cs.drop (i * 2)).length)).take (i * 2) ++ vs ++ (cur.toList.take ((i + m) * 2) ++ cs.drop (i * 2) ++ cur.toList.drop ((i + m) * 2 + (cs.drop (i * 2)).length)).drop (i * 2 + vs.length)).toArray 28 (0, 0) hb0
      refine ⟨⟨?_, .inr ⟨b, c, _, rfl, Nat.zero_le _, by rw [q2]; exact hb2, hroom, hcap, by rw [List.size_toArray]; exact hs2, ?_⟩⟩, ?_, .inl rfl⟩
      · simp only [List.length_append, List.length_take, hdl, hvl, hcl]; omega
      · show (List.take _ _) = _
        exact insert_list (by omega) hroom hcur' hcl hu.1 hpre
      · rw [q2]
        exact (drew_grown w (some b)).trans (setRow_grown w.drew b _)
    · refine (Tryd.Insert_Pin_grow b n c i vb 0 m vc cs vs w (by omega) hm hnc (by omega) (by omega) hcl hu.1 hcc hvc h1c h1v).mono fun e w' ⟨q1, q2⟩ => ⟨_, q1, ?_⟩
      have hG := grownCap_ge w (n + m) c 28
      have hGm := grownCap_le_maxLen w (n + m) c 28 (by unfold maxLen; omega)
      generalize grownCap w (n + m) c 28 = G at q1 q2 hG hGm ⊢
      generalize hROW : (cs.take (i * 2)).toArray ++ Builtin.zeroCells (Value.agg #[.string ⟨#[]⟩, .string ⟨#[]⟩]).cells (n + m - i) ++ Builtin.zeroCells (Value.agg #[.string ⟨#[]⟩, .string ⟨#[]⟩]).cells (G - (n + m)) = ROW at q2
      have hRs : ROW.size = G * 2 := by
        rw [← hROW, Array.size_append, Array.size_append, size_zeroCells, size_zeroCells]
        have : (Value.agg #[.string ⟨#[]⟩, .string ⟨#[]⟩]).cells.size = 2 := rfl
        rw [this, List.size_toArray, List.length_take]; omega
      have hRt : ROW.toList.take (i * 2) = cs.take (i * 2) := by
        rw [← hROW, Array.toList_append, Array.toList_append, List.append_assoc, List.take_append_of_le_length (by simp; omega)]
        simp [List.take_take]
      have hdl : (cs.drop (i * 2)).length = (n - i) * 2 := by rw [List.length_drop, hcl, Nat.sub_mul]
      have hvl := hu.1
      have hb0 : ((w.alloc (.cells ROW 28)).drew).heap[w.heap.size]? = some (.cells ROW 28 (0, 0)) := by
        show (w.heap.push _)[w.heap.size]? = _
        simp
      have e1 := setCells_setRow w.heap.size 28 vs (i * 2) ROW _ hb0 (by omega)
      have hR1 : (ROW.toList.take (i * 2) ++ vs ++ ROW.toList.drop (i * 2 + vs.length)).length = G * 2 := by
        simp only [List.length_append, List.length_take, List.length_drop, Array.length_toList, hvl, hRs]; omega
      have hb1 : (((w.alloc (.cells ROW 28)).drew.setRow w.heap.size (ROW.toList.take (i * 2) ++ vs ++ ROW.toList.drop (i * 2 + vs.length)).toArray).drew).heap[w.heap.size]? = some (.cells _ 28 (0, 0)) := setRow_heap _ w.heap.size ROW _ 28 (0, 0) hb0
      have e2 := setCells_setRow w.heap.size 28 (cs.drop (i * 2)) ((i + m) * 2) _ _ hb1 (by rw [List.size_toArray, hR1]; omega)
      rw [e1, e2] at q2
      have hb2 := setRow_heap _ w.heap.size _ ((ROW.toList.take (i * 2) ++ vs ++ ROW.toList.drop (i * 2 + vs.length)).take ((i + m) * 2) ++ cs.drop (i * 2) ++ (ROW.toList.take (i * 2) ++ vs ++ ROW.toList.drop (i * 2 + vs.length)).drop ((i + m) * 2 + (cs.drop (i * 2)).length)).toArray 28 (0, 0) hb1
      have hl1 : (ROW.toList.take (i * 2) ++ vs).length = (i + m) * 2 := by
        rw [List.length_append, List.length_take, Array.length_toList, hvl, hRs]; omega
      have e3 : (ROW.toList.take (i * 2) ++ vs ++ ROW.toList.drop (i * 2 + vs.length)).take ((i + m) * 2) = cs.take (i * 2) ++ vs := by
        rw [List.take_append_of_le_length (by omega), List.take_of_length_le (by omega), hRt]
      refine ⟨⟨?_, .inr ⟨w.heap.size, G, _, rfl, Nat.zero_le _, by rw [q2]; exact hb2, hG, hGm, ?_, ?_⟩⟩, ?_, .inr rfl⟩
      · simp only [List.length_append, List.length_take, hdl, hvl, hcl]; omega
      · rw [List.size_toArray, List.length_append, List.length_append, List.length_take, hdl, List.length_drop, hR1]; omega
      · show (List.take _ _) = _
        rw [e3, List.take_append_of_le_length (by simp only [List.length_append, List.length_take, hdl, hvl, hcl]; omega), List.take_of_length_le (by simp only [List.length_append, List.length_take, hdl, hvl, hcl]; omega)]
      · rw [q2]
        refine ⟨rfl, rfl, rfl, ?_, fun k hk _ => ?_⟩
        · rw [size_setRow]
          show _ ≤ ((w.alloc (.cells ROW 28)).drew.setRow w.heap.size _).heap.size
          rw [size_setRow]
          show _ ≤ (w.heap.push _).size
          rw [Array.size_push]; omega
        rw [setRow_other _ _ _ _ (by omega)]
        show ((w.alloc (.cells ROW 28)).drew.setRow w.heap.size _).heap[k]? = _
        rw [setRow_other _ _ _ _ (by omega)]
        show (w.heap.push _)[k]? = _
        rw [Array.getElem?_push, if_neg (by omega)]
end Go.Proofs
