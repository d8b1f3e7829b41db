/- A contract of slices.Delete at []Net, walked at this dump. Conditions: the part to be taken out is not empty. -/
import Derived.Shelf.RegionOpenPlain
import Derived.WalkKit
import Derived.Deep.RegionLaw
import Derived.Lib.Walk
import Derived.Lib.SliceRun
import Derived.Test.YtlbndchfmdogeaaDoorShelc
set_option linter.unusedVariables false
set_option linter.unusedSimpArgs false
namespace Go.Proofs
open Go.Shelf Go.RowKit Go.Lib
variable {P : Program}

theorem run_clear_cellsK (w : World) (t e ty : TypeId) (z : Value) (k : Nat) (ht : P.underlying t = some (.slice e)) (hv : ∀ w, (zeroValue e).run P w = .ok z w) (b o n c : Nat) (hn : 0 < n) (cs : List Value) (hcs : cs = (Builtin.zeroCells z.cells n).toList) (h1 : ∀ v ∈ cs, v.oneCell' = true)
    (hc : ∀ j, j < cs.length → (w.cell? ⟨b, o + j, none⟩).isSome = true) (hf : ∀ j, j < cs.length → w.frozen? ⟨b, o + j, none⟩ = false) :
    (Builtin.clear_ #[t] ty #[.slice (some ⟨b, o, none⟩) n c]).run P w = .ok (.tuple #[]) (w.setCells b o cs) := by
  have hst := run_storeCells_cells (P := P) b o cs 0 w (by simpa using hc) (by simpa using hf) h1
  simp only [Nat.add_zero] at hst
  obtain ⟨m, rfl⟩ : ∃ m, n = m + 1 := ⟨n - 1, by omega⟩
  simp [Builtin.clear_, run_underlying ht, hv, ← hcs, hst]
theorem isSome_setCells_blk (b : Nat) (vs : List Value) (o : Nat) (w : World) (h : ∀ j, j < vs.length → (w.cell? ⟨b, o + j, none⟩).isSome = true) (k : Nat) (hk : (w.cell? ⟨b, k, none⟩).isSome = true) : ((w.setCells b o vs).cell? ⟨b, k, none⟩).isSome = true := isSome_setCells b vs o w h k hk
theorem Tryd.info64 : (Tryd.prog.info? 64).map (fun i => (i.zero, i.size, i.bytes)) = some (some (.agg #[.string ⟨#[]⟩, .slice none 0 0, .slice none 0 0]), 3, 64) := by kernel_rfl
abbrev netZ : Value := .agg #[.string ⟨#[]⟩, .slice none 0 0, .slice none 0 0]
theorem netZ_one (n : Nat) : ∀ v ∈ (Builtin.zeroCells netZ.cells n).toList, v.oneCell' = true := by
  intro v hv
  have hz : netZ.cells = #[.string ⟨#[]⟩, .slice none 0 0, .slice none 0 0] := rfl
  rw [hz, Array.mem_toList_iff] at hv
  obtain ⟨i, hi, rfl⟩ := Array.mem_iff_getElem.1 hv
  simp only [Builtin.zeroCells, Array.getElem_ofFn]
  have h3 : i % 3 = 0 ∨ i % 3 = 1 ∨ i % 3 = 2 := by omega
  rcases h3 with h3 | h3 | h3 <;> simp [h3] <;> rfl

set_option maxHeartbeats 4000000 in
set_option maxRecDepth 1000000 in
theorem Tryd.Delete_Net_lt (g n cap i j : Nat) (cur : Array Value) (news zs : List Value) (w : World) (hg : w.heap[g]? = some (.cells cur 64 (0, 0))) (hcur : cur.size = cap * 3) (hn : n ≤ cap) (hm : cap ≤ 9223372036854775807) (hij : i < j) (hj : j ≤ n)
    (hnews : news = (cur.toList.take (n * 3)).drop (j * 3)) (hzs : zs = (Builtin.zeroCells netZ.cells (n - (i + (n - j)))).toList) (h1 : ∀ v ∈ news, v.oneCell' = true) :
    Calls Tryd.prog 106 #[.slice (some ⟨g, 0, none⟩) n cap, .int .i64 i, .int .i64 j] w fun e w' =>
      e = .returned (.slice (some ⟨g, 0, none⟩) (i + (n - j)) cap) ∧ w' = (w.drew.setCells g (i * 3) news).setCells g ((i + (n - j)) * 3) zs := by
  have t0 := Tryd.underlying0; have t3 := Tryd.underlying3; have a3 := Tryd.isAgg3; have z3 := Tryd.sizeOf3; have v3 := Tryd.zeroValue3; have t4 := Tryd.underlying4; have a4 := Tryd.isAgg4; have z4 := Tryd.sizeOf4; have v4 := Tryd.zeroValue4
  have t64 := Tryd.underlying64; have a64 := Tryd.isAgg64; have z64 := Tryd.sizeOf64; have v64 := Tryd.zeroValue64; have t24 := Tryd.underlying24; have a24 := Tryd.isAgg24; have z24 := Tryd.sizeOf24; have v24 := Tryd.zeroValue24
  have u3 := run_underlying t3; have u4 := run_underlying t4; have u64 := run_underlying t64; have u24 := run_underlying t24
  have mixed : Tryd.prog.follows .mixedOrders = true := by kernel_rfl
  obtain ⟨i0, hi0, hz0, hz1, hz2⟩ := info_parts Tryd.info64
  have hcell : ∀ k (hk : k < cur.size), w.cell? ⟨g, k, none⟩ = some cur[k] := fun k hk => by simp [World.cell?, hg, hk]
  have hlen : news.length = (n - j) * 3 := by rw [hnews, List.length_drop, List.length_take, Array.length_toList]; omega
  have hget : ∀ t u, news[t]? = some u → w.cell? ⟨g, j * 3 + t, none⟩ = some u := fun t u hu => by
    rw [hnews, List.getElem?_drop, List.getElem?_take] at hu
    split at hu
    · rw [Array.getElem?_toList] at hu
      obtain ⟨hk, rfl⟩ := Array.getElem?_eq_some_iff.1 hu
      exact hcell _ hk
    · cases hu
  obtain ⟨A, hA, hsrc⟩ : ∃ A : Addr, (if cap = j then some (⟨g, 0, none⟩ : Addr) else some ⟨g, j * 3, none⟩) = some A ∧ Hid (∀ t u, news[t]? = some u → w.drew.cell? (A.add t) = some u) := by
    by_cases h : cap = j
    · refine ⟨⟨g, 0, none⟩, by simp [h], fun t u hu => ?_⟩
      have h0 : news.length = 0 := by rw [hlen]; omega
      rw [List.length_eq_zero_iff.1 h0] at hu
      simp at hu
    · refine ⟨⟨g, j * 3, none⟩, by simp [h], fun t u hu => ?_⟩
      rw [Addr.add_lit]
      exact hget t u hu
  have s1 : Hid (news.length = (n - j) * 3) := hlen
  have s2 : Hid (∀ u ∈ news, u.oneCell' = true) := h1
  have s3 : Hid (∀ t, t < news.length → (w.drew.cell? ⟨g, 0 + i * 3 + t, none⟩).isSome = true ∧ w.drew.frozen? ⟨g, 0 + i * 3 + t, none⟩ = false) := by
    intro t ht
    rw [hlen] at ht
    refine ⟨?_, by show w.frozen? _ = false; simp [World.frozen?, hg]⟩
    show (w.cell? _).isSome = true
    rw [hcell _ (by omega)]; rfl
  obtain ⟨W1, hW1⟩ : ∃ W1, W1 = w.drew.setCells g (i * 3) news := ⟨_, rfl⟩
  have hW1' : W1 = w.drew.setCells g (0 + i * 3) news := by rw [hW1, Nat.zero_add]
  have hzl : zs.length = (j - i) * 3 := by
    rw [hzs, Array.length_toList, size_zeroCells]
    show (n - (i + (n - j))) * 3 = _
    omega
  have hc1 : ∀ k, k < cap * 3 → (W1.cell? ⟨g, k, none⟩).isSome = true := fun k hk => by
    rw [hW1]
    refine isSome_setCells_blk g news (i * 3) w.drew (fun t ht => ?_) k ?_
    · show (w.cell? _).isSome = true
      rw [hcell _ (by omega)]; rfl
    · show (w.cell? _).isSome = true
      rw [hcell _ (by omega)]; rfl
  have hf1 : ∀ k, W1.frozen? ⟨g, k, none⟩ = false := fun k => by
    rw [hW1, World.frozen?_setCells]
    show w.frozen? _ = false
    simp [World.frozen?, hg]
  have hcl : ∀ ty, (Builtin.clear_ #[24] ty #[.slice (some ⟨g, (i + (n - j)) * 3, none⟩) (n - (i + (n - j))) (cap - (i + (n - j)))]).run Tryd.prog W1 = .ok (.tuple #[]) (W1.setCells g ((i + (n - j)) * 3) zs) :=
    fun ty => run_clear_cellsK W1 24 64 ty netZ 3 t24 v64 g ((i + (n - j)) * 3) (n - (i + (n - j))) _ (by omega) zs hzs (by rw [hzs]; exact netZ_one _) (fun t ht => hc1 _ (by omega)) (fun t ht => hf1 _)
  have hW : Hid (W1 = w.drew.setCells g (0 + i * 3) news) := hW1'
  have hic : i ≤ cap := by omega
  have hjc : j ≤ cap := by omega
  clear hW1 hW1' hget hlen hcell hc1 hf1 hnews hzs hzl hg hcur
  go_enter Tryd.func106, Tryd.ntmps106
  go_wp2_with fail
  go_region_law_o (refine step_append_room rfl (.tmp 22) (.tmp 25) 24 rfl 64 i0 3 t24 hi0 hz1 g 0 i cap (by simp [Act.eval, Act.put]) A (n - j) (cap - j) news (by simp [Act.eval, Act.put]) s1.out hsrc.out s2.out (by omega) s3.out ?_; rw [← hW.out])
  go_wp2
  go_ret
  refine ⟨rfl, ?_⟩
  rw [hW.out, Nat.zero_add]

/-- **slices.Delete at []Net: an own slice.** -/
theorem Tryd.Delete_Net (v : Value) (n i j : Nat) (cs : List Value) (w : World) (hown : w.ownsRow 0 64 3 v n cs) (hij : i < j) (hj : j ≤ n) (h1c : ∀ x ∈ cs, x.oneCell' = true) :
    Calls Tryd.prog 106 #[v, .int .i64 i, .int .i64 j] w fun e w' =>
      ∃ v', e = .returned v' ∧ w'.ownsRow 0 64 3 v' (i + (n - j)) (cs.take (i * 3) ++ cs.drop (j * 3)) ∧ w.grownBy w' v.ownBlock ∧ v'.ownBlock = v.ownBlock := by
  rcases hown.2 with ⟨_, h0⟩ | ⟨g, cap, cur, rfl, _, hg, hn, hm, hcur, hct⟩
  · omega
  have hm' : cap ≤ 9223372036854775807 := by unfold maxLen at hm; omega
  have hcl := hown.1
  refine (Tryd.Delete_Net_lt g n cap i j cur (cs.drop (j * 3)) _ w hg hcur hn hm' hij hj (by rw [hct]) rfl (fun x hx => h1c x (List.mem_of_mem_drop hx))).mono fun e w' ⟨q1, q2⟩ => ⟨_, q1, ?_⟩
  generalize hzs : (Builtin.zeroCells netZ.cells (n - (i + (n - j)))).toList = zs at q2
  have hzl : zs.length = (j - i) * 3 := by
    rw [← hzs, Array.length_toList, size_zeroCells]
    show (n - (i + (n - j))) * 3 = _
    omega
  have hdl : (cs.drop (j * 3)).length = (n - j) * 3 := by rw [List.length_drop, hcl, Nat.sub_mul]
  have hcurl : cur.toList.length = cap * 3 := by rw [Array.length_toList]; exact hcur
  have hpre : cur.toList.take (i * 3) = cs.take (i * 3) := by
    rw [← hct, List.take_take, Nat.min_eq_left (by omega)]
  have hb0 : w.drew.heap[g]? = some (.cells cur 64 (0, 0)) := hg
  have e1 := setCells_setRow g 64 (cs.drop (j * 3)) (i * 3) cur w.drew hb0 (by omega)
  have hL1 : (cur.toList.take (i * 3) ++ cs.drop (j * 3) ++ cur.toList.drop (i * 3 + (cs.drop (j * 3)).length)).length = cap * 3 := by
    rw [List.length_append, List.length_append, List.length_take, hdl, List.length_drop, hcurl]; omega
  have hL1t : (cur.toList.take (i * 3) ++ cs.drop (j * 3) ++ cur.toList.drop (i * 3 + (cs.drop (j * 3)).length)).take ((i + (n - j)) * 3) = cs.take (i * 3) ++ cs.drop (j * 3) := by
    have hl : (cur.toList.take (i * 3) ++ cs.drop (j * 3)).length = (i + (n - j)) * 3 := by rw [List.length_append, List.length_take, hdl, hcurl]; omega
    rw [List.take_append_of_le_length (by omega), List.take_of_length_le (by omega), hpre]
  have hb1 := setRow_heap w.drew g cur (cur.toList.take (i * 3) ++ cs.drop (j * 3) ++ cur.toList.drop (i * 3 + (cs.drop (j * 3)).length)).toArray 64 (0, 0) hb0
  have e2 := setCells_setRow g 64 zs ((i + (n - j)) * 3) _ _ hb1 (by rw [List.size_toArray, hL1]; omega)
  rw [setRow_setRow] at e2
  rw [e1, e2] at q2
  have e3 : ∀ L : List Value, L.toArray.toList = L := fun L => rfl
  rw [e3] at q2
  generalize cur.toList.take (i * 3) ++ cs.drop (j * 3) ++ cur.toList.drop (i * 3 + (cs.drop (j * 3)).length) = L1 at q2 hL1 hL1t
  have hb2 := setRow_heap w.drew g cur (L1.take ((i + (n - j)) * 3) ++ zs ++ L1.drop ((i + (n - j)) * 3 + zs.length)).toArray 64 (0, 0) hb0
  refine ⟨⟨?_, .inr ⟨g, cap, _, rfl, Nat.zero_le _, by rw [q2]; exact hb2, by omega, hm, ?_, ?_⟩⟩, ?_, rfl⟩
  · rw [List.length_append, List.length_take, hdl, hcl]; omega
  · rw [List.size_toArray, List.length_append, List.length_append, List.length_take, List.length_drop, hL1, hzl]; omega
  · show (List.take _ _) = _
    rw [List.append_assoc, List.take_append_of_le_length (by rw [List.length_take, hL1]; omega), List.take_of_length_le (by rw [List.length_take, hL1]; omega), hL1t]
  · rw [q2]
    exact (drew_grown w (some g)).trans (setRow_grown w.drew g _)
end Go.Proofs
