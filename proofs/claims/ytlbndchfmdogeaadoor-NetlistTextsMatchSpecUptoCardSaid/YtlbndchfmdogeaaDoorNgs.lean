/- Plain facts on strings: the bytes of what is joined, Cut and Split of it. Conditions: none. -/
import Derived.Test.YtlbndchfmdogeaaDoorNgb
set_option linter.unusedVariables false
set_option linter.unusedSimpArgs false
namespace Go.Proofs.YtlbndchfmdogeaaDoor.Sym
open Go Go.RowKit

abbrev bl (a : ByteArray) : List UInt8 := a.data.toList
theorem bl_len (a : ByteArray) : (bl a).length = a.size := by rw [Array.length_toList]; rfl
theorem bl_app (a b : ByteArray) : bl (a ++ b) = bl a ++ bl b := by
  show (a ++ b).data.toList = _
  rw [ByteArray.data_append, Array.toList_append]
theorem bl_ext (a : ByteArray) (i j : Nat) : bl (a.extract i j) = ((bl a).drop i).take (j - i) := by
  show (a.extract i j).data.toList = _
  rw [ByteArray.data_extract, Array.toList_extract, List.extract_eq_take_drop]
theorem ba_assoc (a b c : ByteArray) : a ++ b ++ c = a ++ (b ++ c) := ba_ext (by simp only [bl_app, List.append_assoc])
theorem ba_nil (a : ByteArray) : a ++ (⟨#[]⟩ : ByteArray) = a := ba_ext (by rw [show (a ++ (⟨#[]⟩ : ByteArray)).data.toList = bl a ++ bl ⟨#[]⟩ from bl_app _ _]; simp [bl])
theorem ba_nil' (a : ByteArray) : (⟨#[]⟩ : ByteArray) ++ a = a := ba_ext (by rw [show ((⟨#[]⟩ : ByteArray) ++ a).data.toList = bl ⟨#[]⟩ ++ bl a from bl_app _ _]; simp [bl])
theorem ba_size (a b : ByteArray) : (a ++ b).size = a.size + b.size := ByteArray.size_append
theorem ext_left (a b : ByteArray) : (a ++ b).extract 0 a.size = a := ba_ext (by
  rw [show ((a ++ b).extract 0 a.size).data.toList = _ from bl_ext _ _ _, bl_app, List.drop_zero, Nat.sub_zero, ← bl_len, List.take_left])
theorem ext_right (a b : ByteArray) : (a ++ b).extract a.size (a ++ b).size = b := ba_ext (by
  rw [show ((a ++ b).extract a.size (a ++ b).size).data.toList = _ from bl_ext _ _ _, bl_app, ← bl_len a, List.drop_left, ba_size, ← bl_len a, ← bl_len b, List.take_of_length_le (by omega)])

theorem index_mid (c : UInt8) (v : List UInt8) : ∀ u : List UInt8, c ∉ u → Lib.indexByte (u ++ c :: v) c = (u.length : Int)
  | [], _ => by simp [Lib.indexByte]
  | b :: u, h => by
    have h1 : (b == c) = false := by
      rw [beq_eq_false_iff_ne]; exact fun e => h (e ▸ List.mem_cons_self)
    have ih := index_mid c v u (fun q => h (List.mem_cons_of_mem _ q))
    have h2 : ((u.length : Int) == -1) = false := by rw [beq_eq_false_iff_ne]; omega
    rw [List.cons_append, Lib.indexByte, h1, ih, h2]
    simp
theorem cut_mid {c : UInt8} {a : ByteArray} (b : ByteArray) (h : c ∉ bl a) : cutF c (a ++ ((⟨#[c]⟩ : ByteArray) ++ b)) = (a, b, true) := by
  have e : Lib.indexByte (bl (a ++ ((⟨#[c]⟩ : ByteArray) ++ b))) c = (a.size : Int) := by
    rw [bl_app, bl_app, ← bl_len]
    exact index_mid c (bl b) (bl a) h
  unfold cutF
  rw [e, if_pos (by omega), Int.toNat_natCast, ext_left]
  have e2 : a.size + 1 = (a ++ (⟨#[c]⟩ : ByteArray)).size := by rw [ba_size]; rfl
  rw [e2, ← ba_assoc, ext_right]

/-! ### Concatenation -/
def catB : List ByteArray → ByteArray
  | [] => ⟨#[]⟩
  | a :: l => a ++ catB l
theorem catB_app : ∀ (l m : List ByteArray), catB (l ++ m) = catB l ++ catB m
  | [], m => (ba_nil' _).symm
  | a :: l, m => by
    rw [List.cons_append, catB, catB, catB_app l m, ba_assoc]
theorem catB_one (a : ByteArray) : catB [a] = a := ba_nil a
theorem catB_take (l : List ByteArray) (j : Nat) (h : j < l.length) : catB (l.take (j + 1)) = catB (l.take j) ++ l[j] := by
  rw [List.take_succ_eq_append_getElem h, catB_app, catB_one]
theorem catB_take_size (l : List ByteArray) (j : Nat) : (catB (l.take j)).size ≤ (catB l).size := by
  conv => rhs; rw [← List.take_append_drop j l, catB_app, ba_size]
  omega
theorem mem_catB {c : UInt8} : ∀ {l : List ByteArray}, c ∈ bl (catB l) → ∃ a ∈ l, c ∈ bl a
  | [], h => by simp [catB, bl] at h
  | a :: l, h => by
    rw [catB, bl_app, List.mem_append] at h
    rcases h with h | h
    · exact ⟨a, List.mem_cons_self, h⟩
    · obtain ⟨x, hx, hc⟩ := mem_catB h
      exact ⟨x, List.mem_cons_of_mem _ hx, hc⟩

/-! ### Words, joined by blanks -/
abbrev sp1 : ByteArray := ⟨#[32]⟩
def joinB (w : ByteArray) (ws : List ByteArray) : ByteArray := w ++ catB (ws.map fun v => sp1 ++ v)
theorem joinB_nil (w : ByteArray) : joinB w [] = w := ba_nil w
theorem joinB_cons (w v : ByteArray) (r : List ByteArray) : joinB w (v :: r) = w ++ (sp1 ++ joinB v r) := by
  unfold joinB
  rw [List.map_cons, catB, ba_assoc sp1]
theorem count_join : ∀ (ws : List ByteArray) (w : ByteArray), (32 : UInt8) ∉ bl w → (∀ v ∈ ws, (32 : UInt8) ∉ bl v) → Lib.countByte (bl (joinB w ws)) 32 = ws.length
  | [], w, h, _ => by
    rw [joinB_nil]
    exact List.count_eq_zero.2 h
  | v :: r, w, h, hv => by
    have ih := count_join r v (hv v List.mem_cons_self) (fun x hx => hv x (List.mem_cons_of_mem _ hx))
    unfold Lib.countByte at ih ⊢
    rw [joinB_cons, bl_app, bl_app, List.count_append, List.count_append, ih, List.count_eq_zero.2 h, List.length_cons]
    show 0 + (List.count 32 [(32 : UInt8)] + r.length) = _
    rw [List.count_singleton_self]; omega
theorem split_loop {a : ByteArray} {n : Nat} (ha : a.size < lim) (hn : n ≤ a.size) : ∀ (ws : List ByteArray) (w : ByteArray) (pre l : List ByteArray), (32 : UInt8) ∉ bl w → (∀ v ∈ ws, (32 : UInt8) ∉ bl v) → (joinB w ws).size ≤ a.size → l.length = n + 1 → pre.length + ws.length = n → l.take pre.length = pre →
    ∃ e l', iter (fun s : ByteArray × Int × List ByteArray => strings_genSplit_b0 a sp1 0 ((n + 1 : Nat) : Int) s.1 s.2.1 s.2.2) (ws.length + 1) (joinB w ws, (pre.length : Int), l) = some (.fin (e, (n : Int), l')) ∧ l'.length = n + 1 ∧ l'.take n ++ [e] = pre ++ w :: ws := by
  have hlim : lim = 1099511627776 := rfl
  have hw2 : w64 ((a.size : Int) + 1) = ((a.size + 1 : Nat) : Int) := by rw [w64_id (by omega) (by omega)]; omega
  have hm : mn ((n + 1 : Nat) : Int) ((a.size + 1 : Nat) : Int) = ((n + 1 : Nat) : Int) := by unfold mn; rw [if_neg (by omega)]
  have hk : w64 ((mn ((n + 1 : Nat) : Int) (w64 ((a.size : Int) + 1))) - 1) = (n : Int) := by
    rw [hw2, hm, w64_id (by omega) (by omega)]; omega
  intro ws
  induction ws with
  | nil =>
    intro w pre l h1 h2 h3 h4 h5 h6
    have e : pre.length = n := by simpa using h5
    have hb : strings_genSplit_b0 a sp1 0 ((n + 1 : Nat) : Int) (joinB w []) (pre.length : Int) l = some (.brk (joinB w [], (pre.length : Int), l)) := by
      unfold strings_genSplit_b0
      rw [hk, decide_eq_false (by omega), cnd_f]
    refine ⟨w, l, ?_, h4, by rw [← e, h6]⟩
    rw [List.length_nil, iter]
    simp only [hb]
    rw [joinB_nil, e]
  | cons v r ih =>
    intro w pre l h1 h2 h3 h4 h5 h6
    rw [List.length_cons] at h5
    have hi : Lib.indexByte (bl (joinB w (v :: r))) 32 = (w.size : Int) := by
      rw [joinB_cons, bl_app, bl_app, ← bl_len]
      exact index_mid 32 _ (bl w) h1
    have hsz : (joinB w (v :: r)).size = w.size + (1 + (joinB v r).size) := by rw [joinB_cons, ba_size, ba_size]; rfl
    have hx : h_Index (joinB w (v :: r)) sp1 = some (w.size : Int) := by rw [← hi]; rfl
    have hwa : w64 ((w.size : Int) + 0) = (w.size : Int) := by rw [Int.add_zero, w64_id (by omega) (by omega)]
    have hwb : w64 ((w.size : Int) + (sp1.size : Int)) = ((w.size + 1 : Nat) : Int) := by
      have : (sp1.size : Int) = 1 := rfl
      rw [this, w64_id (by omega) (by omega)]; omega
    have hwc : w64 ((pre.length : Int) + 1) = ((pre.length + 1 : Nat) : Int) := by rw [w64_id (by omega) (by omega)]; omega
    have hb : strings_genSplit_b0 a sp1 0 ((n + 1 : Nat) : Int) (joinB w (v :: r)) (pre.length : Int) l = some (.go (joinB v r, (((pre ++ [w]).length : Nat) : Int), l.set pre.length w)) := by
      unfold strings_genSplit_b0
      rw [hk, decide_eq_true (by omega), cnd_t, hx, bnd_some, decide_eq_false (by omega), cnd_f, hwa, grd_pos ⟨by omega, by omega, by omega⟩, atI_lt (by omega), bnd_some, hwb, grd_pos ⟨by omega, by omega⟩, hwc]
      have e1 : (joinB w (v :: r)).extract (Int.toNat ((w.size + 1 : Nat) : Int)) (joinB w (v :: r)).size = joinB v r := by
        rw [Int.toNat_natCast, joinB_cons, ← ba_assoc]
        have : w.size + 1 = (w ++ sp1).size := by rw [ba_size]; rfl
        rw [this, ext_right]
      have e2 : (joinB w (v :: r)).extract (Int.toNat 0) (Int.toNat (w.size : Int)) = w := by
        rw [Int.toNat_natCast, joinB_cons]
        exact ext_left _ _
      rw [e1, e2, Int.toNat_natCast, List.length_append]
      rfl
    obtain ⟨e, l', k1, k2, k3⟩ := ih v (pre ++ [w]) (l.set pre.length w) (h2 v List.mem_cons_self) (fun x hx => h2 x (List.mem_cons_of_mem _ hx)) (by omega) (by rw [List.length_set]; exact h4) (by rw [List.length_append, List.length_singleton]; omega) (by
      rw [List.length_append, List.length_singleton, List.take_succ_eq_append_getElem (by rw [List.length_set]; omega), List.getElem_set_self, List.take_set_of_le (Nat.le_refl _), h6])
    refine ⟨e, l', ?_, k2, by rw [k3, List.append_assoc]; rfl⟩
    rw [List.length_cons, iter]
    simp only [hb]
    exact k1
theorem split_join {w : ByteArray} {ws : List ByteArray} (h1 : (32 : UInt8) ∉ bl w) (h2 : ∀ v ∈ ws, (32 : UInt8) ∉ bl v) (ha : (joinB w ws).size < lim) : strings_Split (joinB w ws) sp1 = some (w :: ws) := by
  have hlim : lim = 1099511627776 := rfl
  unfold strings_Split strings_genSplit
  have h0 : ((-1 : Int) == 0) = false := rfl
  have h3 : sEq sp1 (⟨#[]⟩ : ByteArray) = false := by
    rw [sEq_iff]; simp
  rw [h0, cnd_f, h3, cnd_f, decide_eq_true (show (-1 : Int) < 0 by omega), cnd_t]
  have hx : h_Count (joinB w ws) sp1 = some (ws.length : Int) := by
    rw [← count_join ws w h1 h2]; rfl
  have hc : ws.length ≤ (joinB w ws).size := by
    have := List.count_le_length (a := (32 : UInt8)) (l := bl (joinB w ws))
    have e := count_join ws w h1 h2
    unfold Lib.countByte at e
    rw [bl_len] at this; omega
  rw [hx, bnd_some, bnd1_some]
  have hw1 : w64 ((ws.length : Int) + 1) = ((ws.length + 1 : Nat) : Int) := by rw [w64_id (by omega) (by omega)]; omega
  have hw2 : w64 (((joinB w ws).size : Int) + 1) = (((joinB w ws).size + 1 : Nat) : Int) := by rw [w64_id (by omega) (by omega)]; omega
  have hm : mn ((ws.length + 1 : Nat) : Int) (((joinB w ws).size + 1 : Nat) : Int) = ((ws.length + 1 : Nat) : Int) := by unfold mn; rw [if_neg (by omega)]
  rw [hw1, hw2, hm, grd_pos (by omega)]
  obtain ⟨e, l', q1, q2, q3⟩ := split_loop (a := joinB w ws) (n := ws.length) ha hc ws w [] (List.replicate (Int.toNat ((ws.length + 1 : Nat) : Int)) (⟨#[]⟩ : ByteArray)) h1 h2 (Nat.le_refl _) (by rw [List.length_replicate]; rfl) (by simp) rfl
  have q4 : loop (fun q : ByteArray × Int × List ByteArray => strings_genSplit_b0 (joinB w ws) sp1 0 ((ws.length + 1 : Nat) : Int) q.1 q.2.1 q.2.2) (joinB w ws, (0 : Int), List.replicate (Int.toNat ((ws.length + 1 : Nat) : Int)) (⟨#[]⟩ : ByteArray)) = some (.fin (e, (ws.length : Int), l')) := loop_i q1
  rw [q4, aft3_fin, atI_lt (by omega), bnd_some]
  rw [hw1, grd_pos ⟨by omega, by omega, by simp; omega⟩, bnd_some]
  congr 1
  have e1 : Int.toNat (0 : Int) + (((ws.length + 1 : Nat) : Int) - (0 : Int)).toNat = ws.length + 1 := by simp
  have e2 : Int.toNat (ws.length : Int) = ws.length := Int.toNat_natCast _
  rw [e1, e2]
  show ((l'.set ws.length e).take (ws.length + 1)).drop 0 = _
  rw [List.drop_zero, List.take_succ_eq_append_getElem (by rw [List.length_set]; omega), List.getElem_set_self, List.take_set_of_le (Nat.le_refl _), q3]
  rfl

/-! ### Plain words -/
theorem plain_nin {w : ByteArray} (h : plainW w = true) {c : UInt8} (hc : badB c = true) : c ∉ bl w := by
  unfold plainW at h
  rw [Bool.and_eq_true, List.all_eq_true] at h
  intro q
  have := h.2 c q
  rw [hc] at this; cases this
end Go.Proofs.YtlbndchfmdogeaaDoor.Sym
