/- Plain facts on chapter 2's functions: words, paths, types. Conditions: none. -/
import Derived.Test.YtlbndchfmdogeaaDoorKf3
import Derived.Test.YtlbndchfmdogeaaDoorPlc
set_option linter.unusedVariables false
set_option linter.unusedSimpArgs false
namespace Go.Proofs.YtlbndchfmdogeaaDoor.Sym
open Go Go.RowKit

/-! ### Words -/
def badC (c : Int) : Bool := (decide (c < 65) || decide (c > 90)) && ((decide (c < 97) || decide (c > 122)) && ((decide (c < 48) || decide (c > 57)) && decide (Lib.indexByte (⟨#[95, 43, 45, 35]⟩ : ByteArray).data.toList c.toNat.toUInt8 < 0)))
theorem nl_word_b {a : ByteArray} {i : Nat} (h : i < a.size) : nl_IsWord_b0 a i = some (if badC (bt a (i : Int)) then .ret false else .go ()) := by
  unfold nl_IsWord_b0 badC
  rw [grd_pos (by omega)]
  simp only [h_IndexByte, bnd_some]
  generalize decide (bt a (i : Int) < 65) = b1
  generalize decide (bt a (i : Int) > 90) = b2
  generalize decide (bt a (i : Int) < 97) = b3
  generalize decide (bt a (i : Int) > 122) = b4
  generalize decide (bt a (i : Int) < 48) = b5
  generalize decide (bt a (i : Int) > 57) = b6
  generalize decide (Lib.indexByte _ _ < 0) = b7
  cases b1 <;> cases b2 <;> cases b3 <;> cases b4 <;> cases b5 <;> cases b6 <;> cases b7 <;> rfl
theorem ref_word_b {a : ByteArray} {i : Nat} (h : i < a.size) : ref_IsWord_b0 a i = some (if badC (bt a (i : Int)) then .ret false else .go ()) := by
  unfold ref_IsWord_b0 badC
  rw [grd_pos (by omega)]
  simp only [h_IndexByte, bnd_some]
  generalize decide (bt a (i : Int) < 65) = b1
  generalize decide (bt a (i : Int) > 90) = b2
  generalize decide (bt a (i : Int) < 97) = b3
  generalize decide (bt a (i : Int) > 122) = b4
  generalize decide (bt a (i : Int) < 48) = b5
  generalize decide (bt a (i : Int) > 57) = b6
  generalize decide (Lib.indexByte _ _ < 0) = b7
  cases b1 <;> cases b2 <;> cases b3 <;> cases b4 <;> cases b5 <;> cases b6 <;> cases b7 <;> rfl
def wordAt (a : ByteArray) (i : Nat) : Option Bool := if badC (bt a (i : Int)) then some false else none
/-- A word. -/
def isW (a : ByteArray) : Bool := match (List.range' 0 a.size).findSome? (wordAt a) with
  | some r => r
  | none => decide ((a.size : Int) ≥ 1) && decide ((a.size : Int) ≤ 40)
theorem nl_word (a : ByteArray) : nl_IsWord a = some (isW a) := by
  unfold nl_IsWord
  rw [forN_find (N := a.size) (wordAt a) (fun j hj => by rw [nl_word_b hj]; unfold wordAt; split <;> rfl) _ 0 (Nat.zero_add _)]
  unfold isW
  cases (List.range' 0 a.size).findSome? (wordAt a) with
  | some r => rfl
  | none => rw [aft0_fin, cnd_some, bnd1_some]; cases decide ((a.size : Int) ≥ 1) <;> rfl
theorem ref_word (a : ByteArray) : ref_IsWord a = some (isW a) := by
  unfold ref_IsWord ref_within
  rw [forN_find (N := a.size) (wordAt a) (fun j hj => by rw [ref_word_b hj]; unfold wordAt; split <;> rfl) _ 0 (Nat.zero_add _)]
  unfold isW
  cases (List.range' 0 a.size).findSome? (wordAt a) with
  | some r => rfl
  | none =>
    rw [aft0_fin, cnd_some, bnd1_some, bnd_some]
    have : decide ((1 : Int) ≤ (a.size : Int)) = decide ((a.size : Int) ≥ 1) := rfl
    rw [this]; cases decide ((a.size : Int) ≥ 1) <;> rfl
theorem ref_within_eq (a b c : Int) : ref_within a b c = some (decide (b ≤ a) && decide (a ≤ c)) := by
  unfold ref_within
  rw [cnd_some, bnd1_some]; cases decide (b ≤ a) <;> rfl

/-! ### Splitting at one byte -/
theorem one1_of (c : UInt8) : one1 ⟨#[c]⟩ = some c := rfl
theorem genSplit_loop {a s : ByteArray} {c : UInt8} (hs : s = ⟨#[c]⟩) {a2 : Int} (h2 : a2 = 0) {v : Int} (hb' : a.size ≤ lim) {M : Nat} (hM : M ≤ lim) : ∀ (d : Nat) (y : ByteArray) (i : Nat) (l : List ByteArray), y.size ≤ M → (∀ w ∈ l, w.size ≤ M) → l.length ≤ lim → (l.length : Int) = mn v (w64 ((a.size : Int) + 1)) → i < l.length → l.length - i ≤ d →
    ∃ (y' : ByteArray) (i' : Nat) (l' : List ByteArray), i' < l'.length ∧ l'.length = l.length ∧ y'.size ≤ M ∧ (∀ w ∈ l', w.size ≤ M) ∧ iter (fun q => strings_genSplit_b0 a s a2 v q.1 q.2.1 q.2.2) (d + 1) (y, (i : Int), l) = some (.fin (y', (i' : Int), l'))
  | d, y, i, l, hy, hw, hl, hn, hi, hd => by
    have hlim : lim = 1099511627776 := rfl
    have hss : s.size = 1 := by rw [hs]; rfl
    have hx : h_Index y s = some (Lib.indexByte y.data.toList c) := by rw [hs]; rfl
    by_cases h : (i : Int) < (l.length : Int) - 1
    · by_cases hneg : Lib.indexByte y.data.toList c < 0
      · have hb : strings_genSplit_b0 a s a2 v y (i : Int) l = some (.brk (y, (i : Int), l)) := by
          unfold strings_genSplit_b0
          rw [← hn, w64_id (n := (l.length : Int) - 1) (by omega) (by omega), decide_eq_true h, cnd_t, hx, bnd_some, decide_eq_true hneg, cnd_t]
        exact ⟨y, i, l, hi, rfl, hy, hw, by simp only [iter, hb]⟩
      · have hlt : Lib.indexByte y.data.toList c < (y.size : Int) := by
          rcases index_lt y.data.toList c with q | q
          · have : y.data.toList.length = y.size := by rw [Array.length_toList]; rfl
            omega
          · omega
        generalize Lib.indexByte y.data.toList c = k at hneg hlt hx
        have hwi : w64 ((i : Int) + 1) = ((i + 1 : Nat) : Int) := by rw [w64_id (by omega) (by omega)]; omega
        have hb : strings_genSplit_b0 a s a2 v y (i : Int) l = some (.go (y.extract (k + ((1 : Nat) : Int)).toNat y.size, ((i + 1 : Nat) : Int), l.set ((i : Int)).toNat (y.extract (Int.toNat 0) (k + 0).toNat))) := by
          unfold strings_genSplit_b0
          rw [← hn, w64_id (n := (l.length : Int) - 1) (by omega) (by omega), decide_eq_true h, cnd_t, hx, bnd_some, decide_eq_false hneg, cnd_f, h2, hss, w64_id (n := k + 0) (by omega) (by omega), w64_id (n := k + ((1 : Nat) : Int)) (by omega) (by omega), grd_pos (by omega), atI_lt hi, bnd_some, grd_pos (by omega), hwi]
        cases d with
        | zero => omega
        | succ d =>
          have hsz : (y.extract (k + ((1 : Nat) : Int)).toNat y.size).size ≤ M := by
            rw [ByteArray.size_extract]; omega
          have hwd : ∀ w ∈ l.set ((i : Int)).toNat (y.extract (Int.toNat 0) (k + 0).toNat), w.size ≤ M := fun w q => by
            rcases List.mem_or_eq_of_mem_set q with q | rfl
            · exact hw w q
            · rw [ByteArray.size_extract]; omega
          obtain ⟨y', i', l', q1, q2, q4, q5, q3⟩ := genSplit_loop hs h2 (v := v) hb' hM d (y.extract (k + ((1 : Nat) : Int)).toNat y.size) (i + 1) (l.set ((i : Int)).toNat (y.extract (Int.toNat 0) (k + 0).toNat)) hsz hwd (by simpa using hl) (by simpa using hn) (by simp; omega) (by simp; omega)
          refine ⟨y', i', l', q1, by rw [q2]; simp, q4, q5, ?_⟩
          rw [iter]
          simp only [hb]
          exact q3
    · have hb : strings_genSplit_b0 a s a2 v y (i : Int) l = some (.brk (y, (i : Int), l)) := by
        unfold strings_genSplit_b0
        rw [← hn, w64_id (n := (l.length : Int) - 1) (by omega) (by omega), decide_eq_false h, cnd_f]
      exact ⟨y, i, l, hi, rfl, hy, hw, by simp only [iter, hb]⟩
theorem split_some' {a s : ByteArray} {c : UInt8} (hs : s = ⟨#[c]⟩) (ha : a.size < lim) : ∃ l, strings_Split a s = some l ∧ l.length ≤ a.size + 1 ∧ l ≠ [] ∧ ∀ w ∈ l, w.size ≤ a.size := by
  have hlim : lim = 1099511627776 := rfl
  unfold strings_Split strings_genSplit
  have h0 : ((-1 : Int) == 0) = false := rfl
  have h1 : sEq s (⟨#[]⟩ : ByteArray) = false := by
    rw [sEq_iff, hs]; simp
  rw [h0, cnd_f, h1, cnd_f, decide_eq_true (show (-1 : Int) < 0 by omega), cnd_t]
  have hx : h_Count a s = some (Lib.countByte a.data.toList c : Int) := by rw [hs]; rfl
  have hc : Lib.countByte a.data.toList c ≤ a.size := by
    have := List.count_le_length (a := c) (l := a.data.toList)
    have e : a.data.toList.length = a.size := by rw [Array.length_toList]; rfl
    unfold Lib.countByte; omega
  rw [hx, bnd_some, bnd1_some]
  generalize Lib.countByte a.data.toList c = n at hc
  have hw1 : w64 ((n : Int) + 1) = ((n + 1 : Nat) : Int) := by rw [w64_id (by omega) (by omega)]; omega
  have hw2 : w64 ((a.size : Int) + 1) = ((a.size + 1 : Nat) : Int) := by rw [w64_id (by omega) (by omega)]; omega
  have hm : mn ((n + 1 : Nat) : Int) ((a.size + 1 : Nat) : Int) = ((n + 1 : Nat) : Int) := by unfold mn; rw [if_neg (by omega)]
  rw [hw1, hw2, hm, grd_pos (by omega)]
  obtain ⟨y', i', l', q1, q2, q5, q6, q3⟩ := genSplit_loop (a := a) hs (a2 := 0) rfl (v := ((n + 1 : Nat) : Int)) (by omega) (M := a.size) (by omega) (n + 1) a 0 (List.replicate (Int.toNat ((n + 1 : Nat) : Int)) (⟨#[]⟩ : ByteArray)) (Nat.le_refl _) (fun w q => by rw [List.eq_of_mem_replicate q]; exact Nat.zero_le _) (by simp; omega) (by rw [hw2, hm]; simp) (by simp) (by simp)
  have hlen : l'.length = n + 1 := by rw [q2]; simp
  have q4 : loop (fun q : ByteArray × Int × List ByteArray => strings_genSplit_b0 a s 0 ((n + 1 : Nat) : Int) q.1 q.2.1 q.2.2) (a, (0 : Int), List.replicate (Int.toNat ((n + 1 : Nat) : Int)) (⟨#[]⟩ : ByteArray)) = some (.fin (y', (i' : Int), l')) := loop_i q3
  rw [q4, aft3_fin, atI_lt q1, bnd_some]
  have hw3 : w64 ((i' : Int) + 1) = ((i' + 1 : Nat) : Int) := by rw [w64_id (by omega) (by omega)]; omega
  rw [hw3, grd_pos (by simp; omega), bnd_some]
  refine ⟨_, rfl, ?_, ?_, fun w q => ?_⟩
  · simp; omega
  · intro q
    have := congrArg List.length q
    rw [List.length_drop, List.length_take, List.length_set, List.length_nil] at this
    omega
  · rcases List.mem_or_eq_of_mem_set (List.mem_of_mem_take (List.mem_of_mem_drop q)) with q | rfl
    · exact q6 w q
    · exact q5
theorem split_some {a s : ByteArray} {c : UInt8} (hs : s = ⟨#[c]⟩) (ha : a.size < lim) : ∃ l, strings_Split a s = some l ∧ l.length ≤ a.size + 1 := by
  obtain ⟨l, h1, h2, _⟩ := split_some' hs ha
  exact ⟨l, h1, h2⟩

/-! ### Paths -/
/-- The words of a path. -/
noncomputable def wordsOf (a : ByteArray) : List ByteArray := (strings_Split a (⟨#[47]⟩ : ByteArray)).getD []
noncomputable def isP (a : ByteArray) : Bool := decide ((a.size : Int) ≤ 200) && (wordsOf a).all isW
theorem nl_path (a : ByteArray) (ha : a.size < lim) : nl_IsPath a = some (isP a) := by
  obtain ⟨l, hl, hlen⟩ := split_some (a := a) (s := ⟨#[47]⟩) (c := 47) rfl ha
  unfold nl_IsPath isP wordsOf
  rw [hl]
  have hany : slices_ContainsFunc_string_string l (fun z0 => nl_IsPath_1 z0) = some (l.any fun w => !isW w) := by
    have e : slices_IndexFunc_string_string l (fun z0 => nl_IsPath_1 z0) = LIN (fun z0 => nl_IsPath_1 z0) l := rfl
    unfold slices_ContainsFunc_string_string
    rw [e, LIN_eq (q := fun w => !isW w) (fun x _ => by unfold nl_IsPath_1; rw [nl_word]; rfl), bnd_some, ixBy_any]
  rw [bnd_some, hany, bnd_some, cnd_some, bnd1_some]
  simp only [Option.getD_some]
  congr 1
  have : (!l.any fun w => !isW w) = l.all isW := by rw [List.not_any_eq_all_not]; simp
  rw [this]
  cases decide ((a.size : Int) ≤ 200) <;> rfl
theorem ref_path (a : ByteArray) (ha : a.size < lim) : ref_IsPath a = some (isP a) := by
  obtain ⟨l, hl, hlen⟩ := split_some (a := a) (s := ⟨#[47]⟩) (c := 47) rfl ha
  unfold ref_IsPath isP wordsOf
  rw [hl, bnd_some, forN_any (p := fun w => !isW w) (r := false) (fun j hj => by
    unfold ref_IsPath_b0
    rw [atI_lt hj, bnd_some, ref_word, bnd_some, cnd_some]
    cases isW l[j] <;> rfl)]
  simp only [Option.getD_some]
  have : l.all isW = !l.any fun w => !isW w := by rw [List.not_any_eq_all_not]; simp
  rw [this]
  cases l.any fun w => !isW w <;> simp [aft0_fin, aft0_ret]
end Go.Proofs.YtlbndchfmdogeaaDoor.Sym
