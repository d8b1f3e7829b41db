/- Plain facts on chapter 2's Read: words of a text. Conditions: none. -/
import Derived.Test.YtlbndchfmdogeaaDoorNlf
import Derived.Test.YtlbndchfmdogeaaDoorPle
import Derived.Laws.RangeString
set_option linter.unusedVariables false
set_option linter.unusedSimpArgs false
namespace Go.Proofs.YtlbndchfmdogeaaDoor.Sym
open Go Go.RowKit

/-- A byte that no word of a text has. -/
def badB (b : UInt8) : Bool := decide (b.toNat < 33) || decide (b.toNat > 126) || decide (b.toNat = 46)
def plainW (s : ByteArray) : Bool := decide (s ≠ ⟨#[]⟩) && s.data.toList.all fun b => !badB b
theorem bt_lt {s : ByteArray} {i : Nat} (h : i < s.size) : bt s (i : Int) = ((s[i]'h).toNat : Int) := by
  unfold bt
  rw [dif_pos (by simpa using h)]
  rfl
theorem decode_bad {s : ByteArray} {i : Nat} (h : i < s.size) (hb : 128 ≤ (s[i]'h).toNat) : 128 ≤ (Utf8.decode s i).1 := by
  have e : s.get! (i + 0) = s[i]'h := by
    show s.get! i = _
    simp [ByteArray.get!, getElem!_pos, h]
    rfl
  unfold Utf8.decode
  simp only [e]
  rw [if_neg (by omega)]
  have hr : 128 ≤ Utf8.runeError := by decide
  repeat' split
  all_goals first | exact hr | (rename_i hc; simp only [Bool.and_eq_true, decide_eq_true_eq, ge_iff_le] at hc ⊢; omega) | (simp only; omega)
theorem ref_word_text (s : ByteArray) : ref_isListWord s = some (plainW s) := by
  unfold ref_isListWord
  have hfor : forN (fun i1 _ => ref_isListWord_b0 s i1) s.size 0 () = some (if s.data.toList.any badB then .ret false else .fin ()) := by
    have hsz : s.size = s.data.toList.length := by rw [Array.length_toList]; rfl
    rw [hsz]
    refine forN_any fun j hj => ?_
    have hj' : j < s.size := by rw [hsz]; exact hj
    unfold ref_isListWord_b0
    have hbt : bt s (j : Int) = (((s.data.toList[j]'hj).toNat : Nat) : Int) := by rw [bt_lt hj']; rfl
    have hg : (0 : Int) ≤ (j : Int) ∧ (j : Int) < (s.size : Int) := by omega
    rw [grd_pos hg, hbt]
    generalize s.data.toList[j]'hj = b
    unfold badB
    by_cases h1 : b.toNat < 33
    · rw [decide_eq_true (by omega), cnd_t, bnd1_some, cnd_t, decide_eq_true h1]; rfl
    · rw [decide_eq_false (by omega), cnd_f, grd_pos hg, decide_eq_false h1]
      by_cases h2 : b.toNat > 126
      · rw [decide_eq_true (by omega), cnd_t, bnd1_some, cnd_t, decide_eq_true h2]; rfl
      · rw [decide_eq_false (by omega), cnd_f, grd_pos hg, bnd1_some, decide_eq_false h2]
        by_cases h3 : b.toNat = 46
        · rw [show (((b.toNat : Nat) : Int) == 46) = true by simp [h3], cnd_t, decide_eq_true h3]; rfl
        · rw [show (((b.toNat : Nat) : Int) == 46) = false by simp; omega, cnd_f, decide_eq_false h3]; rfl
  have hfor' : forN (fun i1 s_1 => ref_isListWord_b0 s i1) s.size 0 () = some (if s.data.toList.any badB then .ret false else .fin ()) := hfor
  rw [hfor']
  unfold plainW
  have hall : (s.data.toList.all fun b => !badB b) = !(s.data.toList.any badB) := by
    rw [List.all_eq_not_any_not]; simp
  rw [hall, sNe_iff]
  cases s.data.toList.any badB with
  | true => simp [aft0_ret]
  | false => simp [aft0_fin]
theorem plain1 (c : Int) : nl_isPlain_1 c = some (decide (c < 33) || (decide (c > 126) || c == 46)) := by
  unfold nl_isPlain_1
  by_cases h1 : c < 33
  · rw [decide_eq_true h1]; rfl
  · rw [decide_eq_false h1, cnd_f]
    by_cases h2 : c > 126
    · rw [decide_eq_true h2]; rfl
    · rw [decide_eq_false h2]; rfl
theorem nl_word_loop {s : ByteArray} : ∀ (n y : Nat), y ≤ s.size → s.size - y < n → ∃ f : Fin' Nat Int, iter (fun y => strings_indexFunc_b0 (fun z0 => nl_isPlain_1 z0) s true y) n y = some f ∧
    ((∃ q, f = .fin q) ∧ (∀ j (h : j < s.size), y ≤ j → badB s[j] = false) ∨ (∃ q : Nat, f = .ret (q : Int)) ∧ ∃ j, ∃ h : j < s.size, badB s[j] = true)
  | 0, y, _, h => by omega
  | n + 1, y, hy, h => by
    have hst : strings_indexFunc_b0 (fun z0 => nl_isPlain_1 z0) s true y = cnd (decide (y < s.size)) (bnd (nl_isPlain_1 ((Utf8.decode s y).1 : Int)) fun r3 => cnd (r3 == true) (some (.ret (y : Int))) (some (.go (y + (Utf8.decode s y).2)))) (some (.brk y)) := rfl
    simp only [iter, hst]
    by_cases hlt : y < s.size
    · rw [decide_eq_true hlt, cnd_t, plain1, bnd_some]
      by_cases hb : badB s[y] = true
      · have hp : (decide (((Utf8.decode s y).1 : Int) < 33) || (decide (((Utf8.decode s y).1 : Int) > 126) || ((Utf8.decode s y).1 : Int) == 46)) = true := by
          by_cases h8 : (s[y]).toNat < 128
          · rw [decode_ascii s y hlt h8]
            simp only [badB, Bool.or_eq_true, decide_eq_true_eq] at hb
            simp only [Bool.or_eq_true, decide_eq_true_eq, beq_iff_eq]
            omega
          · have := decode_bad hlt (by omega)
            simp only [Bool.or_eq_true, decide_eq_true_eq, beq_iff_eq]
            omega
        rw [hp, show (true == true) = true from rfl, cnd_t]
        exact ⟨_, rfl, .inr ⟨⟨y, rfl⟩, y, hlt, hb⟩⟩
      · have hb' : badB s[y] = false := by simpa using hb
        have h8 : (s[y]).toNat < 128 := by
          simp only [badB, Bool.or_eq_false_iff, decide_eq_false_iff_not] at hb'
          omega
        have hp : (decide (((Utf8.decode s y).1 : Int) < 33) || (decide (((Utf8.decode s y).1 : Int) > 126) || ((Utf8.decode s y).1 : Int) == 46)) = false := by
          rw [decode_ascii s y hlt h8]
          simp only [badB, Bool.or_eq_false_iff, decide_eq_false_iff_not] at hb'
          simp only [Bool.or_eq_false_iff, decide_eq_false_iff_not, beq_eq_false_iff_ne]
          omega
        rw [hp, show (false == true) = false from rfl, cnd_f, decode_ascii s y hlt h8]
        obtain ⟨f, h1, h2⟩ := nl_word_loop (s := s) n (y + 1) (by omega) (by omega)
        refine ⟨f, h1, h2.imp (fun ⟨q, r⟩ => ⟨q, fun j hj hyj => ?_⟩) id⟩
        by_cases e : j = y
        · subst e; exact hb'
        · exact r j hj (by omega)
    · rw [decide_eq_false hlt, cnd_f]
      exact ⟨_, rfl, .inl ⟨⟨y, rfl⟩, fun j hj hyj => by omega⟩⟩
theorem nl_word_text (s : ByteArray) : nl_isPlain s = some (plainW s) := by
  unfold nl_isPlain plainW
  rw [sNe_iff]
  by_cases h0 : s = ⟨#[]⟩
  · rw [decide_eq_false (fun q => q h0), cnd_f, bnd1_some]; rfl
  · rw [decide_eq_true h0, cnd_t]
    unfold strings_ContainsFunc strings_IndexFunc strings_indexFunc
    obtain ⟨f, h1, h2⟩ := nl_word_loop (s := s) (s.size + 1) 0 (Nat.zero_le _) (by omega)
    rw [loop_i h1]
    have key : (s.data.toList.all fun b => !badB b) = true ↔ ∀ j (h : j < s.size), badB s[j] = false := by
      rw [List.all_eq_true]
      refine ⟨fun q j hj => ?_, fun q x hx => ?_⟩
      · have := q (s.data.toList[j]'(by rw [Array.length_toList]; exact hj)) (List.getElem_mem _)
        rw [Bool.not_eq_true'] at this
        exact this
      · obtain ⟨j, hj, rfl⟩ := List.mem_iff_getElem.1 hx
        have := q j (by rw [Array.length_toList] at hj; exact hj)
        rw [Bool.not_eq_true']
        exact this
    rcases h2 with ⟨⟨q, rfl⟩, r⟩ | ⟨⟨q, rfl⟩, j, hj, r⟩
    · rw [key.2 fun j hj => r j hj (Nat.zero_le _)]; rfl
    · have hf : (s.data.toList.all fun b => !badB b) = false := by
        rw [← Bool.not_eq_true, key]
        intro e
        rw [e j hj] at r; cases r
      rw [hf]
      rw [aft1_ret, bnd_some, bnd_some, bnd_some, decide_eq_true (by omega)]; rfl

/-! ### Cut at one byte -/
def cutF (c : UInt8) (a : ByteArray) : ByteArray × ByteArray × Bool :=
  if 0 ≤ Lib.indexByte a.data.toList c then (a.extract 0 (Lib.indexByte a.data.toList c).toNat, a.extract ((Lib.indexByte a.data.toList c).toNat + 1) a.size, true) else (a, ⟨#[]⟩, false)
theorem cut_eq1 {a : ByteArray} {c : UInt8} (h : a.size < lim) : strings_Cut a ⟨#[c]⟩ = some (cutF c a) := by
  have hlim : lim = 1099511627776 := rfl
  have hsz : a.data.toList.length = a.size := by rw [Array.length_toList]; rfl
  unfold strings_Cut internal_stringslite_Cut
  have hi : h_Index2 a ⟨#[c]⟩ = some (Lib.indexByte a.data.toList c) := rfl
  rw [hi, bnd_some]
  have hlt := index_lt a.data.toList c
  unfold cutF
  generalize Lib.indexByte a.data.toList c = n at hlt
  have h1 : ((ByteArray.mk #[c]).size : Int) = 1 := rfl
  rw [h1]
  by_cases h0 : 0 ≤ n
  · have e : w64 (n + 1) = n + 1 := w64_id (by omega) (by omega)
    rw [decide_eq_true (by omega), cnd_t, grd_pos ⟨by omega, by omega, by omega⟩, e, grd_pos ⟨by omega, by omega⟩, bnd_some, if_pos h0]
    have e2 : (n + 1).toNat = n.toNat + 1 := by omega
    rw [e2]; rfl
  · rw [decide_eq_false (by omega), cnd_f, bnd_some, if_neg h0]
theorem cutF_size {c : UInt8} {a : ByteArray} : (cutF c a).1.size ≤ a.size ∧ (cutF c a).2.1.size ≤ a.size ∧ ((cutF c a).2.2 = true → (cutF c a).2.1.size < a.size) := by
  have hsz : a.data.toList.length = a.size := by rw [Array.length_toList]; rfl
  have hlt := index_lt a.data.toList c
  unfold cutF
  split
  · refine ⟨?_, ?_, fun _ => ?_⟩ <;> simp only [ByteArray.size_extract] <;> omega
  · exact ⟨Nat.le_refl _, Nat.zero_le _, fun q => by cases q⟩
end Go.Proofs.YtlbndchfmdogeaaDoor.Sym
