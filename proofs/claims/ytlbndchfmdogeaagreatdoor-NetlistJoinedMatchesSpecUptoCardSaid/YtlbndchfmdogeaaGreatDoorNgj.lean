/- Plain facts on pins in order, and on lists in which two nets are one (chapter 2). Conditions: none. -/
import Derived.Test.YtlbndchfmdogeaaGreatDoorNgq
set_option linter.unusedVariables false
set_option linter.unusedSimpArgs false
namespace Go.Proofs.YtlbndchfmdogeaaGreatDoor.Sym
open Go Go.RowKit

/-! ### Pins in order -/
def ple (p q : Pin) : Bool := decide (¬ plt q p)
def sortP (l : List Pin) : List Pin := l.mergeSort ple
theorem ple_trans (a b c : Pin) (h : ple a b = true) (k : ple b c = true) : ple a c = true := by
  simp only [ple, decide_eq_true_eq] at h k ⊢
  intro q
  rcases plt_total b c with h1 | rfl | h1
  · exact h (plt_trans h1 q)
  · exact h q
  · exact k h1
theorem ple_total (a b : Pin) : (ple a b || ple b a) = true := by
  simp only [ple, Bool.or_eq_true, decide_eq_true_eq]
  rcases plt_total a b with h | rfl | h
  · exact .inl fun q => plt_irrefl _ (plt_trans h q)
  · exact .inl (plt_irrefl _)
  · exact .inr fun q => plt_irrefl _ (plt_trans h q)
theorem sortP_perm (l : List Pin) : (sortP l).Perm l := List.mergeSort_perm _ _
theorem sortP_pw (l : List Pin) : (sortP l).Pairwise fun p q => ple p q = true := List.pairwise_mergeSort ple_trans ple_total l
theorem eq_sortP {l m : List Pin} (h : m.Perm l) (hs : m.Pairwise fun p q => ple p q = true) : m = sortP l := by
  refine List.Perm.eq_of_pairwise (le := fun p q => ple p q = true) (fun a b _ _ h1 h2 => ?_) hs (sortP_pw l) (h.trans (sortP_perm l).symm)
  simp only [ple, decide_eq_true_eq] at h1 h2
  rcases plt_total a b with q | q | q
  · exact (h2 q).elim
  · exact q
  · exact (h1 q).elim
theorem sortP_congr {l m : List Pin} (h : l.Perm m) : sortP l = sortP m := eq_sortP ((sortP_perm l).trans h) (sortP_pw l)
theorem sortP_len (l : List Pin) : (sortP l).length = l.length := (sortP_perm l).length_eq
theorem sortP_lt {l : List Pin} (h : l.Nodup) : (sortP l).Pairwise plt := by
  have hn : (sortP l).Nodup := (sortP_perm l).nodup_iff.2 h
  refine (List.Pairwise.and (sortP_pw l) hn).imp fun {a b} ⟨h1, h2⟩ => ?_
  simp only [ple, decide_eq_true_eq] at h1
  rcases plt_total a b with q | q | q
  · exact q
  · exact (h2 q).elim
  · exact (h1 q).elim
theorem ins_sorted {out : List Pin} {p : Pin} {k : Nat} (hs : out.Pairwise fun p q => ple p q = true) (hk : k ≤ out.length) (h1 : ∀ (h : 0 < k), ¬ plt p (out[k - 1]'(by omega))) (h2 : ∀ j (hj : j < out.length), k ≤ j → plt p out[j]) :
    (out.take k ++ p :: out.drop k).Pairwise fun p q => ple p q = true := by
  have hs' := List.pairwise_iff_getElem.1 hs
  rw [List.pairwise_append]
  refine ⟨hs.sublist (List.take_sublist _ _), List.pairwise_cons.2 ⟨fun q hq => ?_, hs.sublist (List.drop_sublist _ _)⟩, fun a ha b hb => ?_⟩
  · obtain ⟨j, hj, rfl⟩ := List.mem_iff_getElem.1 hq
    rw [List.getElem_drop]
    rw [List.length_drop] at hj
    have := h2 (k + j) (by omega) (by omega)
    simp only [ple, decide_eq_true_eq]
    exact fun q => plt_irrefl _ (plt_trans this q)
  · have hall : ple a p = true := by
      obtain ⟨j, hj, rfl⟩ := List.mem_take_iff_getElem.1 ha
      have hj2 : j < k := by omega
      have h3 := h1 (by omega)
      have h4 : ple (out[k - 1]'(by omega)) p = true := by simpa only [ple, decide_eq_true_eq] using h3
      by_cases e : j = k - 1
      · subst e; exact h4
      · exact ple_trans _ _ _ (hs' j (k - 1) (by omega) (by omega) (by omega)) h4
    rcases List.mem_cons.1 hb with rfl | hb
    · exact hall
    · obtain ⟨j, hj, rfl⟩ := List.mem_iff_getElem.1 hb
      rw [List.getElem_drop]
      rw [List.length_drop] at hj
      have := h2 (k + j) (by omega) (by omega)
      refine ple_trans _ _ _ hall ?_
      simp only [ple, decide_eq_true_eq]
      exact fun q => plt_irrefl _ (plt_trans this q)
theorem ins_perm (out : List Pin) (p : Pin) (k : Nat) : (out.take k ++ p :: out.drop k).Perm (p :: out) := by
  have := List.perm_middle (a := p) (l₁ := out.take k) (l₂ := out.drop k)
  rwa [List.take_append_drop] at this

/-! ### Two nets in one -/
theorem nodup_of_plt {l : List Pin} (h : l.Pairwise plt) : l.Nodup := by
  show l.Pairwise fun a b => a ≠ b
  exact h.imp fun {a b} q e => by rw [e] at q; exact plt_irrefl b q
theorem erase_perm {α : Type} {l : List α} {k : Nat} (hk : k < l.length) : (l[k] :: l.eraseIdx k).Perm l := by
  rw [List.eraseIdx_eq_take_drop_succ]
  conv => rhs; rw [← List.take_append_drop k l, List.drop_eq_getElem_cons hk]
  exact List.perm_middle.symm
/-- The net of two. -/
def netJ (a b : Net) : Net := ⟨a.Name, sortP (a.Pins ++ b.Pins), []⟩
def joinN (l : List Net) (i k : Nat) (hi : i < l.length) (hk : k < l.length) : List Net := (l.set i (netJ l[i] l[k])).eraseIdx k

section
variable {l : List Net} {i k : Nat} {hi : i < l.length} {hk : k < l.length}
theorem joinN_len : (joinN l i k hi hk).length = l.length - 1 := by
  unfold joinN
  rw [List.length_eraseIdx_of_lt (by rw [List.length_set]; exact hk), List.length_set]
/-- Where a net of it comes from. -/
theorem joinN_get {a : Nat} (ha : a < (joinN l i k hi hk).length) : ∃ b, ∃ hb : b < l.length, b ≠ k ∧ b = (if a < k then a else a + 1) ∧ (joinN l i k hi hk)[a] = if b = i then netJ l[i] l[k] else l[b] := by
  have hl := joinN_len (l := l) (i := i) (k := k) (hi := hi) (hk := hk)
  refine ⟨if a < k then a else a + 1, by split <;> omega, by split <;> omega, rfl, ?_⟩
  have ha2 : a < ((l.set i (netJ l[i] l[k])).eraseIdx k).length := ha
  show ((l.set i (netJ l[i] l[k])).eraseIdx k)[a]'ha2 = _
  rw [List.getElem_eraseIdx]
  by_cases h : a < k
  · simp only [h, dif_pos, if_true, List.getElem_set]
    by_cases e : i = a
    · subst e; simp
    · rw [if_neg e, if_neg (fun q => e q.symm)]
  · simp only [h, dif_neg, if_false, List.getElem_set, not_false_eq_true]
    by_cases e : i = a + 1
    · subst e; simp
    · rw [if_neg e, if_neg (fun q => e q.symm)]
theorem joinN_mem {n : Net} (h : n ∈ joinN l i k hi hk) : n = netJ l[i] l[k] ∨ n ∈ l := by
  obtain ⟨a, ha, rfl⟩ := List.mem_iff_getElem.1 h
  obtain ⟨b, hb, _, _, e⟩ := joinN_get ha
  rw [e]
  split
  · exact .inl rfl
  · exact .inr (List.getElem_mem hb)
/-- What a net of it has. -/
theorem joinN_pins {a : Nat} (ha : a < (joinN l i k hi hk).length) {p : Pin} : p ∈ (joinN l i k hi hk)[a].Pins ↔ ∃ b, ∃ hb : b < l.length, p ∈ l[b].Pins ∧ (b = (if a < k then a else a + 1) ∨ b = k ∧ i = (if a < k then a else a + 1)) := by
  obtain ⟨b, hb, h1, h2, e⟩ := joinN_get ha
  rw [e, ← h2]
  by_cases h : b = i
  · subst h
    rw [if_pos rfl]
    unfold netJ
    simp only
    rw [(sortP_perm _).mem_iff, List.mem_append]
    constructor
    · rintro (q | q)
      · exact ⟨b, hb, q, .inl rfl⟩
      · exact ⟨k, hk, q, .inr (by simp)⟩
    · rintro ⟨c, hc, q, rfl | ⟨rfl, _⟩⟩
      · exact .inl q
      · exact .inr q
  · rw [if_neg h]
    constructor
    · exact fun q => ⟨b, hb, q, .inl rfl⟩
    · rintro ⟨c, hc, q, rfl | ⟨_, rfl⟩⟩
      · exact q
      · exact (h rfl).elim
theorem joinN_flat (hik : i ≠ k) : ((joinN l i k hi hk).flatMap (·.Pins)).Perm (l.flatMap (·.Pins)) := by
  have hset : k < (l.set i (netJ l[i] l[k])).length := by rw [List.length_set]; exact hk
  have hset' : i < (l.set i (netJ l[i] l[k])).length := by rw [List.length_set]; exact hi
  have e1 : ((l.set i (netJ l[i] l[k]))[k] :: joinN l i k hi hk).Perm (l.set i (netJ l[i] l[k])) := erase_perm hset
  have e2 : ((l.set i (netJ l[i] l[k]))[i] :: (l.set i (netJ l[i] l[k])).eraseIdx i).Perm (l.set i (netJ l[i] l[k])) := erase_perm hset'
  rw [List.getElem_set_ne hik] at e1
  rw [List.getElem_set_self, List.eraseIdx_set_eq] at e2
  have e3 : (l[i] :: l.eraseIdx i).Perm l := erase_perm hi
  have f1 := e1.flatMap_right (·.Pins)
  have f2 := e2.flatMap_right (·.Pins)
  have f3 := e3.flatMap_right (·.Pins)
  simp only [List.flatMap_cons] at f1 f2 f3
  have f4 : (netJ l[i] l[k]).Pins.Perm (l[k].Pins ++ l[i].Pins) := (sortP_perm _).trans List.perm_append_comm
  have f5 : (l[k].Pins ++ (joinN l i k hi hk).flatMap (·.Pins)).Perm (l[k].Pins ++ l.flatMap (·.Pins)) := by
    refine f1.trans (f2.symm.trans ?_)
    refine (f4.append_right _).trans ?_
    rw [List.append_assoc]
    exact f3.append_left _
  exact (List.perm_append_left_iff _).1 f5
end
theorem apart_ix {l : List Net} (h : l.Pairwise Apart) {a b : Nat} (ha : a < l.length) (hb : b < l.length) {p : Pin} (h1 : p ∈ l[a].Pins) (h2 : p ∈ l[b].Pins) : a = b := by
  have hp := List.pairwise_iff_getElem.1 h
  rcases Nat.lt_trichotomy a b with q | q | q
  · exact (hp a b ha hb q p h2 h1).elim
  · exact q
  · exact (hp b a hb ha q p h1 h2).elim
theorem right_join {t : List PartType} {x : Netlist} (h : Right t x) {i k : Nat} (hi : i < x.Nets.length) (hk : k < x.Nets.length) (hik : i ≠ k) (hlen : x.Nets[i].Pins.length + x.Nets[k].Pins.length ≤ 500) : Right t ⟨x.Parts, joinN x.Nets i k hi hk⟩ := by
  have hmi := List.getElem_mem hi
  have hmk := List.getElem_mem hk
  have hname : ∀ {a b : Nat} (ha : a < (joinN x.Nets i k hi hk).length) (hb : b < x.Nets.length), (joinN x.Nets i k hi hk)[a] = (if b = i then netJ x.Nets[i] x.Nets[k] else x.Nets[b]) → (joinN x.Nets i k hi hk)[a].Name = x.Nets[b].Name := fun {a b} ha hb e => by
    rw [e]
    split
    · rename_i q; subst q; rfl
    · rfl
  refine ⟨h.types, h.plen, h.prise, h.ppath, h.ptype, by show (joinN _ _ _ _ _).length ≤ _; rw [joinN_len]; have := h.nlen; omega, ?_, fun n hn => ?_, fun n hn => ?_, fun n hn p hp => ?_, fun n hn => ?_, fun n hn => ?_, ?_⟩
  · rw [List.pairwise_iff_getElem]
    intro a b ha hb hab
    obtain ⟨a', ha', _, ea, ea2⟩ := joinN_get ha
    obtain ⟨b', hb', _, eb, eb2⟩ := joinN_get hb
    rw [hname ha ha' ea2, hname hb hb' eb2]
    refine (List.pairwise_iff_getElem.1 h.nrise) a' b' ha' hb' ?_
    rw [ea, eb]; split <;> split <;> omega
  · rcases joinN_mem hn with rfl | hn
    · have := h.npath _ hmi
      exact this
    · exact h.npath _ hn
  · rcases joinN_mem hn with rfl | hn
    · have h1 := (h.pins _ hmi).1
      unfold netJ
      simp only
      rw [sortP_len, List.length_append]
      omega
    · exact h.pins _ hn
  · rcases joinN_mem hn with rfl | hn
    · unfold netJ at hp
      simp only at hp
      rw [(sortP_perm _).mem_iff, List.mem_append] at hp
      exact hp.elim (h.has _ hmi p) (h.has _ hmk p)
    · exact h.has _ hn p hp
  · rcases joinN_mem hn with rfl | hn
    · refine sortP_lt (List.nodup_append.2 ⟨nodup_of_plt (h.pord _ hmi), nodup_of_plt (h.pord _ hmk), fun a ha b hb e => ?_⟩)
      subst e
      exact hik (apart_ix h.once hi hk ha hb)
    · exact h.pord _ hn
  · rcases joinN_mem hn with rfl | hn
    · rfl
    · exact h.port _ hn
  · rw [List.pairwise_iff_getElem]
    intro a b ha hb hab p hp hp'
    obtain ⟨a', ha', qa, ca⟩ := (joinN_pins ha).1 hp'
    obtain ⟨b', hb', qb, cb⟩ := (joinN_pins hb).1 hp
    have e := apart_ix h.once ha' hb' qa qb
    subst e
    split at ca <;> split at cb <;> omega
/-- What was together still is. -/
theorem join_together {t : List PartType} {x : Netlist} (h : Right t x) {i k : Nat} (hi : i < x.Nets.length) (hk : k < x.Nets.length) (hik : i ≠ k) {p q : Pin} (hp : 0 ≤ netIx x p) (hpq : netIx x p = netIx x q) : ∃ a, ∃ ha : a < (joinN x.Nets i k hi hk).length, p ∈ (joinN x.Nets i k hi hk)[a].Pins ∧ q ∈ (joinN x.Nets i k hi hk)[a].Pins := by
  have key : ∀ r : Pin, 0 ≤ netIx x r → ∃ b, ∃ hb : b < x.Nets.length, (b : Int) = netIx x r ∧ r ∈ x.Nets[b].Pins := fun r hr => by
    obtain ⟨hb, h2, _⟩ := ixBy_at hr
    exact ⟨_, hb, Int.toNat_of_nonneg hr, by simpa using h2⟩
  obtain ⟨b, hb, e1, k1⟩ := key p hp
  obtain ⟨c, hc, e2, k2⟩ := key q (by omega)
  have hbc : b = c := by omega
  subst hbc
  have hl := joinN_len (l := x.Nets) (i := i) (k := k) (hi := hi) (hk := hk)
  by_cases hbk : b = k
  · subst hbk
    refine ⟨if i < b then i else i - 1, by split <;> omega, (joinN_pins _).2 ⟨b, hb, k1, .inr ⟨rfl, ?_⟩⟩, (joinN_pins _).2 ⟨b, hb, k2, .inr ⟨rfl, ?_⟩⟩⟩ <;> ((repeat' split) <;> omega)
  · refine ⟨if b < k then b else b - 1, by split <;> omega, (joinN_pins _).2 ⟨b, hb, k1, .inl ?_⟩, (joinN_pins _).2 ⟨b, hb, k2, .inl ?_⟩⟩ <;> ((repeat' split) <;> omega)
end Go.Proofs.YtlbndchfmdogeaaGreatDoor.Sym
