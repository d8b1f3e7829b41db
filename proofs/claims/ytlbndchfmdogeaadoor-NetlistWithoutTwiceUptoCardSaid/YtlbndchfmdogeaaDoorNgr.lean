/- Plain facts on chapter 2's Without: what is left is right; two cuts are one. Conditions: none. -/
import Derived.Test.YtlbndchfmdogeaaDoorNgw
import Derived.Test.YtlbndchfmdogeaaDoorNgq
set_option linter.unusedVariables false
set_option linter.unusedSimpArgs false
namespace Go.Proofs.YtlbndchfmdogeaaDoor.Sym
open Go Go.RowKit
open Classical

theorem byName_filter {α : Type} {f : α → ByteArray} {xs : List α} {q : α → Bool} {s : ByteArray} (h : ∀ x ∈ xs, f x = s → q x = true) : byName f (xs.filter q) s = byName f xs s := by
  unfold byName
  rw [List.find?_filter]
  induction xs with
  | nil => rfl
  | cons x xs ih =>
    rw [List.find?_cons, List.find?_cons]
    by_cases e : f x = s
    · rw [show (decide (q x = true ∧ decide (f x = s) = true)) = true by simp [e, h x (by simp) e], show decide (f x = s) = true by simpa using e]
    · rw [show (decide (q x = true ∧ decide (f x = s) = true)) = false by simp [e], show decide (f x = s) = false by simpa using e]
      exact ih fun y hy => h y (by simp [hy])
theorem hasF_cut {t : List PartType} {l : List Part} {w : List ByteArray} {p : Pin} (h : p.Part ∉ w) : hasF t (l.filter fun q => decide (q.Name ∉ w)) p = hasF t l p := by
  unfold hasF
  rw [byName_filter fun x _ e => by simpa [e] using h]
theorem cut_right {t : List PartType} {x : Netlist} (h : Right t x) (w : List ByteArray) : Right t (cutL x w) := by
  have hmem : ∀ n ∈ (cutL x w).Nets, ∃ m ∈ x.Nets, n = cutN w m ∧ 0 < n.Pins.length := fun n hn => by
    obtain ⟨h1, h2⟩ := List.mem_filter.1 hn
    obtain ⟨m, hm, rfl⟩ := List.mem_map.1 h1
    exact ⟨m, hm, rfl, by simpa using h2⟩
  have hpin : ∀ {m : Net} {p : Pin}, p ∈ (cutN w m).Pins → p ∈ m.Pins ∧ p.Part ∉ w := fun hp => by
    obtain ⟨h1, h2⟩ := List.mem_filter.1 hp
    exact ⟨h1, by simpa using h2⟩
  refine ⟨h.types, ?_, h.prise.filter _, fun p hp => h.ppath p (List.mem_filter.1 hp).1, fun p hp => h.ptype p (List.mem_filter.1 hp).1, ?_, ?_, fun n hn => ?_, fun n hn => ?_, fun n hn p hp => ?_, fun n hn => ?_, fun n hn => ?_, ?_⟩
  · have := List.length_filter_le (fun p : Part => decide (p.Name ∉ w)) x.Parts
    have := h.plen
    show (x.Parts.filter fun p => decide (p.Name ∉ w)).length ≤ 1000
    omega
  · have := List.length_filter_le (fun n : Net => decide (0 < n.Pins.length)) (x.Nets.map (cutN w))
    rw [List.length_map] at this
    have := h.nlen
    show ((x.Nets.map (cutN w)).filter fun n => decide (0 < n.Pins.length)).length ≤ 1000
    omega
  · exact ((List.pairwise_map (f := cutN w) (R := fun a b : Net => slt a.Name b.Name)).2 h.nrise).filter _
  · obtain ⟨m, hm, rfl, _⟩ := hmem n hn
    exact h.npath m hm
  · obtain ⟨m, hm, rfl, h0⟩ := hmem n hn
    have := List.length_filter_le (fun p : Pin => decide (p.Part ∉ w)) m.Pins
    have := (h.pins m hm).2
    exact ⟨h0, by show (m.Pins.filter fun p => decide (p.Part ∉ w)).length ≤ 500; omega⟩
  · obtain ⟨m, hm, rfl, _⟩ := hmem n hn
    obtain ⟨h1, h2⟩ := hpin hp
    exact (hasF_cut h2).trans (h.has m hm p h1)
  · obtain ⟨m, hm, rfl, _⟩ := hmem n hn
    exact (h.pord m hm).filter _
  · obtain ⟨m, hm, rfl, _⟩ := hmem n hn
    rfl
  · refine ((List.pairwise_map (f := cutN w) (R := Apart)).2 (h.once.imp fun {a b} hab p hp hq => ?_)).filter _
    exact hab p (hpin hp).1 (hpin hq).1
theorem cutN_twice (u v : List ByteArray) (n : Net) : cutN v (cutN u n) = cutN (u ++ v) n := by
  unfold cutN
  congr 1
  rw [List.filter_filter]
  refine List.filter_congr fun p _ => ?_
  rw [Bool.eq_iff_iff]
  simp only [Bool.and_eq_true, decide_eq_true_eq, List.mem_append]
  exact ⟨fun ⟨h1, h2⟩ q => q.elim h2 h1, fun q => ⟨fun h1 => q (.inr h1), fun h2 => q (.inl h2)⟩⟩
theorem cut_twice (x : Netlist) (u v : List ByteArray) : cutL (cutL x u) v = cutL x (u ++ v) := by
  unfold cutL
  congr 1
  · rw [List.filter_filter]
    refine List.filter_congr fun p _ => ?_
    rw [Bool.eq_iff_iff]
    simp only [Bool.and_eq_true, decide_eq_true_eq, List.mem_append]
    exact ⟨fun ⟨h1, h2⟩ q => q.elim h2 h1, fun q => ⟨fun h1 => q (.inr h1), fun h2 => q (.inl h2)⟩⟩
  · have key : ∀ l : List Net, (((l.map (cutN u)).filter fun n => decide (0 < n.Pins.length)).map (cutN v)).filter (fun n => decide (0 < n.Pins.length)) = (l.map (cutN (u ++ v))).filter fun n => decide (0 < n.Pins.length) := by
      intro l
      induction l with
      | nil => rfl
      | cons n l ih =>
        rw [List.map_cons, List.map_cons, List.filter_cons]
        by_cases h : 0 < (cutN u n).Pins.length
        · rw [if_pos (by simpa using h), List.map_cons, List.filter_cons, List.filter_cons, cutN_twice, ih]
        · rw [if_neg (by simpa using h), ih, List.filter_cons]
          have h2 : ¬ 0 < (cutN (u ++ v) n).Pins.length := by
            rw [← cutN_twice]
            have := List.length_filter_le (fun p : Pin => decide (p.Part ∉ v)) (cutN u n).Pins
            have e : (cutN v (cutN u n)).Pins = (cutN u n).Pins.filter fun p => decide (p.Part ∉ v) := rfl
            rw [e]; omega
          rw [if_neg (by simpa using h2)]
    exact key x.Nets
theorem small_cut {t : List PartType} {x : Netlist} (h : Small t x) (w : List ByteArray) : Small t (cutL x w) := by
  have hmem : ∀ n ∈ (cutL x w).Nets, ∃ m ∈ x.Nets, n = cutN w m := fun n hn => by
    obtain ⟨m, hm, rfl⟩ := List.mem_map.1 (List.mem_filter.1 hn).1
    exact ⟨m, hm, rfl⟩
  refine ⟨h.lt, h.ltp, ?_, fun y hy => h.lpn y (List.mem_filter.1 hy).1, ?_, fun y hy => ?_, fun y hy => ?_⟩
  · exact Nat.le_trans (List.length_filter_le _ _) h.lp
  · have := List.length_filter_le (fun n : Net => decide (0 < n.Pins.length)) (x.Nets.map (cutN w))
    rw [List.length_map] at this
    exact Nat.le_trans this h.ln
  · obtain ⟨m, hm, rfl⟩ := hmem y hy
    exact h.lnn m hm
  · obtain ⟨m, hm, rfl⟩ := hmem y hy
    exact Nat.le_trans (List.length_filter_le _ _) (h.lnp m hm)
/-- Names cut into two portions. -/
theorem names_cut {x : Netlist} {w : List ByteArray} (h : namesG (·.Name) x.Parts w = 0) (k : Nat) : namesG (·.Name) x.Parts (w.take k) = 0 ∧ namesG (·.Name) (cutL x (w.take k)).Parts (w.drop k) = 0 := by
  obtain ⟨h1, h2, h3⟩ := namesG_zero h
  have hp := rising_pw.1 h2
  constructor
  · refine namesG_of (by rw [List.length_take]; omega) (rising_pw.2 (hp.sublist (List.take_sublist k w))) fun s hs => h3 s (List.mem_of_mem_take hs)
  · refine namesG_of (by rw [List.length_drop]; omega) (rising_pw.2 (hp.sublist (List.drop_sublist k w))) fun s hs => ?_
    obtain ⟨q, hq, e⟩ := ixN_iff.1 (h3 s (List.mem_of_mem_drop hs))
    refine ixN_iff.2 ⟨q, List.mem_filter.2 ⟨hq, ?_⟩, e⟩
    rw [decide_eq_true_eq]
    intro hm
    rw [← List.take_append_drop k w, List.pairwise_append] at hp
    rw [show q.Name = s from e] at hm
    exact slt_irrefl s (hp.2.2 s hm s hs)
end Go.Proofs.YtlbndchfmdogeaaDoor.Sym
