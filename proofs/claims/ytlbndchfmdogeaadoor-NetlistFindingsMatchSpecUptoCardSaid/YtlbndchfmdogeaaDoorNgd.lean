/- Plain facts on chapter 2's Findings: kinds of pins, what is found at a net; both packages. Conditions: none. -/
import Derived.Test.YtlbndchfmdogeaaDoorNlp
import Derived.Test.YtlbndchfmdogeaaDoorPle
set_option linter.unusedVariables false
set_option linter.unusedSimpArgs false
namespace Go.Proofs.YtlbndchfmdogeaaDoor.Sym
open Go Go.RowKit

/-- The kind of a pin. -/
def kindP (t : List PartType) (x : Netlist) (p : Pin) : Int := match byName (·.Name) x.Parts p.Part with
  | some y => match byName (·.Name) t y.Type_ with
    | some z => match byName (·.Name) z.Pins p.Pin with
      | some q => q.Kind
      | none => 0
    | none => 0
  | none => 0
theorem kind_both {t : List PartType} {x : Netlist} (ht : TypesOk t) (hp : PartsOk t x.Parts) {p : Pin} (h : hasF t x.Parts p = true) :
    nl_Findings_1 p t x = some (kindP t x p) ∧ ref_kindOf t x p = some (kindP t x p) ∧ 1 ≤ kindP t x p ∧ kindP t x p ≤ 7 := by
  unfold hasF at h
  unfold nl_Findings_1 ref_kindOf kindP
  rw [nl_part_at hp.rise hp.len', bnd_some, ref_part_of, bnd_some]
  rcases ixN_cases (fun x : Part => x.Name) x.Parts p.Part with ⟨h0, y, h1, h2⟩ | ⟨h0, h1⟩
  · rw [h2, bnd_some, bnd_some, nl_type_at ht.rise ht.len', bnd_some, ref_type_of, bnd_some]
    simp only [h1] at h ⊢
    rcases ixN_cases (fun x : PartType => x.Name) t y.Type_ with ⟨q0, z, q1, q2⟩ | ⟨q0, q1⟩
    · have hz := (byName_mem q1).1
      rw [q2, bnd_some, bnd_some, nl_pin_at (ht.prise z hz) (ht.plen' hz), bnd_some, ref_pin_of, bnd_some]
      simp only [q1, decide_eq_true_eq] at h ⊢
      rcases ixN_cases (fun x : PinType => x.Name) z.Pins p.Pin with ⟨r0, u, r1, r2⟩ | ⟨r0, r1⟩
      · simp only [r2, bnd_some, r1]
        have hu := ht.kind z hz u (byName_mem r1).1
        exact ⟨trivial, trivial, hu.1, hu.2.1⟩
      · omega
    · simp [q1] at h
  · simp [h1] at h

/-! ### The pins of a net by their kinds -/
def ofK (t : List PartType) (x : Netlist) (l : List Pin) (k : Int) : List Pin := l.filter fun p => decide (kindP t x p = k)
def ofKs (t : List PartType) (x : Netlist) (l : List Pin) (ks : List Int) : List Pin := l.filter fun p => decide (kindP t x p ∈ ks)
theorem contains_int (l : List Int) (k : Int) : slices_Contains_int_int l k = some (decide (k ∈ l)) := by
  unfold slices_Contains_int_int
  have e : slices_Index_int_int l k = LIN' (fun x => k == x) l := rfl
  rw [e, LIN'_eq, bnd_some, ixBy_any]
  congr 1
  rw [Bool.eq_iff_iff, List.any_eq_true, decide_eq_true_eq]
  exact ⟨fun ⟨x, hx, e⟩ => by have : k = x := by simpa using e
                              rw [this]; exact hx, fun h => ⟨k, h, by simp⟩⟩
theorem filter_flat {α : Type} (p : α → Bool) (l : List α) : l.flatMap (fun x => if p x then [x] else []) = l.filter p := by
  induction l with
  | nil => rfl
  | cons x l ih => cases h : p x <;> simp [h, ih]
theorem ofKinds_eq {t : List PartType} {x : Netlist} (ht : TypesOk t) (hp : PartsOk t x.Parts) {n : Net} (hn : ∀ p ∈ n.Pins, hasF t x.Parts p = true) (hl : n.Pins.length ≤ 500) (ks : List Int) : ref_ofKinds t x n ks = some (ofKs t x n.Pins ks) := by
  have hlim : lim = 1099511627776 := rfl
  unfold ref_ofKinds ofKs
  rw [← filter_flat, forN_app (xs := n.Pins) (f := fun p => if decide (kindP t x p ∈ ks) then [p] else []) 0 (fun j hj l hlen => by
    have hb : ((n.Pins.take j).flatMap fun p => if decide (kindP t x p ∈ ks) then [p] else []).length ≤ (n.Pins.take j).length * 1 := flatMap_len _ 1 (fun q => by split <;> simp) _
    have hj2 : (n.Pins.take j).length ≤ 500 := by rw [List.length_take]; omega
    unfold ref_ofKinds_b0
    rw [atI_lt hj, bnd_some, (kind_both ht hp (hn _ (List.getElem_mem hj))).2.1, bnd_some, contains_int, bnd_some]
    cases decide (kindP t x n.Pins[j] ∈ ks) with
    | true => rw [cnd_t, grd_pos (by simp; omega), bnd1_some]; rfl
    | false => rw [cnd_f, bnd1_some]; simp) (by simp), aft1_fin, List.nil_append]

/-- What the map holds. -/
def ByIs (t : List PartType) (x : Netlist) (l : List Pin) (m : List (Int × List Pin)) : Prop := ∀ k, tlook m k = if ofK t x l k = [] then none else some (ofK t x l k)
theorem ofK_snoc (t : List PartType) (x : Netlist) (l : List Pin) (p : Pin) (k : Int) : ofK t x (l ++ [p]) k = if kindP t x p = k then ofK t x l k ++ [p] else ofK t x l k := by
  unfold ofK
  rw [List.filter_append]
  by_cases h : kindP t x p = k <;> simp [h]
theorem r64_small {k : Int} (h1 : -9223372036854775808 ≤ k) (h2 : k ≤ 9223372036854775807) : r64 k := by
  unfold r64
  constructor <;> omega
theorem by_loop {t : List PartType} {x : Netlist} (ht : TypesOk t) (hp : PartsOk t x.Parts) {n : Net} (hn : ∀ p ∈ n.Pins, hasF t x.Parts p = true) (hl : n.Pins.length ≤ 500) (i4 : Nat) (y5 : List Finding) :
    ∃ m, forN (fun i8 s => nl_Findings_b1 t x i4 y5 n i8 s.1 s.2) n.Pins.length 0 ([], []) = some (.fin (ofKs t x n.Pins [2, 5], m)) ∧ ByIs t x n.Pins m := by
  have hlim : lim = 1099511627776 := rfl
  obtain ⟨s', h1, h2⟩ := forN_go (b := fun i8 (s : List Pin × List (Int × List Pin)) => nl_Findings_b1 t x i4 y5 n i8 s.1 s.2) (N := n.Pins.length) (fun j s => s.1 = ofKs t x (n.Pins.take j) [2, 5] ∧ ByIs t x (n.Pins.take j) s.2) (fun j s hj hR => by
    obtain ⟨s1, s2⟩ := s
    obtain ⟨hR1, hR2⟩ := hR
    simp only at hR1 hR2
    obtain ⟨k1, _, k3, k4⟩ := kind_both ht hp (hn _ (List.getElem_mem hj))
    have hj2 : (n.Pins.take j).length ≤ 500 := by rw [List.length_take]; omega
    have hlen1 : s1.length ≤ 500 := by rw [hR1]; exact Nat.le_trans (List.length_filter_le _ _) hj2
    have htk : n.Pins.take (j + 1) = n.Pins.take j ++ [n.Pins[j]] := List.take_succ_eq_append_getElem hj
    have hr := r64_small (k := kindP t x n.Pins[j]) (by omega) (by omega)
    have hk := hR2 (kindP t x n.Pins[j])
    refine ⟨(ofKs t x (n.Pins.take (j + 1)) [2, 5], tput s2 (kindP t x n.Pins[j]) (ofK t x (n.Pins.take (j + 1)) (kindP t x n.Pins[j]))), ?_, rfl, fun k => ?_⟩
    · simp only
      unfold nl_Findings_b1
      rw [atI_lt hj, bnd_some, k1, bnd_some, hk]
      have hof : ofK t x (n.Pins.take (j + 1)) (kindP t x n.Pins[j]) = ofK t x (n.Pins.take j) (kindP t x n.Pins[j]) ++ [n.Pins[j]] := by rw [htk, ofK_snoc, if_pos rfl]
      have hdr : ofKs t x (n.Pins.take (j + 1)) [2, 5] = if kindP t x n.Pins[j] = 2 ∨ kindP t x n.Pins[j] = 5 then s1 ++ [n.Pins[j]] else s1 := by
        rw [hR1, htk]
        unfold ofKs
        rw [List.filter_append]
        by_cases hc : kindP t x n.Pins[j] = 2 ∨ kindP t x n.Pins[j] = 5 <;> simp [hc]
      rw [hof, hdr]
      have hfl : (ofK t x (n.Pins.take j) (kindP t x n.Pins[j])).length ≤ 500 := Nat.le_trans (List.length_filter_le _ _) hj2
      have hbig : cnd (kindP t x n.Pins[j] == 2) (some true) (some (kindP t x n.Pins[j] == 5)) = some (decide (kindP t x n.Pins[j] = 2 ∨ kindP t x n.Pins[j] = 5)) := by
        by_cases c2 : kindP t x n.Pins[j] = 2
        · rw [c2]; rfl
        · rw [show (kindP t x n.Pins[j] == 2) = false by simpa using c2, cnd_f]
          congr 1
          by_cases c5 : kindP t x n.Pins[j] = 5 <;> simp [c2, c5]
      by_cases he : ofK t x (n.Pins.take j) (kindP t x n.Pins[j]) = []
      · rw [if_pos he, grd_pos hr, opt_none, grd_pos (by simp; omega), grd_pos hr, bnd1_some, hbig, bnd1_some, he]
        by_cases hc : kindP t x n.Pins[j] = 2 ∨ kindP t x n.Pins[j] = 5
        · rw [decide_eq_true hc, cnd_t, grd_pos (by simp; omega), bnd1_some, if_pos hc]; rfl
        · rw [decide_eq_false hc, cnd_f, bnd1_some, if_neg hc]; rfl
      · rw [if_neg he, grd_pos hr, opt_some, grd_pos (by simp; omega), grd_pos hr, bnd1_some, hbig, bnd1_some]
        by_cases hc : kindP t x n.Pins[j] = 2 ∨ kindP t x n.Pins[j] = 5
        · rw [decide_eq_true hc, cnd_t, grd_pos (by simp; omega), bnd1_some, if_pos hc]
        · rw [decide_eq_false hc, cnd_f, bnd1_some, if_neg hc]
    · classical
      rw [tlook_put, htk, ofK_snoc, ofK_snoc, if_pos rfl]
      by_cases hc : k = kindP t x n.Pins[j]
      · subst hc
        rw [if_pos rfl, if_pos rfl, if_neg (by simp)]
      · have hc' : ¬ kindP t x n.Pins[j] = k := fun e => hc e.symm
        simp only [if_neg hc, if_neg hc']
        exact hR2 k) n.Pins.length 0 ([], []) (Nat.zero_add _) ⟨by simp [ofKs], fun k => by simp [ofK, tlook_nil]⟩
  obtain ⟨s1, s2⟩ := s'
  obtain ⟨hR1, hR2⟩ := h2
  rw [List.take_of_length_le (Nat.le_refl _)] at hR1 hR2
  simp only at hR1 hR2
  exact ⟨s2, by rw [h1, hR1], hR2⟩
theorem many_eq {t : List PartType} {x : Netlist} {l : List Pin} {m : List (Int × List Pin)} (h : ByIs t x l m) {k : Int} (hk : r64 k) : nl_Findings_2 k m = some ((ofK t x l k).length : Int) := by
  unfold nl_Findings_2
  rw [grd_pos hk, h k]
  by_cases he : ofK t x l k = []
  · rw [if_pos he, opt_none, bnd1_some, he]; rfl
  · rw [if_neg he, opt_some, bnd1_some]
theorem put_find {b : Bool} {k : Int} {pins : List Pin} {acc : List Finding} {n : Net} (h1 : pins.length ≤ lim) (h2 : acc.length + 1 ≤ lim) : nl_Findings_3 b k pins acc n = some (acc ++ if b then [⟨k, n.Name, pins⟩] else []) := by
  unfold nl_Findings_3 slices_Clone_api_Pin_api_Pin
  cases b with
  | true => rw [cnd_t, grd_pos (by simpa using h1), bnd_some, grd_pos (by simpa using h2), bnd1_some]; rfl
  | false => rw [cnd_f, bnd1_some]; simp
/-- At a key that the map may lack. -/
theorem by_opt {t : List PartType} {x : Netlist} {l : List Pin} {m : List (Int × List Pin)} (h : ByIs t x l m) {k : Int} {β : Type} {f : List Pin → Option β} : opt (tlook m k) f (f []) = f (ofK t x l k) := by
  rw [h k]
  by_cases he : ofK t x l k = []
  · rw [if_pos he, opt_none, he]
  · rw [if_neg he, opt_some]

/-! ### What is found at a net -/
def c1F (t : List PartType) (x : Netlist) (l : List Pin) : Bool := decide ((ofK t x l 2).length > 1) || (decide ((ofK t x l 2).length > 0) && decide ((ofK t x l 5).length > 0))
def c2F (t : List PartType) (x : Netlist) (l : List Pin) : Bool := decide ((ofK t x l 1).length > 0) && decide ((ofKs t x l [2, 3, 6, 5]).length = 0)
def c3F (t : List PartType) (x : Netlist) (l : List Pin) : Bool := decide ((ofK t x l 4).length > 0) && decide ((ofK t x l 5).length = 0)
def c4F (t : List PartType) (x : Netlist) (l : List Pin) : Bool := decide ((ofK t x l 7).length > 0)
def c5F (t : List PartType) (x : Netlist) (l : List Pin) : Bool := decide (l.length = 1) && decide ((ofK t x l 7).length = 0)
def netFd (t : List PartType) (x : Netlist) (n : Net) : List Finding :=
  (if c1F t x n.Pins then [⟨1, n.Name, ofKs t x n.Pins [2, 5]⟩] else []) ++ ((if c2F t x n.Pins then [⟨2, n.Name, ofK t x n.Pins 1⟩] else []) ++ ((if c3F t x n.Pins then [⟨3, n.Name, ofK t x n.Pins 4⟩] else []) ++
    ((if c4F t x n.Pins then [⟨4, n.Name, ofK t x n.Pins 7⟩] else []) ++ (if c5F t x n.Pins then [⟨5, n.Name, n.Pins⟩] else []))))
theorem netFd_len (t : List PartType) (x : Netlist) (n : Net) : (netFd t x n).length ≤ 5 := by
  unfold netFd
  simp only [List.length_append]
  have h : ∀ (b : Bool) (z : Finding), (if b then [z] else []).length ≤ 1 := fun b z => by cases b <;> simp
  have h1 := h (c1F t x n.Pins) ⟨1, n.Name, ofKs t x n.Pins [2, 5]⟩
  have h2 := h (c2F t x n.Pins) ⟨2, n.Name, ofK t x n.Pins 1⟩
  have h3 := h (c3F t x n.Pins) ⟨3, n.Name, ofK t x n.Pins 4⟩
  have h4 := h (c4F t x n.Pins) ⟨4, n.Name, ofK t x n.Pins 7⟩
  have h5 := h (c5F t x n.Pins) ⟨5, n.Name, n.Pins⟩
  omega
theorem ofKs_one (t : List PartType) (x : Netlist) (l : List Pin) (k : Int) : ofKs t x l [k] = ofK t x l k := by
  unfold ofKs ofK
  congr 1
  funext p
  simp
theorem len0 {α : Type} {l : List α} {p : α → Bool} : (l.filter p).length = 0 ↔ ∀ x ∈ l, p x = false := by
  rw [List.length_eq_zero_iff, List.filter_eq_nil_iff]
  exact ⟨fun h x hx => by simpa using h x hx, fun h x hx => by simp [h x hx]⟩
theorem drive_len (t : List PartType) (x : Netlist) (l : List Pin) : ((ofKs t x l [2, 5]).length + (ofK t x l 3).length + (ofK t x l 6).length = 0) ↔ (ofKs t x l [2, 3, 6, 5]).length = 0 := by
  have : ((ofKs t x l [2, 5]).length + (ofK t x l 3).length + (ofK t x l 6).length = 0) ↔ ((ofKs t x l [2, 5]).length = 0 ∧ (ofK t x l 3).length = 0 ∧ (ofK t x l 6).length = 0) := by omega
  rw [this]
  unfold ofKs ofK
  simp only [len0, decide_eq_false_iff_not, List.mem_cons, List.not_mem_nil, or_false, not_or]
  exact ⟨fun ⟨h1, h2, h3⟩ p hp => ⟨(h1 p hp).1, h2 p hp, h3 p hp, (h1 p hp).2⟩, fun h => ⟨fun p hp => ⟨(h p hp).1, (h p hp).2.2.2⟩, fun p hp => (h p hp).2.1, fun p hp => (h p hp).2.2.1⟩⟩
theorem lenI {α : Type} (l : List α) (n : Nat) : decide ((l.length : Int) > (n : Int)) = decide (l.length > n) := by
  rw [decide_eq_decide]; omega
theorem lenE {α : Type} (l : List α) (n : Nat) : ((l.length : Int) == (n : Int)) = decide (l.length = n) := by
  rw [Bool.eq_iff_iff, beq_iff_eq, decide_eq_true_eq]; omega
theorem ad_len {α : Type} (b : Bool) (z : α) : (if b then [z] else []).length ≤ 1 := by cases b <;> simp
theorem add1 {α β : Type} {b : Bool} {l : List α} {z : α} {f : List α → Option β} (h : l.length ≤ 10) : bnd1 (cnd b (grd (l.length + [z].length ≤ lim) <| some (l ++ [z])) (some l)) f = f (l ++ if b then [z] else []) := by
  have hlim : lim = 1099511627776 := rfl
  cases b with
  | true => rw [cnd_t, grd_pos (by simp; omega), bnd1_some]; rfl
  | false => rw [cnd_f, bnd1_some]; simp
theorem ref_netFindings_eq {t : List PartType} {x : Netlist} (ht : TypesOk t) (hp : PartsOk t x.Parts) {n : Net} (hn : ∀ p ∈ n.Pins, hasF t x.Parts p = true) (hl : n.Pins.length ≤ 500) : ref_netFindings t x n = some (netFd t x n) := by
  have hlim : lim = 1099511627776 := rfl
  have hk := fun ks => ofKinds_eq ht hp hn hl ks
  unfold ref_netFindings netFd
  simp only [hk, bnd_some, ofKs_one]
  have e1 : cnd (decide (((ofK t x n.Pins 2).length : Int) > 1)) (some true) (cnd (decide (((ofK t x n.Pins 2).length : Int) > 0)) (some (decide (((ofK t x n.Pins 5).length : Int) > 0))) (some false)) = some (c1F t x n.Pins) := by
    unfold c1F
    have := lenI (ofK t x n.Pins 2) 1
    have h2 := lenI (ofK t x n.Pins 2) 0
    have h3 := lenI (ofK t x n.Pins 5) 0
    rw [show decide (((ofK t x n.Pins 2).length : Int) > 1) = decide ((ofK t x n.Pins 2).length > 1) from this, show decide (((ofK t x n.Pins 2).length : Int) > 0) = decide ((ofK t x n.Pins 2).length > 0) from h2, show decide (((ofK t x n.Pins 5).length : Int) > 0) = decide ((ofK t x n.Pins 5).length > 0) from h3]
    cases decide ((ofK t x n.Pins 2).length > 1) <;> cases decide ((ofK t x n.Pins 2).length > 0) <;> rfl
  have e2 : cnd (decide (((ofK t x n.Pins 1).length : Int) > 0)) (some (((ofKs t x n.Pins [2, 3, 6, 5]).length : Int) == 0)) (some false) = some (c2F t x n.Pins) := by
    unfold c2F
    rw [show decide (((ofK t x n.Pins 1).length : Int) > 0) = decide ((ofK t x n.Pins 1).length > 0) from lenI _ 0, show (((ofKs t x n.Pins [2, 3, 6, 5]).length : Int) == 0) = decide ((ofKs t x n.Pins [2, 3, 6, 5]).length = 0) from lenE _ 0]
    cases decide ((ofK t x n.Pins 1).length > 0) <;> rfl
  have e3 : cnd (decide (((ofK t x n.Pins 4).length : Int) > 0)) (some (((ofK t x n.Pins 5).length : Int) == 0)) (some false) = some (c3F t x n.Pins) := by
    unfold c3F
    rw [show decide (((ofK t x n.Pins 4).length : Int) > 0) = decide ((ofK t x n.Pins 4).length > 0) from lenI _ 0, show (((ofK t x n.Pins 5).length : Int) == 0) = decide ((ofK t x n.Pins 5).length = 0) from lenE _ 0]
    cases decide ((ofK t x n.Pins 4).length > 0) <;> rfl
  have e4 : decide (((ofK t x n.Pins 7).length : Int) > 0) = c4F t x n.Pins := lenI _ 0
  have e5 : cnd ((n.Pins.length : Int) == 1) (some (((ofK t x n.Pins 7).length : Int) == 0)) (some false) = some (c5F t x n.Pins) := by
    unfold c5F
    rw [show ((n.Pins.length : Int) == 1) = decide (n.Pins.length = 1) from lenE _ 1, show (((ofK t x n.Pins 7).length : Int) == 0) = decide ((ofK t x n.Pins 7).length = 0) from lenE _ 0]
    cases decide (n.Pins.length = 1) <;> rfl
  have hcl : slices_Clone_api_Pin_api_Pin n.Pins = some n.Pins := by
    unfold slices_Clone_api_Pin_api_Pin
    rw [grd_pos (by simp; omega)]; rfl
  rw [e1, bnd1_some, add1 (l := []) (by simp), e2, bnd1_some, add1 (by have := ad_len (c1F t x n.Pins) (⟨1, n.Name, ofKs t x n.Pins [2, 5]⟩ : Finding); simp only [List.length_append, List.length_nil]; omega)]
  have h1 := ad_len (c1F t x n.Pins) (⟨1, n.Name, ofKs t x n.Pins [2, 5]⟩ : Finding)
  have h2 := ad_len (c2F t x n.Pins) (⟨2, n.Name, ofK t x n.Pins 1⟩ : Finding)
  have h3 := ad_len (c3F t x n.Pins) (⟨3, n.Name, ofK t x n.Pins 4⟩ : Finding)
  have h4 := ad_len (c4F t x n.Pins) (⟨4, n.Name, ofK t x n.Pins 7⟩ : Finding)
  rw [e3, bnd1_some, add1 (by simp only [List.length_append, List.length_nil]; omega), e4, add1 (by simp only [List.length_append, List.length_nil]; omega), e5, bnd1_some, hcl]
  simp only [bnd_some]
  rw [add1 (by simp only [List.length_append, List.length_nil]; omega)]
  simp only [List.nil_append, List.append_assoc]
end Go.Proofs.YtlbndchfmdogeaaDoor.Sym
