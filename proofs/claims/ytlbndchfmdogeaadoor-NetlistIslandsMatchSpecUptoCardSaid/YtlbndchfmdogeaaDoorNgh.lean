/- Plain facts on chapter 2's Islands: the reference's. Conditions: none. -/
import Derived.Test.YtlbndchfmdogeaaDoorNgf
set_option linter.unusedVariables false
set_option linter.unusedSimpArgs false
namespace Go.Proofs.YtlbndchfmdogeaaDoor.Sym
open Go Go.RowKit
open Classical

/-! ### Rows of truths -/
abbrev bat (b : List Bool) (i : Nat) : Prop := b[i]? = some true
theorem bat_set {b : List Bool} {i j : Nat} (hi : i < b.length) : bat (b.set i true) j ↔ j = i ∨ bat b j := by
  unfold bat
  by_cases e : j = i
  · subst e
    rw [List.getElem?_set_self hi]; simp
  · rw [List.getElem?_set_ne (fun q => e q.symm)]; simp [e]
def cntB (b : List Bool) : Nat := b.countP fun x => !x
theorem cnt_le : ∀ {b c : List Bool}, b.length = c.length → (∀ i, bat b i → bat c i) → cntB c ≤ cntB b
  | [], [], _, _ => Nat.le_refl _
  | [], _ :: _, h, _ => by simp at h
  | _ :: _, [], h, _ => by simp at h
  | x :: b, z :: c, h, hm => by
    have ih := cnt_le (b := b) (c := c) (by simpa using h) fun i hi => by have := hm (i + 1) (by simpa [bat] using hi); simpa [bat] using this
    have h0 : x = true → z = true := fun e => by have := hm 0 (by simp [bat, e]); simpa [bat] using this
    unfold cntB at ih ⊢
    simp only [List.countP_cons]
    cases x <;> cases z <;> simp at h0 ⊢ <;> omega
theorem cnt_lt : ∀ {b c : List Bool}, b.length = c.length → (∀ i, bat b i → bat c i) → (∃ i, ¬ bat b i ∧ bat c i) → cntB c < cntB b
  | [], [], _, _, ⟨i, h1, h2⟩ => by simp [bat] at h2
  | [], _ :: _, h, _, _ => by simp at h
  | _ :: _, [], h, _, _ => by simp at h
  | x :: b, z :: c, h, hm, ⟨i, h1, h2⟩ => by
    have hl : b.length = c.length := by simpa using h
    have hm' : ∀ i, bat b i → bat c i := fun i hi => by have := hm (i + 1) (by simpa [bat] using hi); simpa [bat] using this
    have h0 : x = true → z = true := fun e => by have := hm 0 (by simp [bat, e]); simpa [bat] using this
    have hle := cnt_le hl hm'
    cases i with
    | zero =>
      have hx : x = false := by simpa [bat] using h1
      have hz : z = true := by simpa [bat] using h2
      unfold cntB at hle ⊢
      subst hx; subst hz
      simp only [List.countP_cons]
      simp; omega
    | succ i =>
      have ih := cnt_lt hl hm' ⟨i, by simpa [bat] using h1, by simpa [bat] using h2⟩
      unfold cntB at ih ⊢
      simp only [List.countP_cons]
      cases x <;> cases z <;> simp at h0 ⊢ <;> omega

/-! ### One net -/
section
variable {t : List PartType} {x : Netlist} {w : List ByteArray}
theorem at_bool {b : List Bool} {i : Nat} (h : i < b.length) : atI b (i : Int) = some (decide (bat b i)) := by
  rw [atI_lt h]
  congr 1
  unfold bat
  rw [List.getElem?_eq_getElem h]
  cases b[i] <;> rfl
theorem hit_loop {n : Net} (hn : ∀ p ∈ n.Pins, hasF t x.Parts p = true) {b : List Bool} (hb : b.length = x.Parts.length) (i7 : Nat) (y8 : Bool) :
    forN (fun i15 s => ref_island_b2 x w i7 y8 b n i15 s) n.Pins.length 0 false = some (.fin (n.Pins.any fun p => decide (bat b (ixP x p)))) := by
  obtain ⟨s', q1, q2⟩ := forN_go (b := fun i15 s => ref_island_b2 x w i7 y8 b n i15 s) (N := n.Pins.length) (fun j s => s = (n.Pins.take j).any fun p => decide (bat b (ixP x p))) (fun j s hj hR => by
    obtain ⟨e1, l1⟩ := ixP_lt (hn _ (List.getElem_mem hj))
    refine ⟨_, ?_, rfl⟩
    show ref_island_b2 x w i7 y8 b n j s = _
    unfold ref_island_b2
    rw [atI_lt hj, bnd_some, ref_part_of, bnd_some, e1, at_bool (by omega), bnd_some, List.take_succ_eq_append_getElem hj, List.any_append, ← hR]
    cases s <;> simp [cnd, bnd1]) n.Pins.length 0 false (Nat.zero_add _) (by simp)
  rw [List.take_of_length_le (Nat.le_refl _)] at q2
  rw [← q2]; exact q1
theorem set_loop {n : Net} (hn : ∀ p ∈ n.Pins, hasF t x.Parts p = true) {b : List Bool} (hb : b.length = x.Parts.length) (i7 : Nat) (c : Bool) :
    ∃ c' b', forN (fun i31 (s : Bool × List Bool) => ref_island_b3 x w i7 n true i31 s.1 s.2) n.Pins.length 0 (c, b) = some (.fin (c', b')) ∧ b'.length = x.Parts.length ∧ (∀ i, bat b i → bat b' i) ∧ (∀ i, bat b' i → bat b i ∨ ∃ p ∈ n.Pins, ixP x p = i) ∧ (∀ p ∈ n.Pins, bat b' (ixP x p)) ∧
      (c' = false → c = false ∧ b' = b) ∧ (c' = true → c = true ∨ ∃ i, ¬ bat b i ∧ bat b' i) := by
  obtain ⟨s', q1, q2⟩ := forN_go (b := fun i31 (s : Bool × List Bool) => ref_island_b3 x w i7 n true i31 s.1 s.2) (N := n.Pins.length) (fun j s => s.2.length = x.Parts.length ∧ (∀ i, bat b i → bat s.2 i) ∧ (∀ i, bat s.2 i → bat b i ∨ ∃ p ∈ n.Pins, ixP x p = i) ∧ (∀ p ∈ n.Pins.take j, bat s.2 (ixP x p)) ∧ (s.1 = false → c = false ∧ s.2 = b) ∧ (s.1 = true → c = true ∨ ∃ i, ¬ bat b i ∧ bat s.2 i)) (fun j s hj hR => by
    obtain ⟨s1, s2⟩ := s
    obtain ⟨h1, h2, h3, h4, h5, h6⟩ := hR
    simp only at h1 h2 h3 h4 h5 h6
    obtain ⟨e1, l1⟩ := ixP_lt (hn _ (List.getElem_mem hj))
    have htk : n.Pins.take (j + 1) = n.Pins.take j ++ [n.Pins[j]] := List.take_succ_eq_append_getElem hj
    have hl : ixP x n.Pins[j] < s2.length := by omega
    have hb3 : ref_island_b3 x w i7 n true j s1 s2 = some (.go (if bat s2 (ixP x n.Pins[j]) then (s1, s2) else (true, s2.set (ixP x n.Pins[j]) true))) := by
      unfold ref_island_b3
      rw [atI_lt hj, bnd_some, ref_part_of, bnd_some, e1, cnd_t, at_bool hl, bnd_some, bnd1_some]
      by_cases hc : bat s2 (ixP x n.Pins[j])
      · rw [decide_eq_true hc, if_pos hc]; rfl
      · rw [decide_eq_false hc, if_neg hc]
        simp [cnd, bnd2, bnd]
    by_cases hc : bat s2 (ixP x n.Pins[j])
    · refine ⟨(s1, s2), by rw [if_pos hc] at hb3; exact hb3, h1, h2, h3, fun p hp => ?_, h5, h6⟩
      rw [htk] at hp
      rcases List.mem_append.1 hp with hp | hp
      · exact h4 p hp
      · simp at hp; subst hp; exact hc
    · have hs := fun i => bat_set (b := s2) (i := ixP x n.Pins[j]) (j := i) hl
      refine ⟨(true, s2.set (ixP x n.Pins[j]) true), by rw [if_neg hc] at hb3; exact hb3, by simpa using h1, fun i hi => (hs i).2 (.inr (h2 i hi)), fun i hi => ?_, fun p hp => ?_, fun e => (by cases e), fun _ => .inr ⟨ixP x n.Pins[j], fun q => hc (h2 _ q), (hs _).2 (.inl rfl)⟩⟩
      · rcases (hs i).1 hi with rfl | hi
        · exact .inr ⟨_, List.getElem_mem hj, rfl⟩
        · exact h3 i hi
      · rw [htk] at hp
        rcases List.mem_append.1 hp with hp | hp
        · exact (hs _).2 (.inr (h4 p hp))
        · simp at hp; subst hp; exact (hs _).2 (.inl rfl)) n.Pins.length 0 (c, b) (Nat.zero_add _) ⟨hb, fun _ q => q, fun i q => .inl q, fun p hp => by simp at hp, fun e => ⟨e, rfl⟩, fun e => .inl e⟩
  obtain ⟨c', b'⟩ := s'
  obtain ⟨h1, h2, h3, h4, h5, h6⟩ := q2
  rw [List.take_of_length_le (Nat.le_refl _)] at h4
  exact ⟨c', b', q1, h1, h2, h3, h4, h5, h6⟩
theorem noset_loop {n : Net} (hn : ∀ p ∈ n.Pins, hasF t x.Parts p = true) {b : List Bool} (i7 : Nat) (c : Bool) : forN (fun i31 (s : Bool × List Bool) => ref_island_b3 x w i7 n false i31 s.1 s.2) n.Pins.length 0 (c, b) = some (.fin (c, b)) := by
  obtain ⟨s', q1, q2⟩ := forN_go (b := fun i31 (s : Bool × List Bool) => ref_island_b3 x w i7 n false i31 s.1 s.2) (N := n.Pins.length) (fun j s => s = (c, b)) (fun j s hj hR => by
    subst hR
    refine ⟨(c, b), ?_, rfl⟩
    show ref_island_b3 x w i7 n false j c b = _
    unfold ref_island_b3
    rw [atI_lt hj, bnd_some, ref_part_of, bnd_some, cnd_f, bnd1_some, cnd_f, bnd2_some]) n.Pins.length 0 (c, b) (Nat.zero_add _) rfl
  subst q2; exact q1

/-- All pins of a net have one root. -/
def OneRoot (x : Netlist) (w : List ByteArray) (r : Nat → Nat) : Prop := ∀ n ∈ x.Nets, n.Name ∉ w → ∀ p ∈ n.Pins, ∀ q ∈ n.Pins, r (ixP x p) = r (ixP x q)
theorem oneRoot_of {y : List Int} (h : UfIs y (edgesF x w)) : OneRoot x w (root y) := fun n hn hw p hp q hq => by
  have he : ∀ p ∈ n.Pins, (ixP x p, ix0 x n) ∈ edgesF x w := fun p hp => by
    unfold edgesF
    refine List.mem_flatMap.2 ⟨n, hn, ?_⟩
    unfold edgesN
    rw [if_neg hw]
    exact List.mem_map.2 ⟨p, hp, rfl⟩
  rw [(h _ _).2 (.edge (he p hp)), (h _ _).2 (.edge (he q hq))]
/-- What is so of one pin's part is so of all. -/
def ClosedB (x : Netlist) (b : List Bool) (n : Net) : Prop := (∃ p ∈ n.Pins, bat b (ixP x p)) → ∀ p ∈ n.Pins, bat b (ixP x p)

/-- One round. -/
theorem pass_eq (hl : ListOk t x) {r : Nat → Nat} (hr : OneRoot x w r) {k : Nat} {b : List Bool} (hb : b.length = x.Parts.length) (ho : ∀ i, bat b i → r i = r k) :
    ∃ c' b', forN (fun i7 (s : Bool × List Bool) => ref_island_b1 x w i7 s.1 s.2) x.Nets.length 0 (false, b) = some (.fin (c', b')) ∧ b'.length = x.Parts.length ∧ (∀ i, bat b i → bat b' i) ∧ (∀ i, bat b' i → r i = r k) ∧
      (c' = false → b' = b ∧ ∀ n ∈ x.Nets, n.Name ∉ w → ClosedB x b n) ∧ (c' = true → ∃ i, ¬ bat b i ∧ bat b' i) := by
  obtain ⟨s', q1, q2⟩ := forN_go (b := fun i7 (s : Bool × List Bool) => ref_island_b1 x w i7 s.1 s.2) (N := x.Nets.length) (fun j s => s.2.length = x.Parts.length ∧ (∀ i, bat b i → bat s.2 i) ∧ (∀ i, bat s.2 i → r i = r k) ∧
      (s.1 = false → s.2 = b ∧ ∀ n ∈ x.Nets.take j, n.Name ∉ w → ClosedB x b n) ∧ (s.1 = true → ∃ i, ¬ bat b i ∧ bat s.2 i)) (fun j s hj hR => by
    obtain ⟨c, bb⟩ := s
    obtain ⟨h1, h2, h3, h4, h5⟩ := hR
    simp only at h1 h2 h3 h4 h5
    have hn := (hl.net j hj).has
    have hmem := List.getElem_mem hj
    have htk : x.Nets.take (j + 1) = x.Nets.take j ++ [x.Nets[j]] := List.take_succ_eq_append_getElem hj
    have hfun : ref_island_b1 x w j c bb = bnd (some x.Nets[j]) fun x10 => bnd (slices_Contains_string_string w x10.Name) fun r12 => cnd r12 (some (.go (c, bb))) (aft1 (forN (fun i15 s => ref_island_b2 x w j c bb x10 i15 s) (x10.Pins.length) 0 false) (fun u28 => aft2 (forN (fun i31 s => ref_island_b3 x w j x10 u28 i31 s.1 s.2) (x10.Pins.length) 0 (c, bb)) (fun u57 u58 => some (.go (u57, u58))) (fun r60 => some (.ret r60))) (fun r30 => some (.ret r30))) := by
      unfold ref_island_b1
      rw [atI_lt hj]
    rw [bnd_some, contains_str, bnd_some] at hfun
    generalize x.Nets[j] = n at hn hmem htk hfun
    by_cases hw : n.Name ∈ w
    · rw [decide_eq_true hw, cnd_t] at hfun
      refine ⟨(c, bb), hfun, h1, h2, h3, fun e => ⟨(h4 e).1, fun m hm hmw => ?_⟩, h5⟩
      rw [htk] at hm
      rcases List.mem_append.1 hm with hm | hm
      · exact (h4 e).2 m hm hmw
      · simp at hm; subst hm; exact (hmw hw).elim
    · rw [decide_eq_false hw, cnd_f, hit_loop hn h1, aft1_fin] at hfun
      by_cases hh : (n.Pins.any fun p => decide (bat bb (ixP x p))) = true
      · rw [hh] at hfun
        obtain ⟨p0, hp0, hb0⟩ := List.any_eq_true.1 hh
        have hb0 : bat bb (ixP x p0) := by simpa using hb0
        obtain ⟨c', b', g1, g2, g3, g4, g5, g6, g7⟩ := set_loop (w := w) hn h1 j c
        rw [g1, aft2_fin] at hfun
        refine ⟨(c', b'), hfun, g2, fun i hi => g3 i (h2 i hi), fun i hi => ?_, fun e => ?_, fun e => ?_⟩
        · rcases g4 i hi with hi | ⟨p, hp, rfl⟩
          · exact h3 i hi
          · rw [hr n hmem hw p hp p0 hp0]; exact h3 _ hb0
        · obtain ⟨e1, e2⟩ := g6 e
          obtain ⟨e3, e4⟩ := h4 e1
          subst e3
          refine ⟨e2, fun m hm hmw => ?_⟩
          rw [htk] at hm
          rcases List.mem_append.1 hm with hm | hm
          · exact e4 m hm hmw
          · simp at hm; subst hm
            intro _ p hp
            have := g5 p hp
            rwa [e2] at this
        · rcases g7 e with e1 | ⟨i, i1, i2⟩
          · obtain ⟨i, i1, i2⟩ := h5 e1
            exact ⟨i, i1, g3 i i2⟩
          · exact ⟨i, fun q => i1 (h2 i q), i2⟩
      · have hh' : (n.Pins.any fun p => decide (bat bb (ixP x p))) = false := by simpa using hh
        rw [hh', noset_loop hn, aft2_fin] at hfun
        refine ⟨(c, bb), hfun, h1, h2, h3, fun e => ⟨(h4 e).1, fun m hm hmw => ?_⟩, h5⟩
        rw [htk] at hm
        rcases List.mem_append.1 hm with hm | hm
        · exact (h4 e).2 m hm hmw
        · simp at hm; subst hm
          rintro ⟨p, hp, hbp⟩
          have e3 := (h4 e).1
          subst e3
          exact (hh (List.any_eq_true.2 ⟨p, hp, by simpa using hbp⟩)).elim) x.Nets.length 0 (false, b) (Nat.zero_add _) ⟨hb, fun _ q => q, ho, fun _ => ⟨rfl, fun n hn => by simp at hn⟩, fun e => by cases e⟩
  obtain ⟨c', b'⟩ := s'
  obtain ⟨h1, h2, h3, h4, h5⟩ := q2
  rw [List.take_of_length_le (Nat.le_refl _)] at h4
  exact ⟨c', b', q1, h1, h2, h3, h4, h5⟩
/-- The rounds, to the end. -/
theorem rounds_eq (hl : ListOk t x) {r : Nat → Nat} (hr : OneRoot x w r) {k : Nat} : ∀ (f : Nat) (b : List Bool), cntB b < f → b.length = x.Parts.length → (∀ i, bat b i → r i = r k) → bat b k →
    ∃ b', iter (fun s : Bool × List Bool => ref_island_b0 x w s.1 s.2) (f + 1) (true, b) = some (.fin (false, b')) ∧ b'.length = x.Parts.length ∧ (∀ i, bat b' i → r i = r k) ∧ bat b' k ∧ ∀ n ∈ x.Nets, n.Name ∉ w → ClosedB x b' n
  | 0, b, h, _, _, _ => by omega
  | f + 1, b, h, hb, ho, hk => by
    obtain ⟨c', b', g1, g2, g3, g4, g5, g6⟩ := pass_eq (w := w) hl hr hb ho
    have hb0 : ref_island_b0 x w true b = some (.go (c', b')) := by
      unfold ref_island_b0
      rw [cnd_t, g1, aft2_fin]
    cases c' with
    | false =>
      obtain ⟨e1, e2⟩ := g5 rfl
      subst e1
      refine ⟨b', ?_, hb, ho, hk, e2⟩
      have hb1 : ref_island_b0 x w false b' = some (.brk (false, b')) := by unfold ref_island_b0; rw [cnd_f]
      rw [iter]
      simp only [hb0]
      rw [iter]
      simp only [hb1]
    | true =>
      have hlt := cnt_lt (hb.trans g2.symm) g3 (g6 rfl)
      obtain ⟨b2, k1, k2⟩ := rounds_eq hl hr f b' (by omega) g2 g4 (g3 k hk)
      refine ⟨b2, ?_, k2⟩
      rw [iter]
      simp only [hb0]
      exact k1
theorem closed_con {y : List Int} (h : UfIs y (edgesF x w)) {b : List Bool} (hc : ∀ n ∈ x.Nets, n.Name ∉ w → ClosedB x b n) (h0 : ∀ n ∈ x.Nets, 0 < n.Pins.length) {i k : Nat} (e : root y i = root y k) : bat b i ↔ bat b k := by
  have key : ∀ a c, Con (edgesF x w) a c → (bat b a ↔ bat b c) := fun a c hcon => by
    induction hcon with
    | @edge a c hm =>
      unfold edgesF at hm
      obtain ⟨n, hn, hm⟩ := List.mem_flatMap.1 hm
      unfold edgesN at hm
      by_cases hw : n.Name ∈ w
      · rw [if_pos hw] at hm; cases hm
      · rw [if_neg hw] at hm
        obtain ⟨p, hp, e⟩ := List.mem_map.1 hm
        simp only [Prod.mk.injEq] at e
        obtain ⟨rfl, rfl⟩ := e
        have hp0 : ∃ p0 ∈ n.Pins, ix0 x n = ixP x p0 := by
          unfold ix0
          cases hpl : n.Pins with
          | nil => have := h0 n hn; rw [hpl] at this; simp at this
          | cons p0 r => exact ⟨p0, by simp, rfl⟩
        obtain ⟨p0, hp0, e0⟩ := hp0
        rw [e0]
        exact ⟨fun q => hc n hn hw ⟨p, hp, q⟩ p0 hp0, fun q => hc n hn hw ⟨p0, hp0, q⟩ p hp⟩
    | refl => exact Iff.rfl
    | symm _ ih => exact ih.symm
    | trans _ _ ih1 ih2 => exact ih1.trans ih2
  exact key i k ((h i k).1 e)
theorem ref_island_eq (hl : ListOk t x) {y : List Int} (hy : UfIs y (edgesF x w)) {k : Nat} (hk : k < x.Parts.length) : ref_island x w (k : Int) = some (cls (root y) x.Parts.length (root y k)) := by
  have hlim : lim = 1099511627776 := rfl
  have hpl := hl.parts.len
  unfold ref_island
  have hrep : List.replicate (Int.toNat (x.Parts.length : Int)) false = List.replicate x.Parts.length false := by simp
  have ht : Int.toNat (k : Int) = k := by simp
  rw [grd_pos (by omega), hrep, ht, atI_lt (by simpa using hk), bnd_some]
  have hkl : k < (List.replicate x.Parts.length false).length := by simpa using hk
  have hs := fun i => bat_set (b := List.replicate x.Parts.length false) (i := k) (j := i) hkl
  have hno : ∀ i, ¬ bat (List.replicate x.Parts.length false) i := fun i q => by
    unfold bat at q
    rw [List.getElem?_replicate] at q
    split at q <;> cases q
  have hcn : cntB ((List.replicate x.Parts.length false).set k true) ≤ x.Parts.length := by
    unfold cntB
    have := List.countP_le_length (p := fun z : Bool => !z) (l := (List.replicate x.Parts.length false).set k true)
    simpa using this
  obtain ⟨b, g1, g2, g3, g4, g5⟩ := rounds_eq (w := w) hl (oneRoot_of hy) (k := k) (x.Parts.length + 1) ((List.replicate x.Parts.length false).set k true) (by omega) (by simp) (fun i hi => by
    rcases (hs i).1 hi with rfl | hi
    · rfl
    · exact (hno i hi).elim) ((hs k).2 (.inl rfl))
  rw [loop_i g1, aft2_fin, g2]
  have hnp : ∀ n ∈ x.Nets, 0 < n.Pins.length := fun n hn => by
    obtain ⟨j, hj, rfl⟩ := List.mem_iff_getElem.1 hn
    exact (hl.net j hj).len.1
  obtain ⟨s', q1, q2⟩ := forN_go (b := fun i69 s => ref_island_b4 b i69 s) (N := x.Parts.length) (fun j s => s = cls (root y) j (root y k)) (fun j s hj hR => by
    refine ⟨_, ?_, rfl⟩
    show ref_island_b4 b j s = _
    unfold ref_island_b4
    rw [at_bool (by omega), bnd_some, cls_succ, ← hR]
    have hiff : bat b j ↔ root y j = root y k := ⟨g3 j, fun e => (closed_con hy g5 hnp e).2 g4⟩
    have hcl := cls_len (root y) j (root y k)
    by_cases hc : bat b j
    · rw [decide_eq_true hc, cnd_t, grd_pos (by rw [hR]; simp; omega), bnd1_some, if_pos (hiff.1 hc)]
    · rw [decide_eq_false hc, cnd_f, bnd1_some, if_neg (fun e => hc (hiff.2 e)), List.append_nil]) x.Parts.length 0 [] (Nat.zero_add _) (by simp [cls])
  have q1' : forN (fun i69 s => ref_island_b4 b i69 s) x.Parts.length 0 [] = some (.fin s') := q1
  rw [q1', aft1_fin, q2]
theorem ref_Islands_eq (hs : Small t x) (hw : w.length ≤ lim) : (listF t x = 0 ∧ namesF x w = 0 → ∀ y, UfOk x.Parts.length y → UfIs y (edgesF x w) → ref_Islands t x w = some (islF x (root y), 0)) ∧
    (¬ (listF t x = 0 ∧ namesF x w = 0) → ref_Islands t x w = some ([], if listF t x ≠ 0 then listF t x else namesF x w)) := by
  have hlim : lim = 1099511627776 := rfl
  unfold ref_Islands
  rw [ref_list hs, bnd_some]
  by_cases h0 : listF t x = 0
  · have h := listF_zero h0
    rw [h0, show ((0 : Int) != 0) = false from rfl, cnd_f, ref_names hw, bnd_some]
    by_cases h1 : namesF x w = 0
    · refine ⟨fun _ y hyo hyi => ?_, fun q => (q ⟨rfl, h1⟩).elim⟩
      have hpl := h.parts.len
      have hrep : List.replicate (Int.toNat (x.Parts.length : Int)) false = List.replicate x.Parts.length false := by simp
      rw [h1, show ((0 : Int) != 0) = false from rfl, cnd_f, grd_pos (by omega), hrep]
      generalize hr : root y = r
      have hle : ∀ i, r i ≤ i := fun i => by rw [← hr]; exact hyo.root_le i
      have hrr : ∀ i, r (r i) = r i := fun i => by rw [← hr]; exact hyo.root_root i
      obtain ⟨s', q1, q2⟩ := forN_go (b := fun i8 (s : List Bool × List (List ByteArray)) => ref_Islands_b0 x w i8 s.1 s.2) (N := x.Parts.length) (fun j s => s.1.length = x.Parts.length ∧ (∀ i, i < x.Parts.length → (bat s.1 i ↔ r i < j)) ∧ s.2 = (rts r j).map fun u => (cls r x.Parts.length u).map (nmAt x)) (fun j s hj hR => by
        obtain ⟨d, out⟩ := s
        obtain ⟨g1, g2, g3⟩ := hR
        simp only at g1 g2 g3
        by_cases hd : bat d j
        · have hrj := (g2 j hj).1 hd
          refine ⟨(d, out), ?_, g1, fun i hi => ?_, ?_⟩
          · show ref_Islands_b0 x w j d out = _
            unfold ref_Islands_b0
            rw [at_bool (by omega), bnd_some, decide_eq_true hd, cnd_t]
          · rw [g2 i hi]
            constructor
            · intro q; omega
            · intro q
              have : r i ≠ j := fun e => by have := hrr i; rw [e] at this; omega
              omega
          · rw [g3, rts_succ, if_neg (by omega), List.append_nil]
        · have hrj : r j = j := by
            have := hle j
            have h2 : ¬ r j < j := fun q => hd ((g2 j hj).2 q)
            omega
          have hisl := ref_island_eq (w := w) h hyi hj
          rw [hr, hrj] at hisl
          have hol : out.length ≤ j := by rw [g3, List.length_map]; exact rts_len r j
          -- the island's parts
          obtain ⟨z', e1, e2⟩ := forN_go (b := fun i16 (s : List Bool × List ByteArray) => ref_Islands_b1 x w j out (cls r x.Parts.length j) i16 s.1 s.2) (N := (cls r x.Parts.length j).length) (fun m z => z.1.length = x.Parts.length ∧ (∀ i, bat z.1 i ↔ bat d i ∨ (i : Int) ∈ (cls r x.Parts.length j).take m) ∧ z.2 = ((cls r x.Parts.length j).take m).map (nmAt x)) (fun m z hm hZ => by
            obtain ⟨z1, z2⟩ := z
            obtain ⟨f1, f2, f3⟩ := hZ
            simp only at f1 f2 f3
            have hmem := List.getElem_mem hm
            have htk : (cls r x.Parts.length j).take (m + 1) = (cls r x.Parts.length j).take m ++ [(cls r x.Parts.length j)[m]] := List.take_succ_eq_append_getElem hm
            have hcl := cls_len r x.Parts.length j
            have hzl : z2.length ≤ x.Parts.length := by rw [f3, List.length_map, List.length_take]; omega
            have hfun : ref_Islands_b1 x w j out (cls r x.Parts.length j) m z1 z2 = bnd (some (cls r x.Parts.length j)[m]) fun x19 => bnd (atI z1 x19) fun x21 => bnd (atI x.Parts x19) fun x23 => grd (z2.length + [x23.Name].length ≤ lim) <| some (.go (z1.set (Int.toNat x19) true, z2 ++ [x23.Name])) := by
              unfold ref_Islands_b1
              rw [atI_lt hm]
            rw [bnd_some] at hfun
            generalize hv : (cls r x.Parts.length j)[m] = v at hmem hfun htk
            have hmem2 := hmem
            unfold cls at hmem2
            obtain ⟨i, hi, hiv⟩ := List.mem_map.1 hmem2
            subst hiv
            have hin := List.mem_range.1 (List.mem_filter.1 hi).1
            have hit : Int.toNat (i : Int) = i := by simp
            have hnm : nmAt x (i : Int) = x.Parts[i].Name := by
              unfold nmAt
              simp [List.getElem?_eq_getElem hin]
            rw [at_bool (by omega), bnd_some, atI_lt hin, bnd_some, grd_pos (by simp; omega), hit] at hfun
            refine ⟨(z1.set i true, z2 ++ [x.Parts[i].Name]), hfun, by simpa using f1, fun u => ?_, ?_⟩
            · simp only
              rw [bat_set (by omega), f2, htk, List.mem_append]
              simp only [List.mem_singleton]
              constructor
              · rintro (rfl | q | q)
                · exact .inr (.inr rfl)
                · exact .inl q
                · exact .inr (.inl q)
              · rintro (q | q | q)
                · exact .inr (.inl q)
                · exact .inr (.inr q)
                · exact .inl (by omega)
            · simp only
              rw [htk, List.map_append, ← f3]
              simp [hnm]) (cls r x.Parts.length j).length 0 (d, []) (Nat.zero_add _) ⟨g1, fun i => by simp, by simp⟩
          obtain ⟨z1, z2⟩ := z'
          obtain ⟨f1, f2, f3⟩ := e2
          rw [List.take_of_length_le (Nat.le_refl _)] at f2 f3
          simp only at f1 f2 f3
          refine ⟨(z1, out ++ [z2]), ?_, f1, fun i hi => ?_, ?_⟩
          · show ref_Islands_b0 x w j d out = _
            unfold ref_Islands_b0
            rw [at_bool (by omega), bnd_some, decide_eq_false hd, cnd_f, hisl, bnd_some]
            have e1' : forN (fun i16 (s : List Bool × List ByteArray) => ref_Islands_b1 x w j out (cls r x.Parts.length j) i16 s.1 s.2) (cls r x.Parts.length j).length 0 (d, []) = some (.fin (z1, z2)) := e1
            rw [e1', aft2_fin, grd_pos (by simp; omega)]
          · simp only
            rw [f2, g2 i hi]
            have : (i : Int) ∈ cls r x.Parts.length j ↔ r i = j := by
              unfold cls
              simp only [List.mem_map, List.mem_filter, List.mem_range, decide_eq_true_eq]
              exact ⟨fun ⟨a, ⟨_, ha⟩, e⟩ => by have : a = i := by omega
                                               subst this; exact ha, fun e => ⟨i, ⟨hi, e⟩, rfl⟩⟩
            rw [this]; omega
          · simp only
            rw [rts_succ, if_pos hrj, List.map_append, ← g3, f3]
            rfl) x.Parts.length 0 (List.replicate x.Parts.length false, []) (Nat.zero_add _) ⟨by simp, fun i hi => by
              constructor
              · intro q
                unfold bat at q
                simp only [List.getElem?_replicate] at q
                split at q <;> cases q
              · intro q; omega, by simp [rts]⟩
      obtain ⟨d, out⟩ := s'
      have q1' : forN (fun i8 (s : List Bool × List (List ByteArray)) => ref_Islands_b0 x w i8 s.1 s.2) x.Parts.length 0 (List.replicate x.Parts.length false, []) = some (.fin (d, out)) := q1
      rw [q1', aft2_fin]
      simp only at q2
      rw [q2.2.2]
      rfl
    · refine ⟨fun q => (h1 q.2).elim, fun _ => ?_⟩
      rw [bne_iff_ne.2 h1, cnd_t]
      simp
  · refine ⟨fun q => (h0 q.1).elim, fun _ => ?_⟩
    rw [bne_iff_ne.2 h0, cnd_t, if_pos h0]
end
end Go.Proofs.YtlbndchfmdogeaaDoor.Sym
