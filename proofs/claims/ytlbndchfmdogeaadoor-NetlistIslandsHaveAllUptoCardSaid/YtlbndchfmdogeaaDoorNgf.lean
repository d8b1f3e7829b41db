/- Plain facts on chapter 2's Islands: names that must be there, what is joined, the sets; the first package. Conditions: none. -/
import Derived.Test.YtlbndchfmdogeaaDoorNlf
import Derived.Test.YtlbndchfmdogeaaDoorPlf
set_option linter.unusedVariables false
set_option linter.unusedSimpArgs false
namespace Go.Proofs.YtlbndchfmdogeaaDoor.Sym
open Go Go.RowKit
open Classical

/-! ### Names in order that must be there -/
theorem nl_net_at {x : Netlist} {s : ByteArray} (hr : Rising (·.Name) x.Nets) (hl : x.Nets.length ≤ lim) : nl_NetAt x s = some (ixN (·.Name) x.Nets s) := by
  have e : nl_NetAt x s = (bnd (BS x.Nets s fun z0 z1 => nl_NetAt_1 z0 z1) fun r1 => cnd (!r1.2) (some (-1)) (some r1.1)) := rfl
  rw [e]
  exact at_name (f := fun x : Net => x.Name) (fun x _ => by unfold nl_NetAt_1; rw [strings_Compare_eq]; rfl) hr hl
noncomputable def nameF (x : Netlist) (l : List ByteArray) (w : ByteArray) (i : Nat) : Option Int := if ixN (·.Name) x.Nets w < 0 then some 9 else if ordC (fun s => s) l i then some 8 else none
noncomputable def namesF (x : Netlist) (l : List ByteArray) : Int := if l.length > 1000 then 2 else match firstF l (nameF x l) with
  | some r => r
  | none => 0
theorem nl_names {x : Netlist} {l : List ByteArray} (hr : Rising (·.Name) x.Nets) (hx : x.Nets.length ≤ lim) (hl : l.length ≤ lim) : nl_checkNames l 1000 (fun z0 => nl_Islands_1 z0 x) = some (namesF x l) := by
  unfold nl_checkNames namesF
  by_cases h : l.length > 1000
  · rw [decide_eq_true (by omega), cnd_t, if_pos h]
  · rw [decide_eq_false (by omega), cnd_f, if_neg h, forN_first (xs := l) (nameF x l) fun j hj => ?_]
    · cases firstF l (nameF x l) <;> rfl
    · unfold nl_checkNames_b0 nl_Islands_1 nameF
      rw [atI_lt hj, bnd_some]
      dsimp only
      rw [nl_net_at hr hx, bnd_some, bnd_some]
      by_cases h0 : ixN (·.Name) x.Nets l[j] < 0
      · rw [decide_eq_false (by omega), if_pos h0]; rfl
      · rw [decide_eq_true (by omega), if_neg h0, show (!true) = false from rfl, cnd_f, ord_eq (fun s : ByteArray => s) hj hl rfl, bnd1_some]
        cases ordC (fun s : ByteArray => s) l j <;> rfl
theorem namesF_zero {x : Netlist} {l : List ByteArray} (h : namesF x l = 0) : l.length ≤ 1000 ∧ Rising (fun s : ByteArray => s) l := by
  unfold namesF at h
  by_cases h0 : l.length > 1000
  · rw [if_pos h0] at h; cases h
  · rw [if_neg h0] at h
    refine ⟨by omega, .ofC fun i hi => ?_⟩
    cases hf : firstF l (nameF x l) with
    | some r =>
      rw [hf] at h
      simp only at h
      obtain ⟨j, hj, hr⟩ := firstF_mem hf
      unfold nameF at hr
      split at hr
      · cases hr; cases h
      · split at hr
        · cases hr; cases h
        · cases hr
    | none =>
      have := firstF_none hf i hi
      unfold nameF at this
      split at this
      · cases this
      · split at this
        · cases this
        · rename_i q; simpa using q

/-! ### A binary search for a word -/
theorem less_eq (a b : ByteArray) : cmp_Less_string a b = some (sLt a b) := by
  unfold cmp_Less_string cmp_isNaN_string
  rw [bnd_some, show sNe a a = false by rw [sNe_iff]; simp, cnd_f, bnd1_some]
theorem bin_eq (l : List ByteArray) (s : ByteArray) : slices_BinarySearch_string_string l s = BS l s (fun x t => some (scmp x t)) := by
  have hb : (fun q : Int × Int => slices_BinarySearch_string_string_b0 l s q.1 q.2) = fun q => BSb (fun x t => some (scmp x t)) l s q.1 q.2 := by
    funext q
    unfold slices_BinarySearch_string_string_b0 BSb
    congr 2
    refine congrArg (bnd _) (funext fun x => ?_)
    rw [less_eq, bnd_some, bnd_some, sLt_iff, show decide (slt x s) = decide (scmp x s < 0) from decide_eq_decide.2 scmp_neg.symm]
    cases decide (scmp x s < 0) <;> rfl
  unfold slices_BinarySearch_string_string BS
  rw [show loop (fun s_1 : Int × Int => slices_BinarySearch_string_string_b0 l s s_1.fst s_1.snd) (0, (l.length : Int)) = loop (fun q : Int × Int => BSb (fun x t => some (scmp x t)) l s q.1 q.2) (0, (l.length : Int)) by rw [← hb]]
  congr 1
  funext a b
  congr 1
  congr 1
  cases hx : atI l a with
  | none => rfl
  | some x =>
    simp only [bnd_some, slices_isNaN_string]
    rw [show sNe x x = false by rw [sNe_iff]; simp, cnd_f]
    by_cases h : x = s
    · rw [show sEq x s = true by rw [sEq_iff]; simpa using h, cnd_t, show (scmp x s == 0) = true by rw [beq_iff_eq, scmp_zero]; exact h]
    · rw [show sEq x s = false by rw [sEq_iff]; simpa using h, cnd_f, show (scmp x s == 0) = false by rw [beq_eq_false_iff_ne, Ne, scmp_zero]; exact h]
theorem nl_has_eq {l : List ByteArray} {s : ByteArray} (hr : Rising (fun s : ByteArray => s) l) (hl : l.length ≤ lim) : nl_has l s = some (decide (s ∈ l)) := by
  unfold nl_has
  rw [bin_eq]
  obtain ⟨k, b, h1, h2, h3⟩ := BS_name (f := fun s : ByteArray => s) (c := fun x t => some (scmp x t)) (s := s) (fun x _ => rfl) hr hl
  rw [h1, bnd_some]
  congr 1
  have hiff : s ∈ l ↔ 0 ≤ ixBy (fun x => decide (x = s)) l := by
    constructor
    · intro hm
      rcases Int.lt_or_le (ixBy (fun x => decide (x = s)) l) 0 with q | q
      · have := ixBy_neg.1 q s hm; simp at this
      · exact q
    · intro h0
      obtain ⟨hi, hp, _⟩ := ixBy_at h0
      have : l[(ixBy (fun x => decide (x = s)) l).toNat] = s := by simpa using hp
      rw [← this]; exact List.getElem_mem hi
  cases b with
  | true => rw [decide_eq_true]; exact hiff.2 (by have := h2 rfl; omega)
  | false => rw [decide_eq_false]; intro hm; have := hiff.1 hm; have := h3 rfl; omega

/-! ### What is joined -/
/-- The number of a pin's part. -/
def ixP (x : Netlist) (p : Pin) : Nat := (ixN (·.Name) x.Parts p.Part).toNat
theorem ixP_lt {t : List PartType} {x : Netlist} {p : Pin} (h : hasF t x.Parts p = true) : ixN (·.Name) x.Parts p.Part = (ixP x p : Int) ∧ ixP x p < x.Parts.length := by
  unfold hasF at h
  unfold ixP
  rcases ixN_cases (fun x : Part => x.Name) x.Parts p.Part with ⟨h0, y, h1, h2⟩ | ⟨h0, h1⟩
  · refine ⟨by omega, ?_⟩
    rw [atI_int h0] at h2
    exact (List.getElem?_eq_some_iff.1 h2).1
  · simp [h1] at h
def ix0 (x : Netlist) (n : Net) : Nat := match n.Pins with
  | p :: _ => ixP x p
  | [] => 0
noncomputable def edgesN (x : Netlist) (w : List ByteArray) (n : Net) : List (Nat × Nat) := if n.Name ∈ w then [] else n.Pins.map fun p => (ixP x p, ix0 x n)
noncomputable def edgesF (x : Netlist) (w : List ByteArray) : List (Nat × Nat) := x.Nets.flatMap (edgesN x w)
theorem UfIs.roots {y y' : List Int} {es : List (Nat × Nat)} (h : UfIs y es) (hr : ∀ j, root y' j = root y j) : UfIs y' es := fun a b => by rw [hr, hr]; exact h a b
theorem nl_top_eq {n i : Nat} {y : List Int} (hi : i < n) (h : UfOk n y) : ∃ y', nl_Union_Top ⟨y⟩ (i : Int) = some (((root y i : Nat) : Int), ⟨y'⟩) ∧ UfOk n y' ∧ ∀ j, root y' j = root y j := by
  obtain ⟨y', q1, q2, q3⟩ := TOP_loop (ρ := Int × Union) hi h
  refine ⟨y', ?_, q1, q2⟩
  have e : nl_Union_Top ⟨y⟩ (i : Int) = aft2 (loop (fun s : Int × List Int => TOPb (ρ := Int × Union) s.1 s.2) ((i : Int), y)) (fun u14 u15 => some (u14, (⟨u15⟩ : Union))) (fun r17 => some r17) := rfl
  rw [e, q3, aft2_fin]
theorem mx_nat (a b : Nat) : mx (a : Int) (b : Int) = ((max a b : Nat) : Int) := by
  unfold mx; split <;> omega
theorem mn_nat (a b : Nat) : mn (a : Int) (b : Int) = ((min a b : Nat) : Int) := by
  unfold mn; split <;> omega
theorem nl_join_eq {n i k : Nat} {y : List Int} {es : List (Nat × Nat)} (hi : i < n) (hk : k < n) (h : UfOk n y) (hu : UfIs y es) : ∃ y', nl_Union_Join ⟨y⟩ (i : Int) (k : Int) = some ⟨y'⟩ ∧ UfOk n y' ∧ UfIs y' (es ++ [(i, k)]) := by
  obtain ⟨y1, a1, a2, a3⟩ := nl_top_eq hi h
  obtain ⟨y2, b1, b2, b3⟩ := nl_top_eq hk a2
  have hu2 : UfIs y2 es := (hu.roots a3).roots b3
  have r1 : root y2 i = root y i := by rw [b3, a3]
  have r2 : root y2 k = root y1 k := b3 k
  have hl1 := b2.root_lt hi
  have hl2 := b2.root_lt hk
  have hmax : max (root y i) (root y1 k) < n := by rw [← r1, ← r2]; omega
  have hj := hu2.join b2 hi hk (a := min (root y i) (root y1 k)) (b := max (root y i) (root y1 k)) (by omega) (by rw [r1, r2]; omega)
  refine ⟨_, ?_, hj.2, hj.1⟩
  unfold nl_Union_Join
  rw [a1, bnd_some, b1, bnd_some, mx_nat, mn_nat]
  simp only
  rw [b2.at hmax, bnd_some]
  simp
theorem nl_net_join {t : List PartType} {x : Netlist} (hl : ListOk t x) {w : List ByteArray} {i9 : Nat} (hi9 : i9 < x.Nets.length) {y : List Int} {es : List (Nat × Nat)} (h : UfOk x.Parts.length y) (hu : UfIs y es) (hw : Rising (fun s : ByteArray => s) w) (hwl : w.length ≤ 1000) :
    ∃ y', nl_Islands_b0 x w i9 y = some (.go y') ∧ UfOk x.Parts.length y' ∧ UfIs y' (es ++ edgesN x w x.Nets[i9]) := by
  have hlim : lim = 1099511627776 := rfl
  unfold nl_Islands_b0 edgesN
  rw [atI_lt hi9, bnd_some, nl_has_eq hw (by omega), bnd_some]
  have hn := hl.net i9 hi9
  generalize x.Nets[i9] = n at hn
  by_cases hin : n.Name ∈ w
  · rw [decide_eq_true hin, cnd_t, if_pos hin, List.append_nil]
    exact ⟨y, rfl, h, hu⟩
  · rw [decide_eq_false hin, cnd_f, if_neg hin]
    have h0 : 0 < n.Pins.length := hn.len.1
    have hp0 : atI n.Pins 0 = some n.Pins[0] := by have := atI_lt (xs := n.Pins) h0; simpa using this
    have hi0 : ix0 x n = ixP x n.Pins[0] := by
      unfold ix0
      revert h0
      generalize n.Pins = ps
      intro h0
      cases ps with
      | nil => simp at h0
      | cons p r => simp
    obtain ⟨e0, l0⟩ := ixP_lt (hn.has _ (List.getElem_mem h0))
    obtain ⟨s', q1, q2⟩ := forN_go (b := fun i16 s => nl_Islands_b1 x w i9 n i16 s) (N := n.Pins.length) (fun j s => UfOk x.Parts.length s ∧ UfIs s (es ++ (n.Pins.take j).map fun p => (ixP x p, ix0 x n))) (fun j s hj hR => by
      obtain ⟨e1, l1⟩ := ixP_lt (hn.has _ (List.getElem_mem hj))
      obtain ⟨y', b1, b2, b3⟩ := nl_join_eq l1 l0 hR.1 hR.2
      refine ⟨y', ?_, b2, ?_⟩
      · show nl_Islands_b1 x w i9 n j s = _
        unfold nl_Islands_b1
        rw [atI_lt hj, bnd_some, nl_part_at hl.parts.rise hl.parts.len', bnd_some, hp0, bnd_some, nl_part_at hl.parts.rise hl.parts.len', bnd_some, e1, e0, b1, bnd_some]
      · rw [List.take_succ_eq_append_getElem hj, List.map_append, ← List.append_assoc]
        simpa [hi0] using b3) n.Pins.length 0 y (Nat.zero_add _) ⟨h, by simpa using hu⟩
    rw [List.take_of_length_le (Nat.le_refl _)] at q2
    refine ⟨s', ?_, q2⟩
    have q1' : forN (fun i16 s => nl_Islands_b1 x w i9 n i16 s) n.Pins.length 0 y = some (.fin s') := q1
    rw [q1', aft1_fin]
theorem new_union {n : Nat} (hn : n ≤ lim) : ∃ y, nl_NewUnion (n : Int) = some ⟨y⟩ ∧ UfOk n y ∧ UfIs y [] := by
  unfold nl_NewUnion
  have hrep : List.replicate (Int.toNat (n : Int)) (0 : Int) = List.replicate n 0 := by simp
  rw [grd_pos (by omega), hrep, List.length_replicate]
  obtain ⟨s', q1, q2⟩ := forN_go (b := fun i2 s => nl_NewUnion_b0 (n : Int) i2 s) (N := n) (fun j s => s.length = n ∧ ∀ i (h : i < s.length), i < j → s[i] = (i : Int)) (fun j s hj hR => by
    obtain ⟨h1, h2⟩ := hR
    refine ⟨s.set j (j : Int), ?_, by simpa using h1, fun i hi hij => ?_⟩
    · show nl_NewUnion_b0 (n : Int) j s = _
      unfold nl_NewUnion_b0
      rw [atI_lt (by omega), bnd_some]
      simp
    · by_cases e : j = i
      · subst e; rw [List.getElem_set_self]
      · rw [List.getElem_set_ne e]
        exact h2 i (by simpa using hi) (by omega)) n 0 (List.replicate n 0) (Nat.zero_add _) ⟨by simp, fun i _ h => by omega⟩
  have q1' : forN (fun i2 s => nl_NewUnion_b0 (n : Int) i2 s) n 0 (List.replicate n 0) = some (.fin s') := q1
  rw [q1', aft1_fin, grd_pos hn]
  obtain ⟨h1, h2⟩ := q2
  have hok : UfOk n s' := ⟨h1, fun i hi => by rw [h2 i hi (by omega)]; omega⟩
  have hup : ∀ i, upN s' i = i := fun i => by
    unfold upN
    split
    · rename_i hi; rw [h2 i hi (by omega)]; simp
    · rfl
  refine ⟨s', rfl, hok, fun a b => ?_⟩
  rw [root_of_up (hup a), root_of_up (hup b)]
  constructor
  · rintro rfl; exact .refl _
  · intro h
    induction h with
    | edge h => cases h
    | refl => rfl
    | symm _ ih => exact ih.symm
    | trans _ _ ih1 ih2 => exact ih1.trans ih2

/-! ### The sets -/
def rts (r : Nat → Nat) (j : Nat) : List Nat := (List.range j).filter fun t => decide (r t = t)
def cls (r : Nat → Nat) (j t : Nat) : List Int := ((List.range j).filter fun i => decide (r i = t)).map fun i : Nat => (i : Int)
theorem rts_succ (r : Nat → Nat) (j : Nat) : rts r (j + 1) = rts r j ++ if r j = j then [j] else [] := by
  unfold rts
  rw [List.range_succ, List.filter_append]
  by_cases h : r j = j <;> simp [h]
theorem cls_succ (r : Nat → Nat) (j t : Nat) : cls r (j + 1) t = cls r j t ++ if r j = t then [(j : Int)] else [] := by
  unfold cls
  rw [List.range_succ, List.filter_append, List.map_append]
  by_cases h : r j = t <;> simp [h]
theorem rts_nodup (r : Nat → Nat) (j : Nat) : (rts r j).Nodup := List.nodup_range.filter _
theorem mem_rts {r : Nat → Nat} {j t : Nat} : t ∈ rts r j ↔ t < j ∧ r t = t := by unfold rts; simp
theorem cls_len (r : Nat → Nat) (j t : Nat) : (cls r j t).length ≤ j := by
  unfold cls
  rw [List.length_map]
  have := List.length_filter_le (fun i => decide (r i = t)) (List.range j)
  simpa using this
theorem rts_len (r : Nat → Nat) (j : Nat) : (rts r j).length ≤ j := by
  have := List.length_filter_le (fun t => decide (r t = t)) (List.range j)
  simpa [rts] using this
theorem nl_sets_eq {n : Nat} {y : List Int} (h : UfOk n y) (hn : n ≤ 1000) : ∃ u, nl_Union_Sets ⟨y⟩ = some ((rts (root y) n).map (cls (root y) n), u) := by
  have hlim : lim = 1099511627776 := rfl
  unfold nl_Union_Sets
  have hlen : (⟨y⟩ : Union).up.length = n := h.1
  rw [hlen]
  have hr0 := h
  generalize hr : root y = r at *
  have hle : ∀ i, r i ≤ i := fun i => by rw [← hr]; exact hr0.root_le i
  have hrr : ∀ i, r (r i) = r i := fun i => by rw [← hr]; exact hr0.root_root i
  obtain ⟨s', q1, q2⟩ := forN_go (b := fun i1 (s : List Int × List (Int × Int) × List (List Int)) => nl_Union_Sets_b0 ⟨y⟩ i1 s.1 s.2.1 s.2.2) (N := n) (fun j s => UfOk n s.1 ∧ (∀ i, root s.1 i = r i) ∧ s.2.2 = (rts r j).map (cls r j) ∧ ∀ q (hq : q < (rts r j).length), tlook s.2.1 (((rts r j)[q] : Nat) : Int) = some (q : Int)) (fun j s hj hR => by
    obtain ⟨y2, m, out⟩ := s
    obtain ⟨h1, h2, h3, h4⟩ := hR
    simp only at h1 h2 h3 h4
    obtain ⟨y', a1, a2, a3⟩ := nl_top_eq hj h1
    have hjl : out.length ≤ j := by rw [h3, List.length_map]; exact rts_len r j
    have hr64 : r64 (j : Int) := by unfold r64; constructor <;> omega
    -- what is there when the root has its own set
    have hmid : ∃ m1, (bnd2 (cnd (((r j : Nat) : Int) == (j : Int)) (grd (r64 (j : Int)) <| grd (out.length + ([[]] : List (List Int)).length ≤ lim) <| some (tput m (j : Int) (out.length : Int), out ++ [[]])) (some (m, out))) : (List (Int × Int) → List (List Int) → Option (Stp (List Int × List (Int × Int) × List (List Int)) (List (List Int) × Union))) → _) = (fun f => f m1 ((rts r (j + 1)).map (cls r j))) ∧ ∀ q (hq : q < (rts r (j + 1)).length), tlook m1 (((rts r (j + 1))[q] : Nat) : Int) = some (q : Int) := by
      by_cases e : r j = j
      · refine ⟨tput m (j : Int) (out.length : Int), ?_, fun q hq => ?_⟩
        · funext f
          rw [show (((r j : Nat) : Int) == (j : Int)) = true by rw [beq_iff_eq]; omega, cnd_t, grd_pos hr64, grd_pos (by simp; omega), bnd2_some, rts_succ, if_pos e, List.map_append, ← h3]
          have hc : cls r j j = [] := by
            unfold cls
            rw [List.filter_eq_nil_iff.2]
            · rfl
            · intro i hi
              have := List.mem_range.1 hi
              have := hle i
              simp; omega
          simp [hc]
        · classical
          have hrts : rts r (j + 1) = rts r j ++ [j] := by rw [rts_succ, if_pos e]
          rw [tlook_put]
          by_cases hql : q < (rts r j).length
          · have hg : (rts r (j + 1))[q] = (rts r j)[q] := by simp only [hrts]; rw [List.getElem_append_left hql]
            have hlt := (mem_rts.1 (List.getElem_mem hql)).1
            rw [hg, if_neg (by omega)]; exact h4 q hql
          · have hqe : q = (rts r j).length := by rw [hrts] at hq; simp at hq; omega
            subst hqe
            have hg : (rts r (j + 1))[(rts r j).length] = j := by simp only [hrts]; rw [List.getElem_append_right (Nat.le_refl _)]; simp
            rw [hg, if_pos rfl, h3, List.length_map]
      · refine ⟨m, ?_, fun q hq => ?_⟩
        · funext f
          rw [show (((r j : Nat) : Int) == (j : Int)) = false by rw [beq_eq_false_iff_ne]; omega, cnd_f, bnd2_some, rts_succ, if_neg e, List.append_nil, ← h3]
        · have hrts : rts r (j + 1) = rts r j := by rw [rts_succ, if_neg e, List.append_nil]
          simp only [hrts]
          exact h4 q (by rw [← hrts]; exact hq)
    obtain ⟨m1, e1, e2⟩ := hmid
    -- the root's place
    have hmem : r j ∈ rts r (j + 1) := mem_rts.2 ⟨by have := hle j; omega, hrr j⟩
    obtain ⟨q, hq, hqe⟩ := List.mem_iff_getElem.1 hmem
    have hlook := e2 q hq
    rw [hqe] at hlook
    have hq2 : q < ((rts r (j + 1)).map (cls r j)).length := by simpa using hq
    have hql : q < j + 1 := Nat.lt_of_lt_of_le hq (rts_len r (j + 1))
    have hcl := cls_len r j (r j)
    have hnew : ((rts r (j + 1)).map (cls r j)).set q (cls r j (r j) ++ [(j : Int)]) = (rts r (j + 1)).map (cls r (j + 1)) := by
      refine List.ext_getElem (by simp) fun k hk1 hk2 => ?_
      have hk : k < (rts r (j + 1)).length := by simpa using hk2
      rw [List.getElem_map, cls_succ]
      by_cases e : q = k
      · subst e
        rw [List.getElem_set_self, hqe, if_pos rfl]
      · rw [List.getElem_set_ne e, List.getElem_map]
        have : ¬ r j = (rts r (j + 1))[k] := fun hc => e ((List.getElem_inj (rts_nodup r (j + 1))).1 (hqe.trans hc))
        rw [if_neg this, List.append_nil]
    refine ⟨(y', m1, (rts r (j + 1)).map (cls r (j + 1))), ?_, a2, fun i => by rw [a3, h2], rfl, e2⟩
    show nl_Union_Sets_b0 ⟨y⟩ j y2 m out = _
    unfold nl_Union_Sets_b0
    rw [a1, bnd_some, h2 j]
    simp only
    rw [e1]
    have hr64' : r64 ((r j : Nat) : Int) := by have := hle j; unfold r64; constructor <;> omega
    simp only
    rw [grd_pos hr64', hlook, opt_some, atI_lt hq2, bnd_some, List.getElem_map, hqe, grd_pos (by simp; omega), bnd_some, bnd1_some]
    have ht : Int.toNat (q : Int) = q := by simp
    rw [ht, hnew]) n 0 (y, [], []) (Nat.zero_add _) ⟨h, fun i => by rw [hr], by simp [rts], fun q hq => by simp [rts] at hq⟩
  obtain ⟨y2, m, out⟩ := s'
  have q1' : forN (fun i1 (s : List Int × List (Int × Int) × List (List Int)) => nl_Union_Sets_b0 ⟨y⟩ i1 s.1 s.2.1 s.2.2) n 0 (y, [], []) = some (.fin (y2, m, out)) := q1
  rw [q1', aft3_fin, grd_pos (by omega)]
  simp only at q2
  rw [← q2.2.2.1]
  exact ⟨_, rfl⟩

/-! ### Islands -/
def nmAt (x : Netlist) (i : Int) : ByteArray := match x.Parts[i.toNat]? with
  | some p => p.Name
  | none => ⟨#[]⟩
def islF (x : Netlist) (r : Nat → Nat) : List (List ByteArray) := (rts r x.Parts.length).map fun t => (cls r x.Parts.length t).map (nmAt x)
theorem nl_Islands_eq {t : List PartType} {x : Netlist} (hs : Small t x) {w : List ByteArray} (hw : w.length ≤ lim) : (listF t x = 0 ∧ namesF x w = 0 → ∃ y, UfOk x.Parts.length y ∧ UfIs y (edgesF x w) ∧ nl_Islands t x w = some (islF x (root y), 0)) ∧
    (¬ (listF t x = 0 ∧ namesF x w = 0) → nl_Islands t x w = some ([], if listF t x ≠ 0 then listF t x else namesF x w)) := by
  have hlim : lim = 1099511627776 := rfl
  unfold nl_Islands
  rw [nl_list hs, bnd_some]
  by_cases h0 : listF t x = 0
  · have h := listF_zero h0
    rw [h0, show ((0 : Int) != 0) = false from rfl, cnd_f, nl_names h.rise (by have := h.len; omega) hw, bnd_some]
    by_cases h1 : namesF x w = 0
    · refine ⟨fun _ => ?_, fun q => (q ⟨rfl, h1⟩).elim⟩
      obtain ⟨hwl, hwr⟩ := namesF_zero h1
      have hpl := h.parts.len
      rw [h1, show ((0 : Int) != 0) = false from rfl, cnd_f]
      obtain ⟨y0, a1, a2, a3⟩ := new_union (n := x.Parts.length) (by omega)
      rw [a1, bnd_some]
      obtain ⟨s', q1, q2⟩ := forN_go (b := fun i9 s => nl_Islands_b0 x w i9 s) (N := x.Nets.length) (fun j s => UfOk x.Parts.length s ∧ UfIs s ((x.Nets.take j).flatMap (edgesN x w))) (fun j s hj hR => by
        obtain ⟨y', b1, b2, b3⟩ := nl_net_join h hj hR.1 hR.2 hwr hwl
        refine ⟨y', b1, b2, ?_⟩
        rw [List.take_succ_eq_append_getElem hj, List.flatMap_append]
        simpa using b3) x.Nets.length 0 y0 (Nat.zero_add _) ⟨a2, by simpa using a3⟩
      rw [List.take_of_length_le (Nat.le_refl _)] at q2
      refine ⟨s', q2.1, q2.2, ?_⟩
      have q1' : forN (fun i9 s => nl_Islands_b0 x w i9 s) x.Nets.length 0 y0 = some (.fin s') := q1
      simp only
      rw [q1', aft1_fin]
      obtain ⟨u, c1⟩ := nl_sets_eq q2.1 hpl
      rw [c1, bnd_some]
      simp only
      have hrl := rts_len (root s') x.Parts.length
      rw [forN_app (xs := (rts (root s') x.Parts.length).map (cls (root s') x.Parts.length)) (f := fun l => [l.map (nmAt x)]) 0 (fun j hj l hl => by
        have hj' : j < (rts (root s') x.Parts.length).length := by simpa using hj
        unfold nl_Islands_b2
        simp only
        rw [atI_lt hj, bnd_some, forN_app (xs := ((rts (root s') x.Parts.length).map (cls (root s') x.Parts.length))[j]) (f := fun i => [nmAt x i]) 0 (fun k hk l' hl' => by
          unfold nl_Islands_b3
          rw [atI_lt hk, bnd_some]
          have hmem : (((rts (root s') x.Parts.length).map (cls (root s') x.Parts.length))[j])[k] ∈ cls (root s') x.Parts.length (rts (root s') x.Parts.length)[j] := by
            have h9 : ∀ z, z ∈ ((rts (root s') x.Parts.length).map (cls (root s') x.Parts.length))[j] → z ∈ cls (root s') x.Parts.length (rts (root s') x.Parts.length)[j] := fun z hz => by rwa [List.getElem_map] at hz
            exact h9 _ (List.getElem_mem hk)
          have hcl : (((rts (root s') x.Parts.length).map (cls (root s') x.Parts.length))[j]).length ≤ x.Parts.length := by rw [List.getElem_map]; exact cls_len _ _ _
          generalize hv : (((rts (root s') x.Parts.length).map (cls (root s') x.Parts.length))[j])[k] = v at hmem
          unfold cls at hmem
          obtain ⟨i, hi, rfl⟩ := List.mem_map.1 hmem
          have hin := List.mem_range.1 (List.mem_filter.1 hi).1
          have htl : ((((rts (root s') x.Parts.length).map (cls (root s') x.Parts.length))[j]).take k |>.flatMap fun i => [nmAt x i]).length ≤ x.Parts.length := by
            rw [flat_one, List.length_map, List.length_take]; omega
          have hnm : nmAt x (i : Int) = x.Parts[i].Name := by
            unfold nmAt
            simp [List.getElem?_eq_getElem hin]
          rw [atI_lt hin, bnd_some, grd_pos (by simp; omega), hnm]) (by simp), aft1_fin, List.nil_append, flat_one]
        have htl : ((((rts (root s') x.Parts.length).map (cls (root s') x.Parts.length)).take j).flatMap fun l => [l.map (nmAt x)]).length ≤ x.Parts.length := by
          rw [flat_one, List.length_map, List.length_take, List.length_map]; omega
        rw [grd_pos (by simp; omega)]) (by simp), aft1_fin, List.nil_append, flat_one, List.map_map]
      rfl
    · refine ⟨fun q => (h1 q.2).elim, fun _ => ?_⟩
      rw [bne_iff_ne.2 h1, cnd_t]
      simp
  · refine ⟨fun q => (h0 q.1).elim, fun _ => ?_⟩
    rw [bne_iff_ne.2 h0, cnd_t, if_pos h0]
end Go.Proofs.YtlbndchfmdogeaaDoor.Sym
