/- Sym: slices.SortFunc at pins, as a spec of a lent row. Conditions: the row is not empty. -/
import Derived.Test.YtlbndchfmdogeaaDoorSymdd
import Derived.Test.YtlbndchfmdogeaaDoorPla
import Derived.Test.YtlbndchfmdogeaaDoorShele
import Derived.Sort.OwnSorted
set_option linter.unusedVariables false
set_option linter.unusedSimpArgs false
namespace Go.Proofs.YtlbndchfmdogeaaDoor.Sym
open Go Go.RowKit
open Go.Proofs (pinEnc pinCmp)

abbrev BB : Type := ByteArray × ByteArray
theorem flat2 : ∀ (l : List BB) (t : Nat) (h : t < l.length * 2), (l.map pinEnc).flatten[t]? = some ((pinEnc (l[t / 2]'(by omega)))[t % 2]!)
  | [], t, h => by simp at h
  | x :: l, 0, h => rfl
  | x :: l, 1, h => rfl
  | x :: l, t + 2, h => by
    have ih := flat2 l t (by simp at h; omega)
    have e1 : (t + 2) / 2 = t / 2 + 1 := by omega
    have e2 : (t + 2) % 2 = t % 2 := by omega
    simp only [e1, e2, List.getElem_cons_succ]
    exact ih
theorem flat2_len (l : List BB) : (l.map pinEnc).flatten.length = l.length * 2 := by
  induction l with
  | nil => rfl
  | cons x l ih =>
    rw [List.map_cons, List.flatten_cons, List.length_append, ih, List.length_cons]
    show 2 + _ = _
    omega
theorem flatK2 (l : List BB) : (Go.Sort.flatK pinEnc 2 l.toArray).toList = (l.map pinEnc).flatten := by
  apply List.ext_getElem?
  intro t
  by_cases h : t < l.length * 2
  · rw [flat2 l t h, Array.getElem?_toList]
    have h2 : t / 2 < l.length := by omega
    simp [Go.Sort.flatK, h, h2]
  · rw [List.getElem?_eq_none (by rw [Array.length_toList, Go.Sort.size_flatK]; simp; omega), List.getElem?_eq_none (by rw [flat2_len]; omega)]
theorem holds2 {w : World} {g : Nat} {cur : Array Value} {e : TypeId} {l : List BB} (hb : w.heap[g]? = some (.cells cur e (0, 0))) (ht : cur.toList.take (l.length * 2) = (l.map pinEnc).flatten) : Go.Sort.HoldsK pinEnc 2 w g 0 l.toArray := by
  intro j hj
  rw [Go.Sort.size_flatK] at hj
  have hj' : j < l.length * 2 := by simpa using hj
  refine ⟨?_, by simp [World.frozen?, hb]⟩
  have h1 : (cur.toList.take (l.length * 2))[j]? = (Go.Sort.flatK pinEnc 2 l.toArray).toList[j]? := by rw [ht, flatK2]
  rw [List.getElem?_take_of_lt hj'] at h1
  simp only [World.cell?, hb, Nat.zero_add]
  simp only [Option.isSome_none, Bool.false_eq_true, if_false]
  rw [← Array.getElem?_toList, h1, Array.getElem?_toList, Array.getElem?_eq_getElem (by rw [Go.Sort.size_flatK]; exact hj), getElem!_pos _ j (by rw [Go.Sort.size_flatK]; exact hj)]
  rfl
theorem heap_sortedV {w : World} {g n : Nat} {os : Array Obj} {cur : Array Value} {e : TypeId} {fr : Nat × Nat} (d : Array Value) (hb : w.heap[g]? = some (.cells cur e fr)) :
    (Go.Sort.grow (Go.Sort.putRow id (Go.Sort.ahead w n) g 0 d) os).heap[g]? = some (.cells (Go.Sort.putCells id 0 d cur) e fr) := by
  have hg : g < w.heap.size := (Array.getElem?_eq_some_iff.1 hb).1
  rw [Go.Sort.heap_grow_old _ _ (by simpa using hg)]
  simp [Go.Sort.putRow, Go.Sort.mapBlock, Go.Sort.ahead, Array.getElem?_modify, hb, Go.Sort.onCells]
theorem grownBy_sortedV {w : World} {g n : Nat} {os : Array Obj} (d : Array Value) : w.grownBy (Go.Sort.grow (Go.Sort.putRow id (Go.Sort.ahead w n) g 0 d) os) (some g) := by
  refine ⟨rfl, rfl, rfl, by simp, fun k hk hne => ?_⟩
  rw [Go.Sort.heap_grow_old _ _ (by simpa using hk)]
  have : g ≠ k := fun e => hne (by rw [e])
  simp [Go.Sort.putRow, Go.Sort.mapBlock, Go.Sort.ahead, Array.getElem?_modify, this]
theorem take_putCellsV (cur ts : Array Value) (h : ts.size ≤ cur.size) : (Go.Sort.putCells id 0 ts cur).toList.take ts.size = ts.toList := by
  apply List.ext_getElem?
  intro j
  by_cases hj : j < ts.size
  · rw [List.getElem?_take_of_lt hj, Array.getElem?_toList, Array.getElem?_toList]
    simp [Go.Sort.putCells, hj, show j < cur.size by omega]
  · rw [List.getElem?_take_eq_none (by omega), List.getElem?_eq_none (by simp; omega)]

/-! ### The order -/
def plt2 (x y : BB) : Prop := slt x.1 y.1 ∨ (x.1 = y.1 ∧ slt x.2 y.2)
instance (x y : BB) : Decidable (plt2 x y) := inferInstanceAs (Decidable (_ ∨ _))
theorem pinCmp_neg {x y : BB} : pinCmp x y < 0 ↔ plt2 x y := by
  unfold pinCmp plt2
  rw [scmp_eq, scmp_eq]
  by_cases h : scmp x.1 y.1 = 0
  · have e := scmp_zero.1 h
    rw [if_neg (by simp [h]), scmp_neg]
    simp [e, slt_irrefl]
  · have e : ¬ x.1 = y.1 := fun q => h (scmp_zero.2 q)
    rw [if_pos h, scmp_neg]
    simp [e]
theorem plt2_irrefl (x : BB) : ¬ plt2 x x := by simp [plt2, slt_irrefl]
theorem plt2_trans {x y z : BB} (h : plt2 x y) (k : plt2 y z) : plt2 x z := by
  rcases h with h | ⟨h, h'⟩ <;> rcases k with k | ⟨k, k'⟩
  · exact .inl (slt_trans h k)
  · exact .inl (k ▸ h)
  · exact .inl (h ▸ k)
  · exact .inr ⟨h.trans k, slt_trans h' k'⟩
theorem plt2_total (x y : BB) : plt2 x y ∨ x = y ∨ plt2 y x := by
  rcases slt_total x.1 y.1 with h | h | h
  · exact .inl (.inl h)
  · rcases slt_total x.2 y.2 with k | k | k
    · exact .inl (.inr ⟨h, k⟩)
    · exact .inr (.inl (Prod.ext h k))
    · exact .inr (.inr (.inr ⟨h.symm, k⟩))
  · exact .inr (.inr (.inl h))
theorem ltOf_pin (x y : BB) : Go.Proofs.ltOf pinCmp x y = decide (plt2 x y) := by
  unfold Go.Proofs.ltOf
  exact decide_eq_decide.2 pinCmp_neg
theorem swo_pin : Go.Sort.SWO (Go.Proofs.ltOf pinCmp) where
  irrefl x := by rw [ltOf_pin]; simp [plt2_irrefl]
  trans x y z h k := by
    rw [ltOf_pin] at *
    simp only [decide_eq_true_eq] at *
    exact plt2_trans h k
  ntrans x y z h k := by
    rw [ltOf_pin] at *
    simp only [decide_eq_false_iff_not] at *
    intro q
    rcases plt2_total x y with r | r | r
    · exact h r
    · subst r; exact k q
    · exact k (plt2_trans r q)
theorem plt2_uniq {l m : List BB} (h : l.Perm m) (h1 : l.Pairwise fun a b => ¬ plt2 b a) (h2 : m.Pairwise fun a b => ¬ plt2 b a) : l = m := by
  refine List.Perm.eq_of_pairwise (le := fun a b => ¬ plt2 b a) (fun a b _ _ k1 k2 => ?_) h1 h2 h
  rcases plt2_total a b with q | q | q
  · exact (k2 q).elim
  · exact q
  · exact (k1 q).elim
def encE (x : BB) : El := [C.v (.string x.1), C.v (.string x.2)]
theorem rcs_pins {I : Im} {vs : List Value} : ∀ {l : List BB}, RCs I vs (l.map encE).flatten → vs = (l.map pinEnc).flatten ∧ ∀ x ∈ l, x.1.size ≤ lim ∧ x.2.size ≤ lim := by
  intro l
  induction l generalizing vs with
  | nil =>
    intro h
    cases h
    exact ⟨rfl, fun x hx => by cases hx⟩
  | cons x l ih =>
    intro h
    cases h with
    | cons h1 h2 =>
    cases h2 with
    | cons h2 h3 =>
    obtain ⟨e, hs⟩ := ih h3
    cases h1 with
    | v _ _ q1 =>
    cases h2 with
    | v _ _ q2 =>
    refine ⟨by rw [e]; rfl, fun y hy => ?_⟩
    rcases List.mem_cons.1 hy with rfl | hy
    · exact ⟨by simpa only [okV, Nat.ble_eq] using q1, by simpa only [okV, Nat.ble_eq] using q2⟩
    · exact hs y hy
theorem rcs_of_pins {I : Im} : ∀ {l : List BB}, (∀ x ∈ l, x.1.size ≤ lim ∧ x.2.size ≤ lim) → RCs I (l.map pinEnc).flatten (l.map encE).flatten
  | [], _ => .nil
  | x :: l, h => .cons (.v _ rfl (by simp only [okV]; rw [Nat.ble_eq]; exact (h x (by simp)).1)) (.cons (.v _ rfl (by simp only [okV]; rw [Nat.ble_eq]; exact (h x (by simp)).2)) (rcs_of_pins fun y hy => h y (by simp [hy])))

/-- SortFunc with ComparePins, at a row that is not empty. -/
theorem Spec.sortPins (hc : callable Go.Proofs.Tryd.prog 104) (e : Nat) (l : List BB) (hne : 0 < l.length) : ∃ l' : List BB, l'.Perm l ∧ (l'.Pairwise fun a b => ¬ plt2 b a) ∧ Spec Go.Proofs.Tryd.prog 104 [.v (.rt 0), .v (.c (.fn 105 []))] [(0, .row e 2 (l.map encE))] (.tup []) [(0, .row e 2 (l'.map encE))] := by
  -- what is sorted is the same whatever the world
  obtain ⟨l', hp, hs⟩ : ∃ l' : List BB, l'.Perm l ∧ l'.Pairwise fun a b => ¬ plt2 b a := by
    refine ⟨l.mergeSort fun a b => decide (¬ plt2 b a), List.mergeSort_perm _ _, ?_⟩
    refine (List.pairwise_mergeSort (fun a b c h k => ?_) (fun a b => ?_) l).imp fun h => by simpa using h
    · simp only [decide_eq_true_eq] at h k ⊢
      intro q
      rcases plt2_total a b with r | r | r
      · exact k (plt2_trans q r)
      · subst r; exact k q
      · exact h r
    · simp only [Bool.or_eq_true, decide_eq_true_eq]
      rcases plt2_total a b with r | r | r
      · exact .inl fun q => plt2_irrefl _ (plt2_trans q r)
      · subst r; exact .inl (plt2_irrefl _)
      · exact .inr fun q => plt2_irrefl _ (plt2_trans q r)
  refine ⟨l', hp, hs, hc, fun I ι w vs hA hvs hL => ?_⟩
  cases hvs with
  | cons hv ht =>
  cases ht with
  | cons hv2 ht =>
  cases ht
  rename_i v fv
  obtain ⟨rfl, _⟩ := hv
  have hfv : fv = .func (.func 105) #[] #[] := by
    have : RC I fv (.fn 105 []) := hv2
    cases this with
    | fn f vals caps hl hR =>
      have : vals = [] := List.eq_nil_of_length_eq_zero hl
      subst this; rfl
  subst hfv
  obtain ⟨vals, r1, r2, r3, r4⟩ := hL.obj 0 _ rfl
  rw [List.length_map] at r1 r4
  obtain ⟨hvals, hsmall⟩ := rcs_pins r3
  have hlim : lim = 1099511627776 := rfl
  have hlen := hp.length_eq
  rcases r1.2 with ⟨_, hn⟩ | ⟨g, cap, cur, hg, hbase, hb, k1, k2, k3, k4⟩
  · omega
  have hgs : g < w.heap.size := (Array.getElem?_eq_some_iff.1 hb).1
  have hH := holds2 (l := l) hb (by rw [← hvals]; exact k4)
  have hcall := Go.Proofs.AnyQ.slices_SortFunc Go.Proofs.Tryd.sortPin 2 Go.Proofs.Tryd.isAgg28 Go.Proofs.Tryd.sizeOf28 pinEnc (fun _ => rfl) (fun x v hv => by simp [Go.Proofs.pinEnc] at hv; rcases hv with rfl | rfl <;> rfl) pinCmp swo_pin 105 #[] g 0 cap l.toArray w (Go.Proofs.enters_of Go.Proofs.Tryd.func105 (by kernel_rfl) rfl) (fun m os dk hdk x y => Go.Proofs.Tryd.ComparePins_calls x y _) hH hgs (by simp; omega)
  have hsz : l.toArray.size = l.length := rfl
  rw [hsz, ← hg] at hcall
  show Calls _ 104 #[ι 0, .func (.func 105) #[] #[]] w _
  refine Calls.mono hcall fun r w' ⟨q1, d', n, os, q2, q3, q4⟩ => ?_
  -- what is found is what is sorted
  have hd' : d'.toList = l' := by
    refine plt2_uniq ?_ ?_ hs
    · have h3 := q2.2.2
      have e1 : (d'.extract 0 l.length).toList = d'.toList := by
        have : d'.size = l.length := q2.1
        rw [← this, Array.extract_size]
      have e2 : (l.toArray.extract 0 l.length).toList = l := by
        rw [← hsz, Array.extract_size]
      rw [e1, e2] at h3
      exact h3.trans hp.symm
    · rw [List.pairwise_iff_getElem]
      intro i j hi hj hij
      have hds : d'.size = l.length := q2.1
      rw [Array.length_toList] at hi hj
      have := q3 i j (Nat.zero_le _) hij (by omega)
      rw [getElem!_pos d' i hi, getElem!_pos d' j hj, ltOf_pin] at this
      simpa using this
  have hF : (Go.Sort.flatK pinEnc 2 d').toList = (l'.map pinEnc).flatten := by
    rw [← hd', ← flatK2]
  have hFs : (Go.Sort.flatK pinEnc 2 d').size = l.length * 2 := by
    rw [Go.Sort.size_flatK]
    have : d'.size = l.length := q2.1
    rw [this]
  have q4' : w' = Go.Sort.grow (Go.Sort.putRow id (Go.Sort.ahead w n) g 0 (Go.Sort.flatK pinEnc 2 d')) os := q4
  obtain ⟨g1, g2, g3, g4, g5⟩ : w.grownBy w' (some g) := by rw [q4']; exact grownBy_sortedV _
  have hown : w'.ownsRow 0 e 2 (ι 0) (l'.map encE).length (l'.map pinEnc).flatten := by
    rw [List.length_map, hlen]
    refine ⟨by rw [flat2_len, hlen], .inr ⟨g, cap, _, hg, Nat.zero_le _, by rw [q4']; exact heap_sortedV _ hb, k1, k2, by simp [Go.Sort.putCells, k3], ?_⟩⟩
    rw [← hFs, ← hF]
    exact take_putCellsV cur _ (by omega)
  have hLB : LB w ι [(0, .row e 2 (l.map encE))] g := ⟨0, _, rfl, .inl (by rw [hg]; rfl)⟩
  have hIg : ∀ o, I g o = none := (hL.own 0 _ rfl g (.inl (by rw [hg]; rfl))).2
  have hget : ∀ {id : Nat} {ob x : Ob}, getO [(0, x)] id = some ob → id = 0 ∧ ob = x := fun {id ob x} h => by
    cases id with
    | zero => exact ⟨rfl, (Option.some.inj h).symm⟩
    | succ n => cases h
  refine ⟨.tuple #[], I, ι, q1, ⟨⟨g1, g2, g3, g4, fun k hk hn => g5 k hk fun e => hn (by cases e; exact hLB)⟩, Im.le_refl _, fun b o v hb => .inl hb, fun b o v hb => ?_⟩, ⟨[], rfl, .nil⟩, fun _ _ _ => rfl, ⟨fun id ob hg' => ?_, fun id ob hg' B hB => ?_, fun id id' ob ob' h1 h2 B _ _ => ?_⟩, fun id ob B hg' hB => ?_⟩
  · have hc := hA b o v hb
    have hne : b ≠ g := fun e => by rw [e, hIg] at hb; cases hb
    have hbs : b < w.heap.size := by
      rcases Nat.lt_or_ge b w.heap.size with q | q
      · exact q
      · simp [World.cell?, Array.getElem?_eq_none q] at hc
    rw [cell_cong (g5 b hbs fun e => hne (by cases e; rfl))]; exact hc
  · obtain ⟨rfl, rfl⟩ := hget hg'
    refine ⟨_, hown, fun x hx => ?_, rcs_of_pins fun x hx => hsmall x (hp.mem_iff.1 hx), by rw [List.length_map, hlen]; exact r4⟩
    obtain ⟨y, _, rfl⟩ := List.mem_map.1 hx
    rfl
  · obtain ⟨rfl, rfl⟩ := hget hg'
    have := owns_flat rfl hB
    rw [hg] at this
    cases this
    exact ⟨Nat.lt_of_lt_of_le hgs g4, hIg⟩
  · obtain ⟨rfl, _⟩ := hget h1
    obtain ⟨rfl, _⟩ := hget h2
    rfl
  · obtain ⟨rfl, rfl⟩ := hget hg'
    have := owns_flat rfl hB
    rw [hg] at this
    cases this
    exact .inr hLB
end Go.Proofs.YtlbndchfmdogeaaDoor.Sym
