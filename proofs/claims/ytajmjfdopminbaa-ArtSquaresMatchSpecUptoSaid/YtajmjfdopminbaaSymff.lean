/- Sym: slices.Sort and slices.Compact at ints, slices.SortFunc at one element, as specs of lent rows. Conditions: none. -/
import Derived.Test.YtajmjfdopminbaaSymdd
import Derived.Sort.OwnSorted
import Derived.Lib.SlicesCompact
import Derived.Shelf.GgSortFunc.InsertionK
set_option linter.unusedVariables false
set_option linter.unusedSimpArgs false
namespace Go.Proofs.Ytajmjfdopminbaa.Sym
open Go Go.RowKit

theorem heap_sortedE {α : Type} [Inhabited α] (enc : α → Value) {w : World} {g n : Nat} {os : Array Obj} {cur : Array Value} {e : TypeId} {fr : Nat × Nat} (d : Array α) (hb : w.heap[g]? = some (.cells cur e fr)) :
    (Go.Sort.grow (Go.Sort.putRow enc (Go.Sort.ahead w n) g 0 d) os).heap[g]? = some (.cells (Go.Sort.putCells enc 0 d cur) e fr) := by
  have hg : g < w.heap.size := (Array.getElem?_eq_some_iff.1 hb).1
  rw [Go.Sort.heap_grow_old _ _ (by simpa using hg)]
  simp [Go.Sort.putRow, Go.Sort.mapBlock, Go.Sort.ahead, Array.getElem?_modify, hb, Go.Sort.onCells]
theorem grownBy_sortedE {α : Type} [Inhabited α] (enc : α → Value) {w : World} {g n : Nat} {os : Array Obj} (d : Array α) : w.grownBy (Go.Sort.grow (Go.Sort.putRow enc (Go.Sort.ahead w n) g 0 d) os) (some g) := by
  refine ⟨rfl, rfl, rfl, by simp, fun k hk hne => ?_⟩
  rw [Go.Sort.heap_grow_old _ _ (by simpa using hk)]
  have : g ≠ k := fun e => hne (by rw [e])
  simp [Go.Sort.putRow, Go.Sort.mapBlock, Go.Sort.ahead, Array.getElem?_modify, this]
theorem take_putCellsE {α : Type} [Inhabited α] (enc : α → Value) (cur : Array Value) (ts : List α) (h : ts.length ≤ cur.size) : (Go.Sort.putCells enc 0 ts.toArray cur).toList.take ts.length = ts.map enc := by
  apply List.ext_getElem?
  intro j
  by_cases hj : j < ts.length
  · rw [List.getElem?_take_of_lt hj, Array.getElem?_toList]
    simp [Go.Sort.putCells, hj, show j < cur.size by omega]
  · rw [List.getElem?_take_eq_none (by omega), List.getElem?_eq_none (by simp; omega)]
theorem holds_blockE {α : Type} [Inhabited α] (enc : α → Value) {w : World} {g : Nat} {cur : Array Value} {e : TypeId} {ss : List α} (hb : w.heap[g]? = some (.cells cur e (0, 0))) (ht : cur.toList.take ss.length = ss.map enc) : Go.Sort.Holds enc w g 0 ss.toArray := by
  intro j hj
  have hj' : j < ss.length := by simpa using hj
  refine ⟨?_, by simp [World.frozen?, hb]⟩
  have h1 : (cur.toList.take ss.length)[j]? = (ss.map enc)[j]? := by rw [ht]
  rw [List.getElem?_take_of_lt hj'] at h1
  simp only [World.cell?, hb, Nat.zero_add]
  simp only [Option.isSome_none, Bool.false_eq_true, if_false]
  rw [← Array.getElem?_toList, h1]
  simp [hj']

/-- What is to be shown of a call that leaves the row that was lent to it in its place. -/
theorem row_keep {I : Im} {ι : Lo} {w w' : World} {e sz : Nat} {xs zs : List El} {vals' : List Value} (hA : Agr I w) (hL : Lent I ι w [(0, .row e sz xs)])
    (hown : w'.ownsRow 0 e sz (ι 0) zs.length vals') (hg : w.grownBy w' (ι 0).ownBlock) (hs : ∀ x ∈ zs, x.length = sz) (hR : RCs I vals' zs.flatten) (hl : zs.length ≤ lim) :
    Ext (LB w ι [(0, .row e sz xs)]) I w I w' ∧ Lent I ι w' [(0, .row e sz zs)] ∧ ∀ id ob B, getO [(0, Ob.row e sz zs)] id = some ob → owns w' (ι id) ob B → w.heap.size ≤ B ∨ LB w ι [(0, .row e sz xs)] B := by
  obtain ⟨vals, r1, r2, r3, r4⟩ := hL.obj 0 _ rfl
  have hb0 := ownBlock_blockOf r1
  have hLB : ∀ B, (ι 0).ownBlock = some B → LB w ι [(0, .row e sz xs)] B := fun B hB => ⟨0, _, rfl, .inl (by rw [hb0]; exact hB)⟩
  have hI0 : ∀ B, (ι 0).ownBlock = some B → B < w.heap.size ∧ ∀ o, I B o = none := fun B hB => hL.own 0 _ rfl B (.inl (by rw [hb0]; exact hB))
  have hAgr : Agr I w' := fun b o v hb => by
    have hc := hA b o v hb
    have hbs : b < w.heap.size := by
      rcases Nat.lt_or_ge b w.heap.size with q | q
      · exact q
      · simp [World.cell?, Array.getElem?_eq_none q] at hc
    rw [cell_cong (hg.block b hbs fun e => by have := (hI0 b e.symm).2 o; rw [this] at hb; cases hb)]; exact hc
  have hget : ∀ {id : Nat} {ob x : Ob}, getO [(0, x)] id = some ob → id = 0 ∧ ob = x := fun {id ob x} h => by
    cases id with
    | zero => exact ⟨rfl, (Option.some.inj h).symm⟩
    | succ n => cases h
  have hbl : ∀ B, blockOf (ι 0) = some B → (ι 0).ownBlock = some B := fun B hB => by rw [← hb0]; exact hB
  refine ⟨⟨⟨hg.os, hg.tape, hg.output, hg.size, fun b hb hn => hg.block b hb fun e => hn (hLB b e.symm)⟩, Im.le_refl _, fun b o v hb => .inl hb, hAgr⟩, ⟨fun id ob hgo => ?_, fun id ob hgo B hB => ?_, fun id id' ob ob' h1 h2 B _ _ => ?_⟩, fun id ob B hgo hB => ?_⟩
  · obtain ⟨rfl, rfl⟩ := hget hgo
    exact ⟨_, hown, hs, hR, hl⟩
  · obtain ⟨rfl, rfl⟩ := hget hgo
    obtain ⟨q1, q2⟩ := hI0 B (hbl B (owns_flat rfl hB))
    exact ⟨Nat.lt_of_lt_of_le q1 hg.size, q2⟩
  · obtain ⟨rfl, _⟩ := hget h1
    obtain ⟨rfl, _⟩ := hget h2
    rfl
  · obtain ⟨rfl, rfl⟩ := hget hgo
    exact .inr (hLB B (hbl B (owns_flat rfl hB)))

theorem grow_nil (w : World) : Go.Sort.grow w #[] = w := by
  cases w
  simp [Go.Sort.grow]

/-! ### Ints -/
def iE (x : Int) : El := [C.v (.int .i64 x)]
theorem rcs_ints {I : Im} {vs : List Value} : ∀ {l : List Int}, RCs I vs (l.map iE).flatten → vs = l.map (Value.int .i64) := by
  induction vs with
  | nil =>
    intro l h
    cases l with
    | nil => rfl
    | cons x l => cases h
  | cons v vs ih =>
    intro l h
    cases l with
    | nil => cases h
    | cons x l =>
      cases h with
      | cons h1 h2 =>
        cases h1
        rw [ih h2]
        rfl
theorem rcs_of_ints {I : Im} : ∀ (l : List Int), RCs I (l.map (Value.int .i64)) (l.map iE).flatten
  | [] => .nil
  | x :: l => .cons (.v _ rfl rfl) (rcs_of_ints l)
def sortI (l : List Int) : List Int := l.mergeSort fun x y => decide (x ≤ y)
theorem Spec.sortI {P : Program} {f : FuncId} (hc : callable P f)
    (h : ∀ (blk off cap : Nat) (zs : List Int) (w : World), Go.Sort.Holds (Value.int .i64) w blk off zs.toArray → blk < w.heap.size → zs.length < 4611686018427387904 →
      Calls P f #[.slice (some ⟨blk, off, none⟩) zs.length cap] w fun e w' => e = .returned (.tuple #[]) ∧ ∃ n os, w' = Go.Sort.grow (Go.Sort.putRow (Value.int .i64) (Go.Sort.ahead w n) blk off (zs.mergeSort fun x y => decide (x ≤ y)).toArray) os)
    (h0 : ∀ (p : Option Addr) (cap : Nat) (w : World), Calls P f #[.slice p 0 cap] w fun e w' => e = .returned (.tuple #[]) ∧ w' = w)
    (e : Nat) (l : List Int) : Spec P f [.v (.rt 0)] [(0, .row e 1 (l.map iE))] (.tup []) [(0, .row e 1 ((Sym.sortI l).map iE))] := by
  refine ⟨hc, fun I ι w vs hA hvs hL => ?_⟩
  cases hvs with
  | cons hv ht =>
  cases ht
  rename_i v
  obtain ⟨rfl, _⟩ := hv
  obtain ⟨vals, r1, r2, r3, r4⟩ := hL.obj 0 _ rfl
  rw [List.length_map] at r1 r4
  have hvals := rcs_ints r3
  have hlim : lim = 1099511627776 := rfl
  have hsl : (Sym.sortI l).length = l.length := by simp [Sym.sortI]
  rcases r1.2 with ⟨hnil, hn⟩ | ⟨g, cap, cur, hg, hbase, hb, k1, k2, k3, k4⟩
  · have hl : l = [] := List.eq_nil_of_length_eq_zero hn
    subst hl
    show Calls P f #[ι 0] w _
    rw [hnil]
    refine (h0 none 0 w).mono fun e' w' ⟨q1, q2⟩ => ?_
    subst q2
    refine ⟨.tuple #[], I, ι, q1, ⟨Bel.refl _ _, Im.le_refl _, fun b o v hb => .inl hb, hA⟩, ⟨[], rfl, .nil⟩, fun _ _ _ => rfl, ?_, fun id ob B hg hB => ?_⟩
    · simpa [Sym.sortI] using hL
    · exact .inr ⟨id, ob, by simpa [Sym.sortI] using hg, hB⟩
  · have hgs : g < w.heap.size := (Array.getElem?_eq_some_iff.1 hb).1
    have hH := holds_blockE (Value.int .i64) (ss := l) hb (by rw [← hvals]; simpa using k4)
    show Calls P f #[ι 0] w _
    have hcall := h g 0 cap l w hH hgs (by omega)
    rw [← hg] at hcall
    refine hcall.mono fun e' w' ⟨q1, n, os, q2⟩ => ?_
    have hown : w'.ownsRow 0 e 1 (ι 0) ((Sym.sortI l).map iE).length ((Sym.sortI l).map (Value.int .i64)) := by
      rw [List.length_map, hsl]
      refine ⟨by rw [List.length_map, hsl, Nat.mul_one], .inr ⟨g, cap, _, hg, Nat.zero_le _, by rw [q2]; exact heap_sortedE _ _ hb, k1, k2, by simp [Go.Sort.putCells, k3], ?_⟩⟩
      rw [Nat.mul_one, ← hsl]
      exact take_putCellsE (Value.int .i64) cur (Sym.sortI l) (by omega)
    obtain ⟨p1, p2, p3⟩ := row_keep hA hL hown (by rw [q2, hg]; exact grownBy_sortedE _ _) (fun x hx => by obtain ⟨y, _, rfl⟩ := List.mem_map.1 hx; rfl) (rcs_of_ints _) (by rw [List.length_map, hsl]; exact r4)
    exact ⟨.tuple #[], I, ι, q1, p1, ⟨[], rfl, .nil⟩, fun _ _ _ => rfl, p2, p3⟩
theorem Spec.compactI {P : Program} {f : FuncId} (hc : callable P f)
    (h : ∀ (blk off cap : Nat) (zs : List Int) (w : World), Go.Sort.Holds (Value.int .i64) w blk off zs.toArray → zs.length ≤ 9223372036854775807 → zs.length ≤ cap →
      Calls P f #[.slice (some ⟨blk, off, none⟩) zs.length cap] w fun e w' => e = .returned (.slice (some ⟨blk, off, none⟩) (Lib.compact zs).length cap) ∧ ∃ q, w' = Go.Sort.putRow (Value.int .i64) (Go.Sort.ahead w q) blk off (Lib.compact zs ++ List.replicate (zs.length - (Lib.compact zs).length) 0).toArray)
    (h0 : ∀ (a : Option Addr) (cap : Nat) (w : World), Calls P f #[.slice a 0 cap] w fun e w' => e = .returned (.slice a 0 cap) ∧ w' = w)
    (e : Nat) (l : List Int) (hle : (Lib.compact l).length ≤ l.length) : Spec P f [.v (.rt 0)] [(0, .row e 1 (l.map iE))] (.t (.v (.rt 1))) [(1, .row e 1 ((Lib.compact l).map iE))] := by
  refine ⟨hc, fun I ι w vs hA hvs hL => ?_⟩
  cases hvs with
  | cons hv ht =>
  cases ht
  rename_i v
  obtain ⟨rfl, _⟩ := hv
  obtain ⟨vals, r1, r2, r3, r4⟩ := hL.obj 0 _ rfl
  rw [List.length_map] at r1 r4
  have hvals := rcs_ints r3
  have hlim : lim = 1099511627776 := rfl
  rcases r1.2 with ⟨hnil, hn⟩ | ⟨g, cap, cur, hg, hbase, hb, k1, k2, k3, k4⟩
  · have hl : l = [] := List.eq_nil_of_length_eq_zero hn
    subst hl
    have hc0 : Lib.compact ([] : List Int) = [] := List.eq_nil_of_length_eq_zero (by simpa using hle)
    show Calls P f #[ι 0] w _
    have hcall := h0 none 0 w
    rw [← hnil] at hcall
    refine hcall.mono fun e' w' ⟨q1, q2⟩ => ?_
    subst q2
    obtain ⟨p1, p2, p3, p4, p5⟩ := row_post (k := 1) (zs := (Lib.compact ([] : List Int)).map iE) (v' := ι 0) (vals' := vals) hA hL rfl rfl (by rw [hc0]; exact r1) ⟨rfl, rfl, rfl, Nat.le_refl _, fun _ _ _ => rfl⟩ (.inl rfl) (by rw [hc0]; intro x hx; cases hx) (by rw [hc0]; rw [hvals]; exact .nil) (by rw [hc0]; exact Nat.zero_le _)
    exact ⟨ι 0, I, upd ι 1 (ι 0), q1, p1, p2, p3, p4, p5⟩
  · have hH := holds_blockE (Value.int .i64) (ss := l) hb (by rw [← hvals]; simpa using k4)
    show Calls P f #[ι 0] w _
    have hcall := h g 0 cap l w hH (by omega) (by omega)
    rw [← hg] at hcall
    refine hcall.mono fun e' w' ⟨q1, q, q2⟩ => ?_
    have q2' : w' = Go.Sort.grow (Go.Sort.putRow (Value.int .i64) (Go.Sort.ahead w q) g 0 (Lib.compact l ++ List.replicate (l.length - (Lib.compact l).length) 0).toArray) #[] := by
      rw [q2, grow_nil]
    have hlen : (Lib.compact l ++ List.replicate (l.length - (Lib.compact l).length) 0).length = l.length := by simp; omega
    have hown : w'.ownsRow 0 e 1 (.slice (some ⟨g, 0, none⟩) (Lib.compact l).length cap) ((Lib.compact l).map iE).length ((Lib.compact l).map (Value.int .i64)) := by
      rw [List.length_map]
      refine ⟨by rw [List.length_map, Nat.mul_one], .inr ⟨g, cap, _, rfl, Nat.zero_le _, by rw [q2']; exact heap_sortedE _ _ hb, by omega, k2, by simp [Go.Sort.putCells, k3], ?_⟩⟩
      have := take_putCellsE (Value.int .i64) cur (Lib.compact l ++ List.replicate (l.length - (Lib.compact l).length) 0) (by rw [hlen]; omega)
      have h2 := congrArg (List.take (Lib.compact l).length) this
      rw [List.take_take, Nat.min_eq_left (by rw [hlen]; exact hle), ← List.map_take, List.take_left] at h2
      rw [Nat.mul_one]; exact h2
    obtain ⟨p1, p2, p3, p4, p5⟩ := row_post (k := 1) hA hL rfl rfl hown (by rw [q2', hg]; exact grownBy_sortedE _ _) (.inl (by rw [hg]; rfl)) (fun x hx => by obtain ⟨y, _, rfl⟩ := List.mem_map.1 hx; rfl) (rcs_of_ints _) (by rw [List.length_map]; omega)
    exact ⟨_, I, upd ι 1 _, q1, p1, p2, p3, p4, p5⟩

/-! ### One element -/
theorem flatK1 {vals : List Value} {sz : Nat} (h : vals.length = sz) : Go.Sort.flatK (fun _ : Unit => vals) sz #[()] = vals.toArray := by
  apply Array.ext
  · simp [h]
  · intro t h1 h2
    have ht : t < sz := by simpa [h] using h2
    have e2 : t % sz = t := Nat.mod_eq_of_lt ht
    simp [Go.Sort.flatK, e2, show t < vals.length by omega]
theorem Spec.sortOne {P : Program} {f g : FuncId} {sz : Nat} (hc : callable P f) (Good : List Value → Prop)
    (h : ∀ (vals : List Value) (blk cap : Nat) (w : World), vals.length = sz → Good vals → Go.Sort.HoldsK (fun _ : Unit => vals) sz w blk 0 #[()] → blk < w.heap.size →
      Calls P f #[.slice (some ⟨blk, 0, none⟩) 1 cap, .func (.func g) #[] #[]] w fun e w' => e = .returned (.tuple #[]) ∧ ∃ n os, w' = Go.Proofs.sortWorldK (fun _ : Unit => vals) sz w blk 0 n #[()] os)
    (e : Nat) (x : El) (hgood : ∀ (I : Im) (vals : List Value), RCs I vals x → Good vals) : Spec P f [.v (.rt 0), .v (.c (.fn g []))] [(0, .row e sz [x])] (.tup []) [(0, .row e sz [x])] := by
  refine ⟨hc, fun I ι w vs hA hvs hL => ?_⟩
  cases hvs with
  | cons hv ht =>
  cases ht with
  | cons hv2 ht =>
  cases ht
  rename_i v fv
  obtain ⟨rfl, _⟩ := hv
  have hfv : fv = .func (.func g) #[] #[] := by
    have : RC I fv (.fn g []) := hv2
    cases this with
    | fn f vals caps hl hR =>
      have : vals = [] := List.eq_nil_of_length_eq_zero hl
      subst this; rfl
  subst hfv
  obtain ⟨vals, r1, r2, r3, r4⟩ := hL.obj 0 _ rfl
  have hxl : x.length = sz := r2 x (by simp)
  have r3' : RCs I vals x := by simpa using r3
  have hvl : vals.length = sz := by have := r1.1; simpa using this
  rcases r1.2 with ⟨_, hn⟩ | ⟨b, cap, cur, hg, hbase, hb, k1, k2, k3, k4⟩
  · cases hn
  have k4' : cur.toList.take vals.length = vals.map id := by
    rw [List.map_id, hvl]; simpa using k4
  have hH : Go.Sort.HoldsK (fun _ : Unit => vals) sz w b 0 #[()] := by
    show Go.Sort.Holds id w b 0 (Go.Sort.flatK (fun _ : Unit => vals) sz #[()])
    rw [flatK1 hvl]
    exact holds_blockE id hb k4'
  have hgs : b < w.heap.size := (Array.getElem?_eq_some_iff.1 hb).1
  have hcall := h vals b cap w hvl (hgood I vals r3') hH hgs
  have hg1 : ι 0 = .slice (some ⟨b, 0, none⟩) 1 cap := hg
  rw [← hg1] at hcall
  show Calls P f #[ι 0, .func (.func g) #[] #[]] w _
  refine hcall.mono fun r w' ⟨q1, n, os, q2⟩ => ?_
  have q2' : w' = Go.Sort.grow (Go.Sort.putRow id (Go.Sort.ahead w n) b 0 vals.toArray) os := by
    rw [q2]
    show Go.Sort.grow (Go.Sort.putRow id (Go.Sort.ahead w n) b 0 (Go.Sort.flatK (fun _ : Unit => vals) sz #[()])) os = _
    rw [flatK1 hvl]
  have hown : w'.ownsRow 0 e sz (ι 0) [x].length vals := by
    refine ⟨by rw [hvl]; simp, .inr ⟨b, cap, _, hg, Nat.zero_le _, by rw [q2']; exact heap_sortedE _ _ hb, k1, k2, by simp [Go.Sort.putCells, k3], ?_⟩⟩
    have hcs : vals.length ≤ cur.size := by
      have h2 : (cur.toList.take vals.length).length = vals.length := by rw [k4', List.length_map]
      have h3 : cur.toList.length = cur.size := Array.length_toList
      rw [List.length_take] at h2
      omega
    have := take_putCellsE id cur vals hcs
    rw [List.map_id, hvl] at this
    simpa using this
  obtain ⟨p1, p2, p3⟩ := row_keep hA hL hown (by rw [q2', hg]; exact grownBy_sortedE _ _) r2 r3 (by simp [lim])
  exact ⟨.tuple #[], I, ι, q1, p1, ⟨[], rfl, .nil⟩, fun _ _ _ => rfl, p2, p3⟩
end Go.Proofs.Ytajmjfdopminbaa.Sym
