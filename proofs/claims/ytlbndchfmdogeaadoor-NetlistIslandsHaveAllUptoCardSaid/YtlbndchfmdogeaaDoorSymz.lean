/- Sym: contracts of the library's sorts, as specs of lent rows. Conditions: none. -/
import Derived.Test.YtlbndchfmdogeaaDoorSymw
import Derived.Sort.OwnSorted
set_option linter.unusedVariables false
set_option linter.unusedSimpArgs false
namespace Go.Proofs.YtlbndchfmdogeaaDoor.Sym
open Go Go.RowKit

/-- Strings, sorted. -/
def sortS (l : List ByteArray) : List ByteArray := ((l.map (·.data.toList)).mergeSort fun x y => decide (x ≤ y)).map fun x => ⟨x.toArray⟩
theorem sortS_len (l : List ByteArray) : (sortS l).length = l.length := by simp [sortS]

theorem rcs_strings {I : Im} {vs : List Value} : ∀ {l : List ByteArray}, RCs I vs (l.map fun x => [C.v (.string x)]).flatten → vs = (l.map (·.data.toList)).map Go.Proofs.encStr := by
  induction vs with
  | nil =>
    intro l h
    cases l with
    | nil => rfl
    | cons x l => cases h
  | cons v vs ih =>
    intro l h
    cases l with
    | nil => cases h
    | cons x l =>
      cases h with
      | cons h1 h2 =>
        cases h1
        rw [ih h2]
        simp [Go.Proofs.encStr]
theorem rcs_of_strings {I : Im} : ∀ {l : List ByteArray}, (∀ x ∈ l, x.size ≤ lim) → RCs I (l.map fun x => Value.string x) (l.map fun x => [C.v (.string x)]).flatten
  | [], _ => .nil
  | x :: l, h => .cons (.v _ rfl (by simp only [okV]; rw [Nat.ble_eq]; exact h x (by simp))) (rcs_of_strings fun y hy => h y (by simp [hy]))
theorem rcs_small {I : Im} {vs : List Value} : ∀ {l : List ByteArray}, RCs I vs (l.map fun x => [C.v (.string x)]).flatten → ∀ x ∈ l, x.size ≤ lim := by
  induction vs with
  | nil =>
    intro l h
    cases l with
    | nil => intro x hx; cases hx
    | cons x l => cases h
  | cons v vs ih =>
    intro l h
    cases l with
    | nil => cases h
    | cons y l =>
      cases h with
      | cons h1 h2 =>
        intro x hx
        rcases List.mem_cons.1 hx with rfl | hx
        · cases h1 with
          | v _ _ hw => simpa only [okV, Nat.ble_eq] using hw
        · exact ih h2 x hx

theorem getO_one {x ob : Ob} {id : Nat} (h : getO [(0, x)] id = some ob) : id = 0 ∧ ob = x := by
  cases id with
  | zero => exact ⟨rfl, (Option.some.inj h).symm⟩
  | succ n => cases h

theorem Spec.sortS {P : Program} {f : FuncId} (hc : callable P f)
    (h : ∀ (blk off cap : Nat) (ss : List (List UInt8)) (w : World), Go.Sort.Holds Go.Proofs.encStr w blk off ss.toArray → blk < w.heap.size → ss.length < 4611686018427387904 →
      Calls P f #[.slice (some ⟨blk, off, none⟩) ss.length cap] w fun e w' => e = .returned (.tuple #[]) ∧ ∃ n os, w' = Go.Sort.grow (Go.Sort.putRow Go.Proofs.encStr (Go.Sort.ahead w n) blk off (ss.mergeSort fun x y => decide (x ≤ y)).toArray) os)
    (h0 : ∀ (p : Option Addr) (cap : Nat) (w : World), Calls P f #[.slice p 0 cap] w fun e w' => e = .returned (.tuple #[]) ∧ w' = w)
    (e : Nat) (l : List ByteArray) : Spec P f [.v (.rt 0)] [(0, .row e 1 (l.map fun x => [C.v (.string x)]))] (.tup []) [(0, .row e 1 ((sortS l).map fun x => [C.v (.string x)]))] := by
  refine ⟨hc, fun I ι w vs hA hvs hL => ?_⟩
  cases hvs with
  | cons hv ht =>
  cases ht
  rename_i v
  obtain ⟨rfl, _⟩ := hv
  obtain ⟨vals, r1, r2, r3, r4⟩ := hL.obj 0 _ rfl
  rw [List.length_map] at r1 r4
  have hvals := rcs_strings r3
  have hsmall := rcs_small r3
  have hlim : lim = 1099511627776 := rfl
  rcases r1.2 with ⟨hnil, hn⟩ | ⟨g, cap, cur, hg, hbase, hb, k1, k2, k3, k4⟩
  · have hl : l = [] := List.eq_nil_of_length_eq_zero hn
    subst hl
    show Calls P f #[ι 0] w _
    rw [hnil]
    refine (h0 none 0 w).mono fun e' w' ⟨q1, q2⟩ => ?_
    subst q2
    refine ⟨.tuple #[], I, ι, q1, ⟨Bel.refl _ _, Im.le_refl _, fun b o v hb => .inl hb, hA⟩, ⟨[], rfl, .nil⟩, fun _ _ _ => rfl, ?_, fun id ob B hg hB => ?_⟩
    · simpa [Sym.sortS] using hL
    · exact .inr ⟨id, ob, by simpa [Sym.sortS] using hg, hB⟩
  · have hgs : g < w.heap.size := (Array.getElem?_eq_some_iff.1 hb).1
    have hlen : (l.map (·.data.toList)).length = l.length := by simp
    have hH : Go.Sort.Holds Go.Proofs.encStr w g 0 (l.map (·.data.toList)).toArray := holds_of_block hb (by rw [hlen, ← hvals]; simpa using k4)
    show Calls P f #[ι 0] w _
    have hcall := h g 0 cap (l.map (·.data.toList)) w hH hgs (by omega)
    rw [hlen, ← hg] at hcall
    refine hcall.mono fun e' w' ⟨q1, n, os, q2⟩ => ?_
    have hgrown := grownBy_sorted (w := w) (g := g) (n := n) (os := os) ((l.map (·.data.toList)).mergeSort fun x y => decide (x ≤ y)).toArray
    have hown : w'.ownsRow 0 e 1 (ι 0) (Sym.sortS l).length ((Sym.sortS l).map fun x => Value.string x) := by
      have := ownsRow_sorted (w := w) (base := 0) (n := n) (os := os) (ss := l.map (·.data.toList)) (ts := (l.map (·.data.toList)).mergeSort fun x y => decide (x ≤ y)) (by simp) hbase hb (by omega) k2 k3
      rw [← q2, hlen, ← hg] at this
      rw [sortS_len]
      have e2 : (Sym.sortS l).map (fun x => Value.string x) = ((l.map (·.data.toList)).mergeSort fun x y => decide (x ≤ y)).map Go.Proofs.encStr := by
        simp [Sym.sortS, Go.Proofs.encStr]
      rw [e2]; exact this
    rw [← q2] at hgrown
    obtain ⟨g1, g2, g3, g4, g5⟩ := hgrown
    have hLB : LB w ι [(0, .row e 1 (l.map fun x => [C.v (.string x)]))] g := ⟨0, _, rfl, .inl (by rw [hg]; rfl)⟩
    have hIg : ∀ o, I g o = none := (hL.own 0 _ rfl g (.inl (by rw [hg]; rfl))).2
    have hsz : ∀ x ∈ Sym.sortS l, x.size ≤ lim := fun x hx => by
      obtain ⟨y, hy, rfl⟩ := List.mem_map.1 hx
      have := (List.mergeSort_perm _ _).mem_iff.1 hy
      obtain ⟨z, hz, rfl⟩ := List.mem_map.1 this
      have := hsmall z hz
      show z.data.toList.toArray.size ≤ lim
      rw [Array.toArray_toList]
      exact this
    refine ⟨.tuple #[], I, ι, q1, ⟨⟨g1, g2, g3, g4, fun k hk hn => g5 k hk fun e => hn ?_⟩, Im.le_refl _, fun b o v hb => .inl hb, fun b o v hb => ?_⟩, ⟨[], rfl, .nil⟩, fun _ _ _ => rfl, ⟨fun id ob hg' => ?_, fun id ob hg' B hB => ?_, fun id id' ob ob' h1 h2 B _ _ => ?_⟩, fun id ob B hg' hB => ?_⟩
    · cases e; exact hLB
    · have hc := hA b o v hb
      have hne : b ≠ g := fun e => by rw [e, hIg] at hb; cases hb
      have hbs : b < w.heap.size := by
        rcases Nat.lt_or_ge b w.heap.size with q | q
        · exact q
        · simp [World.cell?, Array.getElem?_eq_none q] at hc
      rw [cell_cong (g5 b hbs fun e => hne (by cases e; rfl))]; exact hc
    · obtain ⟨rfl, rfl⟩ := getO_one hg'
      refine ⟨_, by rw [List.length_map]; exact hown, fun x hx => ?_, rcs_of_strings hsz, by rw [List.length_map, sortS_len]; exact r4⟩
      obtain ⟨y, _, rfl⟩ := List.mem_map.1 hx
      rfl
    · obtain ⟨rfl, rfl⟩ := getO_one hg'
      have := owns_flat rfl hB
      rw [hg] at this
      cases this
      exact ⟨Nat.lt_of_lt_of_le hgs g4, hIg⟩
    · obtain ⟨rfl, _⟩ := getO_one h1
      obtain ⟨rfl, _⟩ := getO_one h2
      rfl
    · obtain ⟨rfl, rfl⟩ := getO_one hg'
      have := owns_flat rfl hB
      rw [hg] at this
      cases this
      exact .inr hLB
end Go.Proofs.YtlbndchfmdogeaaDoor.Sym
