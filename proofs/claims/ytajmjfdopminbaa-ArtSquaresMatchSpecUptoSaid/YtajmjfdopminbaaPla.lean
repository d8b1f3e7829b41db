/- Plain facts: on the words of the plain forms (cnd, bnd, forN, loop), on strings' order, on searches in sorted lists. Conditions: none. -/
import Derived.Test.YtajmjfdopminbaaSymv
import Derived.Sort.Walk0
import Derived.Lib.Bytealg
set_option linter.unusedVariables false
set_option linter.unusedSimpArgs false
namespace Go.Proofs.Ytajmjfdopminbaa.Sym
open Go Go.RowKit

/-! ### Words -/
theorem bnd_some {α β : Type} (a : α) (f : α → Option β) : bnd (some a) f = f a := rfl
theorem bnd0_some {ω : Type} (f : Option ω) : bnd0 (some ()) f = f := rfl
theorem bnd1_some {α ω : Type} (a : α) (f : α → Option ω) : bnd1 (some a) f = f a := rfl
theorem bnd2_some {α β ω : Type} (a : α) (b : β) (f : α → β → Option ω) : bnd2 (some (a, b)) f = f a b := rfl
theorem bnd3_some {α β γ ω : Type} (a : α) (b : β) (c : γ) (f : α → β → γ → Option ω) : bnd3 (some (a, b, c)) f = f a b c := rfl
theorem cnd_t {α : Type} (x y : Option α) : cnd true x y = x := rfl
theorem cnd_f {α : Type} (x y : Option α) : cnd false x y = y := rfl
theorem cnd_some {α : Type} (b : Bool) (x y : α) : cnd b (some x) (some y) = some (bif b then x else y) := by cases b <;> rfl
theorem grd_pos {α : Type} {p : Prop} [Decidable p] (h : p) (x : Option α) : grd p x = x := by unfold grd; rw [if_pos h]
theorem aft0_fin {ρ ω : Type} (f : Option ω) (g : ρ → Option ω) : aft0 (some (.fin ())) f g = f := rfl
theorem aft0_ret {ρ ω : Type} (r : ρ) (f : Option ω) (g : ρ → Option ω) : aft0 (some (.ret r)) f g = g r := rfl
theorem aft1_fin {α ρ ω : Type} (s : α) (f : α → Option ω) (g : ρ → Option ω) : aft1 (some (.fin s)) f g = f s := rfl
theorem aft1_ret {α ρ ω : Type} (r : ρ) (f : α → Option ω) (g : ρ → Option ω) : aft1 (some (.ret r)) f g = g r := rfl
theorem aft2_fin {α β ρ ω : Type} (a : α) (b : β) (f : α → β → Option ω) (g : ρ → Option ω) : aft2 (some (.fin (a, b))) f g = f a b := rfl
theorem aft2_ret {α β ρ ω : Type} (r : ρ) (f : α → β → Option ω) (g : ρ → Option ω) : aft2 (some (.ret r)) f g = g r := rfl
theorem aft3_fin {α β γ ρ ω : Type} (a : α) (b : β) (c : γ) (f : α → β → γ → Option ω) (g : ρ → Option ω) : aft3 (some (.fin (a, b, c))) f g = f a b c := rfl
theorem opt_some {α β : Type} (a : α) (f : α → Option β) (g : Option β) : opt (some a) f g = f a := rfl
theorem opt_none {α β : Type} (f : α → Option β) (g : Option β) : opt none f g = g := rfl
theorem atI_lt {α : Type} {xs : List α} {i : Nat} (h : i < xs.length) : atI xs (i : Int) = some xs[i] := by rw [atI_nat, List.getElem?_eq_getElem h]
theorem atI_int {α : Type} {xs : List α} {n : Int} (h0 : 0 ≤ n) : atI xs n = xs[n.toNat]? := by unfold atI; rw [if_pos h0]
theorem w64_id {n : Int} (h1 : -9223372036854775808 ≤ n) (h2 : n ≤ 9223372036854775807) : w64 n = n := by
  unfold w64; rw [IntKind.wrap_i64]; omega
theorem atI_pred {α : Type} {xs : List α} {i : Nat} (h0 : 0 < i) (h : i < xs.length) (hl : xs.length ≤ lim) : atI xs (w64 ((i : Int) - 1)) = some (xs[i - 1]'(by omega)) := by
  have : lim = 1099511627776 := rfl
  rw [w64_id (by omega) (by omega), atI_int (by omega)]
  have : ((i : Int) - 1).toNat = i - 1 := by omega
  rw [this, List.getElem?_eq_getElem]

/-! ### Loops -/
/-- Two counted loops side by side. -/
def OkPair {σ τ ρ π : Type} (R : σ → τ → Prop) (Q : ρ → π → Prop) : Stp σ ρ → Stp τ π → Prop
  | .go a, .go b => R a b
  | .ret r, .ret r' => Q r r'
  | _, _ => False
def OkFin {σ τ ρ π : Type} (R : σ → τ → Prop) (Q : ρ → π → Prop) : Fin' σ ρ → Fin' τ π → Prop
  | .fin a, .fin b => R a b
  | .ret r, .ret r' => Q r r'
  | _, _ => False
theorem forN_sim {σ τ ρ π : Type} {b1 : Nat → σ → Option (Stp σ ρ)} {b2 : Nat → τ → Option (Stp τ π)} {N : Nat} (R : Nat → σ → τ → Prop) (Q : ρ → π → Prop)
    (h : ∀ j s t, j < N → R j s t → ∃ o o', b1 j s = some o ∧ b2 j t = some o' ∧ OkPair (R (j + 1)) Q o o') :
    ∀ (n i : Nat) (s : σ) (t : τ), i + n = N → R i s t → ∃ f f', forN b1 n i s = some f ∧ forN b2 n i t = some f' ∧ OkFin (R N) Q f f'
  | 0, i, s, t, hi, hr => ⟨.fin s, .fin t, rfl, rfl, by rw [show N = i by omega]; exact hr⟩
  | n + 1, i, s, t, hi, hr => by
    obtain ⟨o, o', h1, h2, h3⟩ := h i s t (by omega) hr
    simp only [forN, h1, h2]
    cases o <;> cases o' <;> simp only [OkPair] at h3
    · exact forN_sim R Q h n (i + 1) _ _ (by omega) h3
    · exact ⟨_, _, rfl, rfl, h3⟩
def OkOne {σ ρ : Type} (R : σ → Prop) (Q : ρ → Prop) : Stp σ ρ → Prop
  | .go a => R a
  | .ret r => Q r
  | _ => False
def OkEnd {σ ρ : Type} (R : σ → Prop) (Q : ρ → Prop) : Fin' σ ρ → Prop
  | .fin a => R a
  | .ret r => Q r
theorem forN_inv {σ ρ : Type} {b : Nat → σ → Option (Stp σ ρ)} {N : Nat} (R : Nat → σ → Prop) (Q : ρ → Prop)
    (h : ∀ j s, j < N → R j s → ∃ o, b j s = some o ∧ OkOne (R (j + 1)) Q o) : ∀ (n i : Nat) (s : σ), i + n = N → R i s → ∃ f, forN b n i s = some f ∧ OkEnd (R N) Q f
  | 0, i, s, hi, hr => ⟨.fin s, rfl, by rw [show N = i by omega]; exact hr⟩
  | n + 1, i, s, hi, hr => by
    obtain ⟨o, h1, h3⟩ := h i s (by omega) hr
    simp only [forN, h1]
    cases o <;> simp only [OkOne] at h3
    · exact forN_inv R Q h n (i + 1) _ (by omega) h3
    · exact ⟨_, rfl, h3⟩
/-- A counted loop that only goes on. -/
theorem forN_go {σ ρ : Type} {b : Nat → σ → Option (Stp σ ρ)} {N : Nat} (R : Nat → σ → Prop) (h : ∀ j s, j < N → R j s → ∃ s', b j s = some (.go s') ∧ R (j + 1) s') : ∀ (n i : Nat) (s : σ), i + n = N → R i s → ∃ s', forN b n i s = some (.fin s') ∧ R N s'
  | 0, i, s, hi, hr => ⟨s, rfl, by rw [show N = i by omega]; exact hr⟩
  | n + 1, i, s, hi, hr => by
    obtain ⟨s', h1, h3⟩ := h i s (by omega) hr
    simp only [forN, h1]
    exact forN_go R h n (i + 1) _ (by omega) h3
/-- A search: the first place at which there is something to return. -/
theorem forN_find {ρ : Type} {b : Nat → Unit → Option (Stp Unit ρ)} {N : Nat} (p : Nat → Option ρ) (h : ∀ j, j < N → b j () = some (match p j with | some r => .ret r | none => .go ())) :
    ∀ (n i : Nat), i + n = N → forN b n i () = some (match (List.range' i n).findSome? p with | some r => .ret r | none => .fin ())
  | 0, i, hi => rfl
  | n + 1, i, hi => by
    simp only [forN, h i (by omega), List.range'_succ, List.findSome?_cons]
    cases p i with
    | some r => rfl
    | none => exact forN_find p h n (i + 1) (by omega)

/-! ### Strings' order -/
def slt (a b : ByteArray) : Prop := a.data.toList < b.data.toList
instance (a b : ByteArray) : Decidable (slt a b) := inferInstanceAs (Decidable (_ < _))
theorem ba_ext {a b : ByteArray} (h : a.data.toList = b.data.toList) : a = b := by
  cases a; cases b; congr 1
  exact Array.toList_inj.1 h
theorem sEq_iff {a b : ByteArray} : sEq a b = decide (a = b) := by
  unfold sEq
  rw [ByteArray.toList_eq, ByteArray.toList_eq]
  by_cases h : a = b
  · subst h; simp
  · have : ¬ a.data.toList = b.data.toList := fun e => h (ba_ext e)
    rw [decide_eq_false h]
    exact beq_eq_false_iff_ne.2 this
theorem sNe_iff {a b : ByteArray} : sNe a b = decide (a ≠ b) := by
  have := sEq_iff (a := a) (b := b)
  unfold sEq at this
  unfold sNe
  rw [this]; simp
theorem sLt_iff {a b : ByteArray} : sLt a b = decide (slt a b) := by
  unfold sLt slt
  rw [ByteArray.toList_eq, ByteArray.toList_eq, bytesLess_eq]
  exact decide_eq_decide.2 Iff.rfl
theorem slt_irrefl (a : ByteArray) : ¬ slt a a := List.lt_irrefl _
theorem slt_trans {a b c : ByteArray} (h : slt a b) (k : slt b c) : slt a c := List.lt_trans h k
theorem slt_asymm {a b : ByteArray} (h : slt a b) : ¬ slt b a := fun k => slt_irrefl a (slt_trans h k)
theorem slt_total (a b : ByteArray) : slt a b ∨ a = b ∨ slt b a := by
  by_cases h : slt a b
  · exact .inl h
  · by_cases k : slt b a
    · exact .inr (.inr k)
    · exact .inr (.inl (ba_ext (List.le_antisymm (List.not_lt.1 k) (List.not_lt.1 h))))
theorem sLe_iff {a b : ByteArray} : sLe a b = decide (¬ slt b a) := by
  have h1 := sLt_iff (a := a) (b := b)
  have h2 := sEq_iff (a := a) (b := b)
  unfold sLt at h1
  unfold sEq at h2
  unfold sLe
  rw [h1, h2]
  rcases slt_total a b with h | h | h
  · simp [h, slt_asymm h]
  · subst h; simp [slt_irrefl]
  · have : ¬ a = b := fun e => slt_irrefl a (by rw [e] at h ⊢; exact h)
    simp [h, slt_asymm h, this]
theorem sGt_iff {a b : ByteArray} : sGt a b = decide (slt b a) := by
  have := sLe_iff (a := a) (b := b)
  unfold sLe at this
  unfold sGt
  rw [this]; simp
theorem sGe_iff {a b : ByteArray} : sGe a b = decide (¬ slt a b) := by
  have := sLt_iff (a := a) (b := b)
  unfold sLt at this
  unfold sGe
  rw [this]; simp
theorem cmpB : ∀ (a b : List UInt8), (a < b → Lib.compareBytes a b = -1) ∧ (a = b → Lib.compareBytes a b = 0) ∧ (b < a → Lib.compareBytes a b = 1)
  | [], [] => ⟨fun h => (List.lt_irrefl _ h).elim, fun _ => rfl, fun h => (List.lt_irrefl _ h).elim⟩
  | [], _ :: _ => ⟨fun _ => rfl, (fun h => by cases h), (fun h => by simp at h)⟩
  | _ :: _, [] => ⟨(fun h => by simp at h), (fun h => by cases h), fun _ => rfl⟩
  | a :: l, b :: bs => by
    have ih := cmpB l bs
    simp only [Lib.compareBytes, List.cons_lt_cons_iff, List.cons.injEq]
    refine ⟨fun h => ?_, fun h => ?_, fun h => ?_⟩
    · rcases h with h | ⟨rfl, h⟩
      · simp [h]
      · simp [UInt8.lt_irrefl, ih.1 h]
    · obtain ⟨rfl, rfl⟩ := h
      simp [UInt8.lt_irrefl, ih.2.1 rfl]
    · rcases h with h | ⟨rfl, h⟩
      · have : ¬ a < b := UInt8.lt_asymm h
        simp [h, this]
      · simp [UInt8.lt_irrefl, ih.2.2 h]
/-- How strings.Compare answers. -/
def scmp (a b : ByteArray) : Int := if slt a b then -1 else if a = b then 0 else 1
theorem scmp_eq (a b : ByteArray) : Lib.compareBytes a.data.toList b.data.toList = scmp a b := by
  unfold scmp
  rcases slt_total a b with h | h | h
  · rw [if_pos h]; exact (cmpB _ _).1 h
  · subst h; rw [if_neg (slt_irrefl _), if_pos rfl]; exact (cmpB _ _).2.1 rfl
  · have : ¬ a = b := fun e => slt_irrefl a (by rw [e] at h ⊢; exact h)
    rw [if_neg (slt_asymm h), if_neg this]; exact (cmpB _ _).2.2 h
theorem scmp_neg {a b : ByteArray} : scmp a b < 0 ↔ slt a b := by
  unfold scmp
  split
  · simp [*]
  · rename_i h
    split <;> simp [h]
theorem scmp_zero {a b : ByteArray} : scmp a b = 0 ↔ a = b := by
  unfold scmp
  split
  · rename_i h
    constructor
    · intro h2; omega
    · intro e; subst e; exact (slt_irrefl _ h).elim
  · split <;> simp [*]
theorem scmp_pos {a b : ByteArray} : 0 < scmp a b ↔ slt b a := by
  rcases slt_total a b with h | h | h
  · have := scmp_neg.2 h; constructor
    · intro; omega
    · intro k; exact (slt_asymm h k).elim
  · subst h; have := (scmp_zero (a := a)).2 rfl; constructor
    · intro; omega
    · intro k; exact (slt_irrefl _ k).elim
  · constructor
    · intro _; exact h
    · intro _
      have h1 : ¬ scmp a b < 0 := fun k => slt_asymm h (scmp_neg.1 k)
      have h2 : scmp a b ≠ 0 := fun k => by rw [scmp_zero.1 k] at h; exact slt_irrefl _ h
      omega
end Go.Proofs.Ytajmjfdopminbaa.Sym
