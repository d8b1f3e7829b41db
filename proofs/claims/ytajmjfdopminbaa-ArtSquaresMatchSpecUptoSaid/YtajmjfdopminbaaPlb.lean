/- Plain facts: searches: linear ones, and binary ones in sorted lists. Conditions: none. -/
import Derived.Test.YtajmjfdopminbaaPla
set_option linter.unusedVariables false
set_option linter.unusedSimpArgs false
namespace Go.Proofs.Ytajmjfdopminbaa.Sym
open Go Go.RowKit

/-! ### Linear searches -/
/-- The place of the first that is so, or -1. -/
def ixBy {α : Type} (p : α → Bool) (xs : List α) : Int := match xs.findIdx? p with
  | some i => (i : Int)
  | none => -1
theorem ixBy_ge {α : Type} (p : α → Bool) (xs : List α) : -1 ≤ ixBy p xs ∧ ixBy p xs < (xs.length : Int) := by
  unfold ixBy
  cases h : xs.findIdx? p with
  | none => simp only; omega
  | some i =>
    have := (List.findIdx?_eq_some_iff_getElem.1 h).1
    simp only; omega
theorem ixBy_neg {α : Type} {p : α → Bool} {xs : List α} : ixBy p xs < 0 ↔ ∀ x ∈ xs, p x = false := by
  unfold ixBy
  cases h : xs.findIdx? p with
  | none =>
    simp only
    have := List.findIdx?_eq_none_iff.1 h
    simp [this]
    intro x hx; exact this x hx
  | some i =>
    obtain ⟨hi, hp, _⟩ := List.findIdx?_eq_some_iff_getElem.1 h
    constructor
    · intro h2; simp only at h2; omega
    · intro h2
      have := h2 xs[i] (List.getElem_mem hi)
      rw [this] at hp; cases hp
theorem ixBy_at {α : Type} {p : α → Bool} {xs : List α} (h : 0 ≤ ixBy p xs) : ∃ (hi : (ixBy p xs).toNat < xs.length), p (xs[(ixBy p xs).toNat]) = true ∧ ∀ j (hj : j < xs.length), j < (ixBy p xs).toNat → p xs[j] = false := by
  unfold ixBy at h ⊢
  cases e : xs.findIdx? p with
  | none => rw [e] at h; simp at h
  | some i =>
    obtain ⟨hi, hp, hlt⟩ := List.findIdx?_eq_some_iff_getElem.1 e
    refine ⟨by simpa using hi, by simpa using hp, fun j hj hji => ?_⟩
    have := hlt j (by simpa using hji)
    simpa using this
theorem ixBy_of {α : Type} {p : α → Bool} {xs : List α} {i : Nat} (hi : i < xs.length) (hp : p xs[i] = true) (h : ∀ j (hj : j < xs.length), j < i → p xs[j] = false) : ixBy p xs = (i : Int) := by
  unfold ixBy
  have : xs.findIdx? p = some i := List.findIdx?_eq_some_iff_getElem.2 ⟨hi, hp, fun j hj => by simpa using h j (by omega) hj⟩
  rw [this]
theorem find_ix {α : Type} (p : α → Bool) (xs : List α) : (match (List.range' 0 xs.length).findSome? (fun (i : Nat) => match xs[i]? with
    | some x => if p x then some (i : Int) else none
    | none => none) with | some r => r | none => -1) = ixBy p xs := by
  cases e : (List.range' 0 xs.length).findSome? (fun (i : Nat) => match xs[i]? with
    | some x => if p x then some (i : Int) else none
    | none => none) with
  | none =>
    simp only
    have h := List.findSome?_eq_none_iff.1 e
    have : ixBy p xs < 0 := ixBy_neg.2 fun x hx => by
      obtain ⟨i, hi, rfl⟩ := List.mem_iff_getElem.1 hx
      have := h i (by simp [hi])
      rw [List.getElem?_eq_getElem hi] at this
      simp only at this
      cases hp : p xs[i] with
      | false => rfl
      | true => rw [hp] at this; simp at this
    have := ixBy_ge p xs
    omega
  | some r =>
    simp only
    obtain ⟨l, a, m, h1, h2, h3⟩ := List.findSome?_eq_some_iff.1 e
    have hlen : l.length < xs.length := by
      have := congrArg List.length h1; simp at this; omega
    have ha : a = l.length := by
      have := congrArg (fun q => q[l.length]?) h1
      simp [hlen] at this; omega
    subst ha
    rw [List.getElem?_eq_getElem hlen] at h2
    simp only at h2
    cases hp : p xs[l.length] with
    | false => rw [hp] at h2; simp at h2
    | true =>
      rw [hp] at h2
      have : r = (l.length : Int) := by simpa using h2.symm
      rw [this]
      refine (ixBy_of hlen hp fun j hj hjl => ?_).symm
      have hm : j ∈ l := by
        have h4 : l[j]? = some j := by
          have := congrArg (fun q => q[j]?) h1
          simp only [List.getElem?_append_left hjl] at this
          rw [← this]; simp [hj]
        exact List.mem_of_getElem? h4
      have := h3 j hm
      rw [List.getElem?_eq_getElem hj] at this
      simp only at this
      cases hp : p xs[j] with
      | false => rfl
      | true => rw [hp] at this; simp at this
/-- 'for i, x := range xs { if p(x) { return i } }; return -1'. -/
def LIN {α : Type} (p : α → Option Bool) (xs : List α) : Option Int :=
  aft0 (forN (fun i _ => bnd (atI xs (i : Int)) fun x => bnd (p x) fun b => cnd b (some (.ret (i : Int))) (some (.go ()))) xs.length 0 ()) (some (-1)) (fun r => some r)
theorem LIN_eq {α : Type} {p : α → Option Bool} {q : α → Bool} {xs : List α} (h : ∀ x ∈ xs, p x = some (q x)) : LIN p xs = some (ixBy q xs) := by
  unfold LIN
  rw [forN_find (N := xs.length) (fun (i : Nat) => match xs[i]? with
    | some x => if q x then some (i : Int) else none
    | none => none) (fun j hj => by
      rw [atI_lt hj, bnd_some, h _ (List.getElem_mem hj), bnd_some, List.getElem?_eq_getElem hj]
      simp only
      cases q xs[j] <;> rfl) _ 0 (Nat.zero_add _)]
  rw [← find_ix q xs]
  generalize (List.range' 0 xs.length).findSome? _ = m
  cases m <;> rfl
/-- The same, where what is asked is no call. -/
def LIN' {α : Type} (p : α → Bool) (xs : List α) : Option Int :=
  aft0 (forN (fun i _ => bnd (atI xs (i : Int)) fun x => cnd (p x) (some (.ret (i : Int))) (some (.go ()))) xs.length 0 ()) (some (-1)) (fun r => some r)
theorem LIN'_eq {α : Type} {p : α → Bool} {xs : List α} : LIN' p xs = some (ixBy p xs) := LIN_eq (p := fun x => some (p x)) (q := p) fun _ _ => rfl

/-! ### Binary searches -/
def BSb {α β : Type} (a2 : α → β → Option Int) (a0 : List α) (a1 : β) (y1 : Int) (y2 : Int) : Option (Stp (Int × Int) (Int × Bool)) :=
 cnd (decide (y1 < y2)) (grd ((0 : Int) ≤ 1) <|
 bnd (atI a0 (IntKind.i64.wrap ((IntKind.u64.wrap (w64 (y1 + y2))) / 2 ^ min (Int.toNat 1) 64))) fun x5 =>
 bnd (a2 x5 a1) fun r7 =>
 bnd2 (cnd (decide (r7 < 0)) (some (y2, w64 ((IntKind.i64.wrap ((IntKind.u64.wrap (w64 (y1 + y2))) / 2 ^ min (Int.toNat 1) 64)) + 1))) (some (IntKind.i64.wrap ((IntKind.u64.wrap (w64 (y1 + y2))) / 2 ^ min (Int.toNat 1) 64), y1))) fun v9 v10 =>
 some (.go (v10, v9))) (some (.brk (y1, y2)))
noncomputable def BS {α β : Type} (a0 : List α) (a1 : β) (a2 : α → β → Option Int) : Option (Int × Bool) :=
 aft2 (loop (fun s => BSb a2 a0 a1 s.1 s.2) (0, (a0.length : Int))) (fun u19 u20 =>
 bnd1 (cnd (decide (u19 < (a0.length : Int))) (bnd (atI a0 u19) fun x27 =>
 bnd (a2 x27 a1) fun r29 =>
 some (r29 == 0)) (some false)) fun v23 =>
 some (u19, v23))
 (fun r22 =>
 some r22)
theorem mid_eq {a b : Nat} (h : a < b) (hb : b ≤ lim) : IntKind.i64.wrap ((IntKind.u64.wrap (w64 ((a : Int) + (b : Int)))) / 2 ^ min (Int.toNat 1) 64) = (((a + b) / 2 : Nat) : Int) := by
  have hl : lim = 1099511627776 := rfl
  rw [w64_id (by omega) (by omega)]
  have h1 : IntKind.u64.wrap ((a : Int) + (b : Int)) = (a : Int) + (b : Int) := by
    simp [IntKind.wrap, IntKind.signed, IntKind.bits]; omega
  rw [h1, IntKind.wrap_i64]
  have h2 : (2 : Int) ^ min (Int.toNat 1) 64 = 2 := by decide
  rw [h2]; omega
theorem BS_loop {α β : Type} {c : α → β → Option Int} {xs : List α} {t : β} {g : α → Int} (hc : ∀ x ∈ xs, c x t = some (g x)) (hm : ∀ i j (hi : i < xs.length) (hj : j < xs.length), i ≤ j → g xs[j] < 0 → g xs[i] < 0) (hl : xs.length ≤ lim) :
    ∀ (d lo hi : Nat), hi - lo ≤ d → lo ≤ hi → hi ≤ xs.length → (∀ i (h : i < xs.length), i < lo → g xs[i] < 0) → (∀ i (h : i < xs.length), hi ≤ i → ¬ g xs[i] < 0) →
    ∃ k : Nat, k ≤ xs.length ∧ (∀ i (h : i < xs.length), i < k ↔ g xs[i] < 0) ∧ iter (fun s => BSb c xs t s.1 s.2) (d + 1) ((lo : Int), (hi : Int)) = some (.fin ((k : Int), (k : Int)))
  | d, lo, hi, hd, hlh, hhi, h1, h2 => by
    by_cases h : lo < hi
    · have hmid : (lo + hi) / 2 < xs.length := by omega
      have hlim : lim = 1099511627776 := rfl
      cases d with
      | zero => omega
      | succ d =>
        have e := mid_eq (a := lo) (b := hi) h (by omega)
        have hb : BSb c xs t (lo : Int) (hi : Int) = if g xs[(lo + hi) / 2] < 0 then some (.go ((((lo + hi) / 2 + 1 : Nat) : Int), (hi : Int))) else some (.go ((lo : Int), (((lo + hi) / 2 : Nat) : Int))) := by
          unfold BSb
          have hlt : decide ((lo : Int) < (hi : Int)) = true := by simpa using h
          rw [hlt, cnd_t, grd_pos (by decide), e, atI_lt hmid, bnd_some, hc _ (List.getElem_mem hmid), bnd_some, cnd_some]
          have : w64 ((((lo + hi) / 2 : Nat) : Int) + 1) = (((lo + hi) / 2 + 1 : Nat) : Int) := by rw [w64_id (by omega) (by omega)]; omega
          rw [this]
          by_cases hg : g xs[(lo + hi) / 2] < 0
          · rw [if_pos hg, decide_eq_true hg]; rfl
          · rw [if_neg hg, decide_eq_false hg]; rfl
        simp only [iter]
        rw [hb]
        by_cases hg : g xs[(lo + hi) / 2] < 0
        · rw [if_pos hg]
          exact BS_loop hc hm hl d ((lo + hi) / 2 + 1) hi (by omega) (by omega) hhi (fun i hi' hlt => hm i ((lo + hi) / 2) hi' hmid (by omega) hg) h2
        · rw [if_neg hg]
          exact BS_loop hc hm hl d lo ((lo + hi) / 2) (by omega) (by omega) (by omega) h1 fun i hi' hge hneg => hg (hm ((lo + hi) / 2) i hmid hi' hge hneg)
    · have : lo = hi := by omega
      subst this
      refine ⟨lo, hhi, fun i hi' => ⟨h1 i hi', fun hg => ?_⟩, ?_⟩
      · rcases Nat.lt_or_ge i lo with q | q
        · exact q
        · exact (h2 i hi' q hg).elim
      · have : decide ((lo : Int) < (lo : Int)) = false := by simp
        simp only [iter, BSb, this, cnd_f]
theorem BS_eq {α β : Type} {c : α → β → Option Int} {xs : List α} {t : β} {g : α → Int} (hc : ∀ x ∈ xs, c x t = some (g x)) (hm : ∀ i j (hi : i < xs.length) (hj : j < xs.length), i ≤ j → g xs[j] < 0 → g xs[i] < 0) (hl : xs.length ≤ lim) :
    ∃ k : Nat, k ≤ xs.length ∧ (∀ i (h : i < xs.length), i < k ↔ g xs[i] < 0) ∧ BS xs t c = some ((k : Int), match xs[k]? with
      | some x => g x == 0
      | none => false) := by
  obtain ⟨k, h1, h2, h3⟩ := BS_loop hc hm hl xs.length 0 xs.length (by omega) (by omega) (Nat.le_refl _) (fun i h hlt => by omega) fun i h hge => by omega
  refine ⟨k, h1, h2, ?_⟩
  have h4 : loop (fun s => BSb c xs t s.1 s.2) (0, (xs.length : Int)) = some (.fin ((k : Int), (k : Int))) := loop_i h3
  unfold BS
  rw [h4, aft2_fin]
  by_cases hk : k < xs.length
  · have : decide ((k : Int) < (xs.length : Int)) = true := by simpa using hk
    rw [this, cnd_t, atI_lt hk, bnd_some, hc _ (List.getElem_mem hk), bnd_some, bnd1_some, List.getElem?_eq_getElem hk]
  · have : decide ((k : Int) < (xs.length : Int)) = false := by simpa using hk
    rw [this, cnd_f, bnd1_some, List.getElem?_eq_none (by omega)]

/-! ### Names in order -/
def Rising {α : Type} (f : α → ByteArray) (xs : List α) : Prop := ∀ i j (hi : i < xs.length) (hj : j < xs.length), i < j → slt (f xs[i]) (f xs[j])
theorem Rising.of {α : Type} {f : α → ByteArray} {xs : List α} (h : ∀ i (hi : i < xs.length) (h0 : 0 < i), slt (f (xs[i - 1]'(by omega))) (f xs[i])) : Rising f xs := fun i j hi hj hij => by
  have : ∀ (d : Nat) j (hj : j < xs.length), j = i + d + 1 → slt (f xs[i]) (f xs[j]) := by
    intro d
    induction d with
    | zero =>
      intro j hj e
      have := h j hj (by omega)
      have e2 : j - 1 = i := by omega
      simp only [e2] at this; exact this
    | succ d ih =>
      intro j hj e
      refine slt_trans (ih (j - 1) (by omega) (by omega)) (h j hj (by omega))
  exact this (j - i - 1) j hj (by omega)
theorem Rising.inj {α : Type} {f : α → ByteArray} {xs : List α} (h : Rising f xs) {i j : Nat} (hi : i < xs.length) (hj : j < xs.length) (e : f xs[i] = f xs[j]) : i = j := by
  rcases Nat.lt_trichotomy i j with q | q | q
  · have := h i j hi hj q; rw [e] at this; exact (slt_irrefl _ this).elim
  · exact q
  · have := h j i hj hi q; rw [e] at this; exact (slt_irrefl _ this).elim
/-- A binary search by a name, in a list that rises by it. -/
theorem BS_name {α : Type} {f : α → ByteArray} {c : α → ByteArray → Option Int} {xs : List α} {s : ByteArray} (hc : ∀ x ∈ xs, c x s = some (scmp (f x) s)) (hr : Rising f xs) (hl : xs.length ≤ lim) :
    ∃ (k : Int) (b : Bool), BS xs s c = some (k, b) ∧ (b = true → k = ixBy (fun x => decide (f x = s)) xs ∧ 0 ≤ k) ∧ (b = false → ixBy (fun x => decide (f x = s)) xs = -1) := by
  obtain ⟨k, h1, h2, h3⟩ := BS_eq (g := fun x => scmp (f x) s) hc (fun i j hi hj hij h => by
    rcases Nat.lt_or_ge i j with q | q
    · exact scmp_neg.2 (slt_trans (hr i j hi hj q) (scmp_neg.1 h))
    · have : i = j := by omega
      subst this; exact h) hl
  refine ⟨k, _, h3, fun hb => ?_, fun hb => ?_⟩
  · cases e : xs[k]? with
    | none => rw [e] at hb; cases hb
    | some x =>
      rw [e] at hb
      simp only [beq_iff_eq] at hb
      obtain ⟨hk, rfl⟩ := List.getElem?_eq_some_iff.1 e
      refine ⟨(ixBy_of hk (by simpa using scmp_zero.1 hb) fun j hj hjk => ?_).symm, by omega⟩
      have := scmp_neg.1 ((h2 j hj).1 hjk)
      have hne : ¬ f xs[j] = s := fun e => slt_irrefl s (by rw [e] at this; exact this)
      simpa using hne
  · have hge := ixBy_ge (fun x => decide (f x = s)) xs
    rcases Int.lt_or_le (ixBy (fun x => decide (f x = s)) xs) 0 with q | q
    · omega
    · exfalso
      obtain ⟨hi, hp, _⟩ := ixBy_at q
      have hp' : f xs[(ixBy (fun x => decide (f x = s)) xs).toNat] = s := by simpa using hp
      generalize (ixBy (fun x => decide (f x = s)) xs).toNat = i at hi hp'
      have hik : ¬ i < k := fun h => by
        have := (h2 i hi).1 h
        have h0 := scmp_zero.2 hp'
        omega
      have hk : k < xs.length := by omega
      rw [List.getElem?_eq_getElem hk] at hb
      have hk0 : ¬ scmp (f xs[k]) s < 0 := fun h => by have := (h2 k hk).2 h; omega
      have hne : scmp (f xs[k]) s ≠ 0 := by simpa using hb
      have hpos := scmp_pos.1 (show 0 < scmp (f xs[k]) s by omega)
      rcases Nat.lt_or_ge k i with q2 | q2
      · have := hr k i hk hi q2
        rw [hp'] at this
        exact slt_asymm this hpos
      · have : i = k := by omega
        subst this
        exact hne (scmp_zero.2 hp')
end Go.Proofs.Ytajmjfdopminbaa.Sym
