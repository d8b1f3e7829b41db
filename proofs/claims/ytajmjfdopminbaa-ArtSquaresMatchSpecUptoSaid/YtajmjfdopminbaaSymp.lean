/- Sym: a region whose operations are done in any order. Conditions: the table of types is the program's (TabOk); the program follows mixed orders. -/
import Derived.Test.YtajmjfdopminbaaSymo
import Derived.Orders
set_option linter.unusedVariables false
set_option linter.unusedSimpArgs false
namespace Go.Proofs.Ytajmjfdopminbaa.Sym
open Go Go.RowKit

section
variable {P : Program} {X : Tab} {E : Env} {w w' : World} {I I' : Im} {ι ι' : Lo} {fr fr' : Fr} {hp hp' : Hp} {a : Act} {o : Oper}

theorem St.extn (h : St E fr hp I ι a w) (hf : ∀ s, get fr' s = .u ∨ get fr' s = get fr s) (hh : ∀ id ob, getO hp' id = some ob → getO hp id = some ob) : St E fr' hp' I ι a w :=
  ⟨h.below, h.le, h.new, h.agr, h.size, h.defers, h.fix, fun s => by
    rcases hf s with e | e
    · rw [e]; trivial
    · rw [e]; exact h.rel.slot s, fun id ob hg => h.rel.obj id ob (hh _ _ hg), fun id ob hg => h.rel.own id ob (hh _ _ hg), fun id id' ob ob' h1 h2 => h.rel.inj id id' ob ob' (hh _ _ h1) (hh _ _ h2)⟩

/-- The frame within which an operation with this footprint is done. -/
def Env.sub (E : Env) (I : Im) (ι : Lo) (w : World) (hin : Hp) : Env := { N := E.N, w0 := w, L := LB w ι hin, I0 := I, k := E.k, ι0 := ι }
theorem St.sub (h : St E fr hp I ι a w) (hf : ∀ s, get fr' s = .u ∨ get fr' s = get fr s) (hh : ∀ id ob, getO hp' id = some ob → getO hp id = some ob) : St (E.sub I ι w hp') fr' hp' I ι a w := by
  have h' := h.extn hf hh
  exact ⟨Bel.refl _ _, Im.le_refl _, fun b o v hb => .inl hb, h.agr, h.size, h.defers, fun _ _ => rfl, h'.rel.slot, h'.rel.obj, fun id ob hg B hB => ⟨.inr ⟨id, ob, hg, hB⟩, (h'.rel.own id ob hg B hB).2⟩, h'.rel.inj⟩

/-- And what is known of the rest stays known. -/
theorem St.frame (h : St E fr hp I ι a w) {hin out : Hp} {fr1 : Fr} {nw : List Nat} (hsub : ∀ id ob, getO hin id = some ob → getO hp id = some ob) (hs : St (E.sub I ι w hin) fr1 out I' ι' a w') (hfix : ∀ id, id ∉ nw → ι' id = ι id)
    (hnk : ∀ d ∈ nw, E.k ≤ d) (hnf : ∀ s, ∀ d ∈ nw, d ∉ mentA (get fr s)) (hnh : ∀ id ob, getO hp id = some ob → id ∉ nw ∧ ∀ d ∈ nw, d ∉ mentO ob) {hp2 : Hp}
    (hp2' : ∀ id ob, getO hp2 id = some ob → getO out id = some ob ∨ (getO hp id = some ob ∧ id ∉ ids hin ∧ id ∉ ids out)) : St E fr hp2 I' ι' a w' := by
  have hx : Ext (LB w ι hin) I w I' w' := ⟨hs.below, hs.le, hs.new, hs.agr⟩
  have hLB : ∀ B, LB w ι hin B → E.w0.heap.size ≤ B ∨ E.L B := fun B ⟨id, ob, hg, hB⟩ => (h.rel.own _ _ (hsub _ _ hg) B hB).1
  have hrest : ∀ id ob, getO hp id = some ob → id ∉ ids hin → ∀ B, owns w (ι id) ob B → ¬ LB w ι hin B := fun id ob hg hn B hB ⟨i, ob', hg', hB'⟩ => by
    have := h.rel.inj _ _ _ _ hg (hsub _ _ hg') B hB hB'
    exact hn (this ▸ mem_ids hg')
  have hback : ∀ id ob, getO hp id = some ob → id ∉ ids hin → ∀ B, owns w' (ι id) ob B → owns w (ι id) ob B := fun id ob h1 h2 B =>
    (owns_cong (fun B' hB' => hx.below.block B' (h.rel.own id ob h1 B' (.inl hB')).2.1 (hrest id ob h1 h2 B' (.inl hB'))) B).1
  refine h.step hx hLB (fun id hid => hfix id fun hm => by have := hnk id hm; omega) ?_
  refine ⟨fun s => (h.rel.slot s).cong hx.le fun id hid => hfix id fun hm => hnf s id hm hid, fun id ob hg => ?_, fun id ob hg B hB => ?_, fun id id' ob ob' h1 h2 B hB hB' => ?_⟩
  · rcases hp2' id ob hg with hg | ⟨hg, hn, _⟩
    · exact hs.rel.obj id ob hg
    · obtain ⟨q1, q2⟩ := hnh id ob hg
      rw [hfix id q1]
      exact (h.rel.obj id ob hg).cong hx.le (fun i hi => hfix i fun hm => q2 i hm hi) fun B hB => hx.below.block B (h.rel.own id ob hg B hB).2.1 (hrest id ob hg hn B hB)
  · rcases hp2' id ob hg with hg | ⟨hg, hn, _⟩
    · obtain ⟨q1, q2⟩ := hs.rel.own id ob hg B hB
      refine ⟨?_, q2⟩
      rcases q1 with q | q
      · exact .inl (Nat.le_trans h.below.size q)
      · exact hLB B q
    · obtain ⟨q1, q2⟩ := hnh id ob hg
      rw [hfix id q1] at hB
      have hB := hback id ob hg hn B hB
      obtain ⟨r1, r2, r3⟩ := h.rel.own id ob hg B hB
      refine ⟨r1, Nat.lt_of_lt_of_le r2 hx.below.size, fun o => ?_⟩
      cases hi : I' B o with
      | none => rfl
      | some u =>
        rcases hx.new B o u hi with q | q | q
        · rw [r3] at q; cases q
        · omega
        · exact (hrest id ob hg hn B hB q).elim
  · rcases hp2' id ob h1 with h1 | ⟨h1, n1, _⟩ <;> rcases hp2' id' ob' h2 with h2 | ⟨h2, n2, _⟩
    · exact hs.rel.inj _ _ _ _ h1 h2 B hB hB'
    · exfalso
      rw [hfix id' (hnh id' ob' h2).1] at hB'
      have hB' := hback id' ob' h2 n2 B hB'
      rcases (hs.rel.own id ob h1 B hB).1 with q | q
      · have q1 : w.heap.size ≤ B := q
        have := (h.rel.own id' ob' h2 B hB').2.1; omega
      · exact hrest id' ob' h2 n2 B hB' q
    · exfalso
      rw [hfix id (hnh id ob h1).1] at hB
      have hB := hback id ob h1 n1 B hB
      rcases (hs.rel.own id' ob' h2 B hB').1 with q | q
      · have q1 : w.heap.size ≤ B := q
        have := (h.rel.own id ob h1 B hB).2.1; omega
      · exact hrest id ob h1 n1 B hB q
    · rw [hfix id (hnh id ob h1).1] at hB
      rw [hfix id' (hnh id' ob' h2).1] at hB'
      exact h.rel.inj _ _ _ _ h1 h2 B (hback id ob h1 n1 B hB) (hback id' ob' h2 n2 B hB')
end

/-! ### What is known when some of the operations are done -/
/-- An operation: its slot, what it gives, its footprint, what the footprint is after it, whether it turns it, the names it gives, the operations that come before it. -/
structure DR where
  dst : Option Nat
  x : AV
  gs : List Nat
  out : Hp
  md : Bool
  nw : List Nat
  dp : List Nat
def dstIs : Option Nat → Nat → Bool
  | some d, s => d == s
  | none, _ => false
def slotS (S : Nat → Bool) (s : Nat) : List DR → Nat → AV → AV
  | [], _, acc => acc
  | r :: rs, n, acc => slotS S s rs (n + 1) (bif S n && dstIs r.dst s then r.x else acc)
def turns (r : DR) (id : Nat) : Bool := r.md && (hasN r.gs id || hasN (ids r.out) id)
def contS (S : Nat → Bool) (id : Nat) : List DR → Nat → Option Ob → Option Ob
  | [], _, acc => acc
  | r :: rs, n, acc => contS S id rs (n + 1) (bif S n && turns r id then getO r.out id else acc)

theorem slotS_congr {S S' : Nat → Bool} {s : Nat} : ∀ (rs : List DR) (n : Nat) (acc : AV), (∀ i r, rs[i]? = some r → dstIs r.dst s = true → S (n + i) = S' (n + i)) → slotS S s rs n acc = slotS S' s rs n acc
  | [], n, acc, h => rfl
  | r :: rs, n, acc, h => by
    simp only [slotS]
    have h0 : (bif S n && dstIs r.dst s then r.x else acc) = (bif S' n && dstIs r.dst s then r.x else acc) := by
      cases hd : dstIs r.dst s with
      | false => simp
      | true => have := h 0 r rfl hd; simp at this; rw [this]
    rw [h0]
    exact slotS_congr rs (n + 1) _ fun i r' hr hd => by have := h (i + 1) r' (by simpa using hr) hd; rw [Nat.add_right_comm, Nat.add_assoc]; exact this
theorem contS_congr {S S' : Nat → Bool} {id : Nat} : ∀ (rs : List DR) (n : Nat) (acc : Option Ob), (∀ i r, rs[i]? = some r → turns r id = true → S (n + i) = S' (n + i)) → contS S id rs n acc = contS S' id rs n acc
  | [], n, acc, h => rfl
  | r :: rs, n, acc, h => by
    simp only [contS]
    have h0 : (bif S n && turns r id then getO r.out id else acc) = (bif S' n && turns r id then getO r.out id else acc) := by
      cases hd : turns r id with
      | false => simp
      | true => have := h 0 r rfl hd; simp at this; rw [this]
    rw [h0]
    exact contS_congr rs (n + 1) _ fun i r' hr hd => by have := h (i + 1) r' (by simpa using hr) hd; rw [Nat.add_right_comm, Nat.add_assoc]; exact this
/-- The last one counts. -/
theorem slotS_last {S : Nat → Bool} {s : Nat} : ∀ (rs : List DR) (n : Nat) (acc : AV) (i : Nat) (r : DR), rs[i]? = some r → S (n + i) = true → dstIs r.dst s = true → (∀ j r', i < j → rs[j]? = some r' → dstIs r'.dst s = true → S (n + j) = false) → slotS S s rs n acc = r.x
  | [], n, acc, i, r, h, _, _, _ => by simp at h
  | q :: rs, n, acc, 0, r, h, hS, hd, hl => by
    simp at h; subst h
    simp only [slotS]
    rw [show (S n && dstIs q.dst s) = true by simp at hS; rw [hS, hd]; rfl]
    simp only [cond_true]
    have : ∀ (rs : List DR) (m : Nat), (∀ j r', rs[j]? = some r' → dstIs r'.dst s = true → S (m + j) = false) → slotS S s rs m q.x = q.x := by
      intro rs
      induction rs with
      | nil => intro m _; rfl
      | cons p rs ih =>
        intro m hm
        simp only [slotS]
        have h0 : (S m && dstIs p.dst s) = false := by
          cases hp : dstIs p.dst s with
          | false => simp
          | true => have := hm 0 p rfl hp; simp at this; rw [this]; rfl
        rw [h0]
        exact ih (m + 1) fun j r' hr hd' => by have := hm (j + 1) r' (by simpa using hr) hd'; rw [Nat.add_right_comm, Nat.add_assoc]; exact this
    exact this rs (n + 1) fun j r' hr hd' => by have := hl (j + 1) r' (by omega) (by simpa using hr) hd'; rw [Nat.add_right_comm, Nat.add_assoc]; exact this
  | q :: rs, n, acc, i + 1, r, h, hS, hd, hl => by
    simp only [slotS]
    refine slotS_last rs (n + 1) _ i r (by simpa using h) (by rw [Nat.add_right_comm, Nat.add_assoc]; exact hS) hd fun j r' hj hr hd' => ?_
    have := hl (j + 1) r' (by omega) (by simpa using hr) hd'
    rw [Nat.add_right_comm, Nat.add_assoc]; exact this
theorem contS_last {S : Nat → Bool} {id : Nat} : ∀ (rs : List DR) (n : Nat) (acc : Option Ob) (i : Nat) (r : DR), rs[i]? = some r → S (n + i) = true → turns r id = true → (∀ j r', i < j → rs[j]? = some r' → turns r' id = true → S (n + j) = false) → contS S id rs n acc = getO r.out id
  | [], n, acc, i, r, h, _, _, _ => by simp at h
  | q :: rs, n, acc, 0, r, h, hS, hd, hl => by
    simp at h; subst h
    simp only [contS]
    rw [show (S n && turns q id) = true by simp at hS; rw [hS, hd]; rfl]
    simp only [cond_true]
    have : ∀ (rs : List DR) (m : Nat), (∀ j r', rs[j]? = some r' → turns r' id = true → S (m + j) = false) → contS S id rs m (getO q.out id) = getO q.out id := by
      intro rs
      induction rs with
      | nil => intro m _; rfl
      | cons p rs ih =>
        intro m hm
        simp only [contS]
        have h0 : (S m && turns p id) = false := by
          cases hp : turns p id with
          | false => simp
          | true => have := hm 0 p rfl hp; simp at this; rw [this]; rfl
        rw [h0]
        exact ih (m + 1) fun j r' hr hd' => by have := hm (j + 1) r' (by simpa using hr) hd'; rw [Nat.add_right_comm, Nat.add_assoc]; exact this
    exact this rs (n + 1) fun j r' hr hd' => by have := hl (j + 1) r' (by omega) (by simpa using hr) hd'; rw [Nat.add_right_comm, Nat.add_assoc]; exact this
  | q :: rs, n, acc, i + 1, r, h, hS, hd, hl => by
    simp only [contS]
    refine contS_last rs (n + 1) _ i r (by simpa using h) (by rw [Nat.add_right_comm, Nat.add_assoc]; exact hS) hd fun j r' hj hr hd' => ?_
    have := hl (j + 1) r' (by omega) (by simpa using hr) hd'
    rw [Nat.add_right_comm, Nat.add_assoc]; exact this
end Go.Proofs.Ytajmjfdopminbaa.Sym
