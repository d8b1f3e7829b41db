/- Sym: a region whose operations are done in any order, the whole of it. Conditions: the table of types is the program's (TabOk); the program follows mixed orders. -/
import Derived.Test.YtajmjfdopminbaaSymp
set_option linter.unusedVariables false
set_option linter.unusedSimpArgs false
namespace Go.Proofs.Ytajmjfdopminbaa.Sym
open Go Go.RowKit

def tmpsOf : List Operand → List Nat
  | [] => []
  | .tmp t :: r => t :: tmpsOf r
  | _ :: r => tmpsOf r
/-- The slots that are looked at. -/
def looks (ops : Array Oper) (o : Oper) : List Nat := tmpsOf o.op.operands.toList ++ (match o.guard with
  | some (j, _) => match (ops[j]?).bind (·.dst) with
    | some t => [t]
    | none => []
  | none => [])
def befores (o : Oper) : List Nat := (o.after.toList.filter fun e => Region.binds .any e).map (·.on)
def clo (recs : List DR) : List Nat → List Nat
  | [] => []
  | j :: r => j :: ((match recs[j]? with
    | some q => q.dp
    | none => []) ++ clo recs r)
def subF (recs : List DR) (fr0 : Fr) (dp ss : List Nat) : Fr := ss.map fun s => (s, slotS (hasN dp) s recs 0 (get fr0 s))
def subH (recs : List DR) (hp0 : Hp) (dp gs : List Nat) : Hp := gs.filterMap fun id => (contS (hasN dp) id recs 0 (getO hp0 id)).map fun ob => (id, ob)
/-- One operation, of those before it the others are known. -/
noncomputable def oneD (P : Program) (X : Tab) (k : Nat) (ops : Array Oper) (fr0 : Fr) (hp0 : Hp) (recs : List DR) (o : Oper) (gs : List Nat) (orc : Orc) : Option (DR × Prop) :=
  let dp := clo recs (befores o)
  let fri := subF recs fr0 dp (looks ops o)
  let hpi := subH recs hp0 dp gs
  match guardQ ops fri o orc with
  | some (false, φ, _) => some (⟨o.dst, .tup [], [], [], false, [], dp⟩, φ)
  | some (true, φ, .kp :: orc1) => match stepE P X k fri hpi o.op orc1 with
    | some (x, out, χ, orc2) => bif (orcIds orc1).isEmpty then some (⟨o.dst, (reEq o.dst x orc2).1, gs, [], false, [], dp⟩, φ ∧ (χ ∧ out = hpi) ∧ (reEq o.dst x orc2).2.1) else none
    | none => none
  | some (true, φ, orc1) => match evalQ P X fri hpi o.op orc1 with
    | some (x, χ, orc2) => some (⟨o.dst, (reEq o.dst x orc2).1, gs, [], false, [], dp⟩, φ ∧ χ ∧ (reEq o.dst x orc2).2.1)
    | none => match stepE P X k fri hpi o.op orc1 with
      | some (x, out, χ, orc2) => some (⟨o.dst, (reEq o.dst x orc2).1, gs, out, true, orcIds orc1, dp⟩, φ ∧ χ ∧ (reEq o.dst x orc2).2.1)
      | none => none
  | none => none
theorem oneD_dp {P : Program} {X : Tab} {k : Nat} {ops : Array Oper} {fr0 : Fr} {hp0 : Hp} {recs : List DR} {o : Oper} {gs : List Nat} {orc : Orc} {q : DR} {χ : Prop} (h : oneD P X k ops fr0 hp0 recs o gs orc = some (q, χ)) : clo recs (befores o) = q.dp := by
  unfold oneD at h
  simp only at h
  split at h
  · simp only [Option.some.injEq, Prod.mk.injEq] at h; rw [← h.1]
  · rename_i φ orc1 hg
    split at h
    · cases hb : (orcIds orc1).isEmpty with
      | false => rw [hb] at h; cases h
      | true => rw [hb] at h; simp only [cond_true, Option.some.injEq, Prod.mk.injEq] at h; rw [← h.1]
    · cases h
  · split at h
    · simp only [Option.some.injEq, Prod.mk.injEq] at h; rw [← h.1]
    · split at h
      · simp only [Option.some.injEq, Prod.mk.injEq] at h; rw [← h.1]
      · cases h
  · cases h
noncomputable def buildD (P : Program) (X : Tab) (k : Nat) (ops : Array Oper) (fr0 : Fr) (hp0 : Hp) : List Oper → List DR → List (List Nat × Orc) → Option (List DR × Prop)
  | [], recs, _ => some (recs, True)
  | o :: r, recs, (gs, orc) :: hs => match oneD P X k ops fr0 hp0 recs o gs orc with
    | some (q, φ) => match buildD P X k ops fr0 hp0 r (recs ++ [q]) hs with
      | some (R, ψ) => some (R, φ ∧ ψ)
      | none => none
    | none => none
  | _, _, [] => none

/-- Two operations, of which one turns what the other looks at, are not free of order. -/
def pairOk (ops : Array Oper) (i j : Nat) (o : Oper) (q r : DR) : Bool :=
  (hasN q.dp j || hasN r.dp i ||
    ((match r.dst with
      | some s => !hasN (looks ops o) s && !dstIs q.dst s
      | none => true) &&
     (!r.md || (q.gs.all fun id => !turns r id) && ((ids q.out).all fun id => !turns r id)))) &&
  (hasN r.dp i || q.nw.all fun d => (mentA r.x).all (fun z => z != d) && (r.out.all fun p => p.1 != d && (mentO p.2).all fun z => z != d)) &&
  (q.nw.all fun d => !hasN r.nw d)
def oneOk (N k : Nat) (fr0 : Fr) (hp0 : Hp) (i : Nat) (q : DR) : Bool :=
  dstOk N q.dst && (q.dp.all fun j => Nat.blt j i) && (q.nw.all fun d => fresh k d fr0 hp0) && ((ids q.out).all fun id => hasN q.gs id || hasN q.nw id)
def rowD (ops : Array Oper) (i : Nat) (o : Oper) (q : DR) : Nat → List DR → Bool
  | _, [] => true
  | j, r :: rs => (i == j || pairOk ops i j o q r) && rowD ops i o q (j + 1) rs
def allD2 (N k : Nat) (ops : Array Oper) (fr0 : Fr) (hp0 : Hp) (all : List DR) : Nat → List Oper → List DR → Bool
  | i, o :: os, q :: qs => oneOk N k fr0 hp0 i q && rowD ops i o q 0 all && allD2 N k ops fr0 hp0 all (i + 1) os qs
  | _, [], [] => true
  | _, _, _ => false
def endF (recs : List DR) (fr0 : Fr) (ks : List Nat) : Fr := ks.map fun s => (s, slotS (fun _ => true) s recs 0 (get fr0 s))
def endH (recs : List DR) (hp0 : Hp) (hs : List Nat) : Hp := hs.filterMap fun id => (contS (fun _ => true) id recs 0 (getO hp0 id)).map fun ob => (id, ob)
noncomputable def evalD (P : Program) (X : Tab) (N k : Nat) (c : Code) (fr : Fr) (hp : Hp) (hints : List (List Nat × Orc)) (ks hs : List Nat) : Option (Fr × Hp × Prop) := match c with
  | .region _ ops true => match buildD P X k ops fr hp ops.toList [] hints with
    | some (recs, φ) => bif Region.noSelect ops && allD2 N k ops fr hp recs 0 ops.toList recs then some (endF recs fr ks, endH recs hp hs, φ) else none
    | none => none
  | _ => none

section
variable {P : Program} {X : Tab} {E : Env} {w w' : World} {I I' : Im} {ι ι' : Lo} {fr fr' : Fr} {hp hp' : Hp} {a : Act} {o : Oper}

theorem slotS_append {S : Nat → Bool} {s : Nat} : ∀ (l m : List DR) (n : Nat) (acc : AV), (∀ j, n + l.length ≤ j → S j = false) → slotS S s (l ++ m) n acc = slotS S s l n acc
  | [], [], n, acc, h => rfl
  | [], r :: m, n, acc, h => by
    simp only [List.nil_append, slotS]
    rw [h n (by simp)]
    simp only [Bool.false_and, cond_false]
    exact slotS_append [] m (n + 1) acc fun j hj => h j (by simp at hj ⊢; omega)
  | r :: l, m, n, acc, h => by
    simp only [List.cons_append, slotS]
    exact slotS_append l m (n + 1) _ fun j hj => h j (by simp; omega)
theorem contS_append {S : Nat → Bool} {s : Nat} : ∀ (l m : List DR) (n : Nat) (acc : Option Ob), (∀ j, n + l.length ≤ j → S j = false) → contS S s (l ++ m) n acc = contS S s l n acc
  | [], [], n, acc, h => rfl
  | [], r :: m, n, acc, h => by
    simp only [List.nil_append, contS]
    rw [h n (by simp)]
    simp only [Bool.false_and, cond_false]
    exact contS_append [] m (n + 1) acc fun j hj => h j (by simp at hj ⊢; omega)
  | r :: l, m, n, acc, h => by
    simp only [List.cons_append, contS]
    exact contS_append l m (n + 1) _ fun j hj => h j (by simp; omega)

/-- What has been built. -/
theorem buildD_spec {k : Nat} {ops : Array Oper} {fr0 : Fr} {hp0 : Hp} : ∀ (l : List Oper) (pre : List DR) (hs : List (List Nat × Orc)) (R : List DR) (φ : Prop), buildD P X k ops fr0 hp0 l pre hs = some (R, φ) → φ →
    R.length = pre.length + l.length ∧ R.take pre.length = pre ∧ ∀ i o, l[i]? = some o → ∃ q gs orc χ, R[pre.length + i]? = some q ∧ oneD P X k ops fr0 hp0 (R.take (pre.length + i)) o gs orc = some (q, χ) ∧ χ
  | [], pre, hs, R, φ, h, hφ => by
    simp only [buildD, Option.some.injEq, Prod.mk.injEq] at h
    obtain ⟨rfl, _⟩ := h
    exact ⟨by simp, by simp, fun i o h => by simp at h⟩
  | o :: r, pre, [], R, φ, h, hφ => by simp [buildD] at h
  | o :: r, pre, (gs, orc) :: hs, R, φ, h, hφ => by
    simp only [buildD] at h
    split at h
    · rename_i q χ hq
      split at h
      · rename_i R' ψ hR
        simp only [Option.some.injEq, Prod.mk.injEq] at h
        obtain ⟨rfl, rfl⟩ := h
        obtain ⟨h1, h2, h3⟩ := buildD_spec r (pre ++ [q]) hs R' ψ hR hφ.2
        simp only [List.length_append, List.length_singleton] at h1 h2 h3
        have hpre : R'.take pre.length = pre := by
          have := congrArg (List.take pre.length) h2
          rw [List.take_take] at this
          rw [show min pre.length (pre.length + 1) = pre.length by omega] at this
          rw [this, List.take_left]
        refine ⟨by simp; omega, hpre, fun i o' hi => ?_⟩
        cases i with
        | zero =>
          simp at hi; subst hi
          refine ⟨q, gs, orc, χ, ?_, ?_, hφ.1⟩
          · have : (R'.take (pre.length + 1))[pre.length]? = some q := by rw [h2]; simp
            rw [List.getElem?_take_of_lt (by omega)] at this
            simpa using this
          · simp only [Nat.add_zero, hpre]; exact hq
        | succ i =>
          have := h3 i o' (by simpa using hi)
          rw [show pre.length + (i + 1) = pre.length + 1 + i by omega]
          exact this
      · cases h
    · cases h

theorem rowD_spec {ops : Array Oper} {i : Nat} {o : Oper} {q : DR} : ∀ (rs : List DR) (n : Nat), rowD ops i o q n rs = true → ∀ j r, rs[j]? = some r → i ≠ n + j → pairOk ops i (n + j) o q r = true
  | [], n, h, j, r, hj, _ => by simp at hj
  | r0 :: rs, n, h, 0, r, hj, hne => by
    simp at hj; subst hj
    simp only [rowD, Bool.and_eq_true, Bool.or_eq_true, beq_iff_eq] at h
    rcases h.1 with h | h
    · exact (hne (by simpa using h)).elim
    · simpa using h
  | r0 :: rs, n, h, j + 1, r, hj, hne => by
    simp only [rowD, Bool.and_eq_true] at h
    have := rowD_spec rs (n + 1) h.2 j r (by simpa using hj) (by omega)
    rw [show n + (j + 1) = n + 1 + j by omega]; exact this
theorem allD2_spec {N k : Nat} {ops : Array Oper} {fr0 : Fr} {hp0 : Hp} {all : List DR} : ∀ (os : List Oper) (qs : List DR) (n : Nat), allD2 N k ops fr0 hp0 all n os qs = true → ∀ i o q, os[i]? = some o → qs[i]? = some q →
    oneOk N k fr0 hp0 (n + i) q = true ∧ ∀ j r, all[j]? = some r → n + i ≠ j → pairOk ops (n + i) j o q r = true
  | [], qs, n, h, i, o, q, ho, _ => by simp at ho
  | o0 :: os, [], n, h, i, o, q, ho, hq => by simp at hq
  | o0 :: os, q0 :: qs, n, h, 0, o, q, ho, hq => by
    simp at ho hq; subst ho; subst hq
    simp only [allD2, Bool.and_eq_true] at h
    exact ⟨h.1.1, fun j r hj hne => by have := rowD_spec all 0 h.1.2 j r hj (by simpa using hne); simpa using this⟩
  | o0 :: os, q0 :: qs, n, h, i + 1, o, q, ho, hq => by
    simp only [allD2, Bool.and_eq_true] at h
    have := allD2_spec os qs (n + 1) h.2 i o q (by simpa using ho) (by simpa using hq)
    rw [show n + (i + 1) = n + 1 + i by omega]; exact this

/-! ### The frame and the objects when the operations S are done -/
def frS (recs : List DR) (fr0 : Fr) (S : Nat → Bool) : Fr := (fr0.map (·.1) ++ recs.filterMap (·.dst)).map fun s => (s, slotS S s recs 0 (get fr0 s))
def hpS (recs : List DR) (hp0 : Hp) (S : Nat → Bool) : Hp := (ids hp0 ++ recs.flatMap fun r => ids r.out).filterMap fun id => (contS S id recs 0 (getO hp0 id)).map fun ob => (id, ob)
theorem get_map {g : Nat → AV} : ∀ (l : List Nat) (s : Nat), get (l.map fun s => (s, g s)) s = if s ∈ l then g s else .u
  | [], s => by simp [get]
  | k :: l, s => by
    simp only [List.map_cons, get]
    cases e : k == s with
    | true => have : k = s := by simpa using e
              subst this; simp
    | false =>
      have : k ≠ s := by simpa using e
      simp only [cond_false, get_map l s, List.mem_cons]
      have h2 : ¬ s = k := fun e => this e.symm
      simp [h2]
theorem get_none {fr : Fr} {s : Nat} (h : s ∉ fr.map (·.1)) : get fr s = .u := by
  induction fr with
  | nil => rfl
  | cons p r ih =>
    obtain ⟨k, x⟩ := p
    simp only [List.map_cons, List.mem_cons, not_or] at h
    simp only [get]
    have : (k == s) = false := by simpa using fun e => h.1 e.symm
    rw [this]; exact ih h.2
theorem getO_none {hp : Hp} {s : Nat} (h : s ∉ ids hp) : getO hp s = none := by
  cases hq : getO hp s with
  | none => rfl
  | some ob => exact (h (mem_ids hq)).elim
theorem slotS_out {S : Nat → Bool} {s : Nat} : ∀ (rs : List DR) (n : Nat) (acc : AV), (∀ r ∈ rs, dstIs r.dst s = false) → slotS S s rs n acc = acc
  | [], n, acc, h => rfl
  | r :: rs, n, acc, h => by
    simp only [slotS]
    rw [h r (by simp)]
    simp only [Bool.and_false, cond_false]
    exact slotS_out rs (n + 1) acc fun r' hr => h r' (by simp [hr])
theorem contS_out {S : Nat → Bool} {s : Nat} : ∀ (rs : List DR) (n : Nat) (acc : Option Ob), (∀ r ∈ rs, getO r.out s = none) → acc = none → contS S s rs n acc = none
  | [], n, acc, h, ha => ha
  | r :: rs, n, acc, h, ha => by
    simp only [contS]
    refine contS_out rs (n + 1) _ (fun r' hr => h r' (by simp [hr])) ?_
    cases hb : S n && turns r s with
    | false => exact ha
    | true => exact h r (by simp)
theorem dstIs_iff {d : Option Nat} {s : Nat} : dstIs d s = true ↔ d = some s := by cases d <;> simp [dstIs]
theorem get_frS (recs : List DR) (fr0 : Fr) (S : Nat → Bool) (s : Nat) : get (frS recs fr0 S) s = slotS S s recs 0 (get fr0 s) := by
  unfold frS
  rw [get_map (g := fun s => slotS S s recs 0 (get fr0 s))]
  split
  · rfl
  · rename_i h
    simp only [List.mem_append, not_or] at h
    rw [slotS_out recs 0 _ fun r hr => ?_, get_none h.1]
    cases hd : dstIs r.dst s with
    | false => rfl
    | true => exact (h.2 (List.mem_filterMap.2 ⟨r, hr, dstIs_iff.1 hd⟩)).elim
theorem getO_fmap {g : Nat → Option Ob} : ∀ (l : List Nat) (s : Nat), getO (l.filterMap fun id => (g id).map fun ob => (id, ob)) s = if s ∈ l then g s else none
  | [], s => by simp [getO]
  | k :: l, s => by
    cases hk : g k with
    | none =>
      rw [List.filterMap_cons_none (by simp [hk]), getO_fmap l s]
      by_cases h : s = k
      · subst h; simp [hk]
      · simp [h]
    | some ob =>
      rw [List.filterMap_cons_some (by simp [hk]; rfl)]
      simp only [getO]
      cases e : k == s with
      | true => have : k = s := by simpa using e
                subst this; simp [hk]
      | false =>
        have : k ≠ s := by simpa using e
        have h2 : ¬ s = k := fun e => this e.symm
        simp only [cond_false, getO_fmap l s, List.mem_cons, h2, false_or]
theorem getO_hpS (recs : List DR) (hp0 : Hp) (S : Nat → Bool) (s : Nat) : getO (hpS recs hp0 S) s = contS S s recs 0 (getO hp0 s) := by
  unfold hpS
  rw [getO_fmap (g := fun s => contS S s recs 0 (getO hp0 s))]
  split
  · rfl
  · rename_i h
    simp only [List.mem_append, not_or, List.mem_flatMap, not_exists, not_and] at h
    exact (contS_out recs 0 _ (fun r hr => getO_none (h.2 r hr)) (getO_none h.1)).symm
end
end Go.Proofs.Ytajmjfdopminbaa.Sym
