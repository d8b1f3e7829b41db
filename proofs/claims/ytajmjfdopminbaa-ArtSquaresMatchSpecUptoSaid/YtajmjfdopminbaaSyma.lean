/- Sym: immutable data (C), what a slot holds (AV), the objects of the call's own (Ob), and the relation of all to the model's frame and world (Rel, St). Conditions: none (definitions and small lemmas). -/
import Derived.WalkKit
import Derived.Below
import Derived.Orders
import Derived.Laws.AppendOwn
import Derived.Laws.OwnMore
import Derived.Laws.MakeOwn
import Derived.Laws.Rows
import Derived.Maps.AppendAt
import Derived.KernelRfl
import Derived.Laws.Slices
import Derived.Lib.AppendStr
import Derived.Lib.UnsafeStr
set_option linter.unusedVariables false
set_option linter.unusedSimpArgs false
namespace Go.Proofs.Ytajmjfdopminbaa.Sym
open Go Go.RowKit

/-- A cell's data. -/
inductive C : Type where
  | v (x : Value)
  | nil
  | sl (sz : Nat) (xs : List (List C))
  | fn (f : FuncId) (caps : List C)
  | ptr (cells : List C)
instance : Inhabited C := ⟨.nil⟩

abbrev El := List C
/-- The cells that nobody writes any more. -/
abbrev Im := Nat → Nat → Option Value
def Im.le (I J : Im) : Prop := ∀ b o v, I b o = some v → J b o = some v
theorem Im.le_refl (I : Im) : I.le I := fun _ _ _ h => h
theorem Im.le.trans {I J K : Im} (h : I.le J) (k : J.le K) : I.le K := fun b o v e => k b o v (h b o v e)

/-- No slice is longer. -/
def lim : Nat := 1099511627776
def okV : Value → Bool
  | .string s => Nat.ble s.size lim
  | _ => true
inductive RC (I : Im) : Value → C → Prop where
  | v (x : Value) (h : x.oneCell' = true) (hw : okV x = true) : RC I x (.v x)
  | nil : RC I (.slice none 0 0) .nil
  | emp (A : Option Addr) (c sz : Nat) (h0 : A = none → c = 0) : RC I (.slice A 0 c) (.sl sz [])
  | sl (b off c sz : Nat) (xs : List (List C)) (get : Nat → Nat → Value) (hc : xs.length ≤ c) (hM : xs.length ≤ lim) (hs : ∀ (i : Nat) (e : List C), xs[i]? = some e → e.length = sz)
      (hI : ∀ (i j : Nat), i < xs.length → j < sz → I b (off + i * sz + j) = some (get i j))
      (hR : ∀ (i j : Nat) (e : List C) (x : C), xs[i]? = some e → e[j]? = some x → RC I (get i j) x) : RC I (.slice (some ⟨b, off, none⟩) xs.length c) (.sl sz xs)
  | fn (f : FuncId) (vals : List Value) (caps : List C) (hl : vals.length = caps.length)
      (hR : ∀ (i : Nat) (x : Value) (c : C), vals[i]? = some x → caps[i]? = some c → RC I x c) : RC I (.func (.func f) #[] vals.toArray) (.fn f caps)
  | ptr (b off : Nat) (cells : List C) (get : Nat → Value) (hI : ∀ (j : Nat), j < cells.length → I b (off + j) = some (get j))
      (hR : ∀ (j : Nat) (c : C), cells[j]? = some c → RC I (get j) c) : RC I (.pointer (some ⟨b, off, none⟩)) (.ptr cells)

theorem RC.mono {I J : Im} (h : I.le J) {x : Value} {c : C} (r : RC I x c) : RC J x c := by
  induction r with
  | v x h1 h2 => exact .v x h1 h2
  | nil => exact .nil
  | emp A c sz h0 => exact .emp A c sz h0
  | sl b off c sz xs get hc hM hs hI hR ih => exact .sl b off c sz xs get hc hM hs (fun i j a b' => h _ _ _ (hI i j a b')) (fun i j e x a b' => ih i j e x a b')
  | fn f vals caps hl hR ih => exact .fn f vals caps hl (fun i x c a b => ih i x c a b)
  | ptr b off cells get hI hR ih => exact .ptr b off cells get (fun j a => h _ _ _ (hI j a)) (fun j c a => ih j c a)

theorem RC.one {I : Im} {x : Value} {c : C} (r : RC I x c) : x.oneCell' = true := by
  cases r <;> first | assumption | rfl

/-- Two lists, one by one. -/
inductive All2 {α β : Type} (R : α → β → Prop) : List α → List β → Prop where
  | nil : All2 R [] []
  | cons {a b l m} (h : R a b) (t : All2 R l m) : All2 R (a :: l) (b :: m)
theorem All2.len {α β : Type} {R : α → β → Prop} {l : List α} {m : List β} (h : All2 R l m) : l.length = m.length := by
  induction h with
  | nil => rfl
  | cons _ _ ih => simp [ih]
theorem All2.at {α β : Type} {R : α → β → Prop} {l : List α} {m : List β} (h : All2 R l m) : ∀ (i : Nat) (b : β), m[i]? = some b → ∃ a, l[i]? = some a ∧ R a b := by
  induction h with
  | nil => intro i b hb; simp at hb
  | cons h1 _ ih =>
    intro i b hb
    cases i with
    | zero => simp at hb; subst hb; exact ⟨_, rfl, h1⟩
    | succ i => simp at hb; simpa using ih i b hb
theorem All2.at' {α β : Type} {R : α → β → Prop} {l : List α} {m : List β} (h : All2 R l m) (i : Nat) (a : α) (ha : l[i]? = some a) : ∃ b, m[i]? = some b ∧ R a b := by
  have hl : i < m.length := by rw [← h.len]; exact (List.getElem?_eq_some_iff.1 ha).1
  obtain ⟨a', ha', hr⟩ := h.at i m[i] (List.getElem?_eq_getElem hl)
  rw [ha] at ha'; cases ha'
  exact ⟨_, List.getElem?_eq_getElem hl, hr⟩
theorem All2.of {α β : Type} {R : α → β → Prop} : ∀ {l : List α} {m : List β}, l.length = m.length → (∀ (i : Nat) (a : α) (b : β), l[i]? = some a → m[i]? = some b → R a b) → All2 R l m
  | [], [], _, _ => .nil
  | a :: l, b :: m, hl, h => .cons (h 0 a b rfl rfl) (All2.of (by simpa using hl) (fun i x y hx hy => h (i + 1) x y (by simpa using hx) (by simpa using hy)))
  | [], _ :: _, hl, _ => by simp at hl
  | _ :: _, [], hl, _ => by simp at hl
theorem All2.imp {α β : Type} {R S : α → β → Prop} {l : List α} {m : List β} (h : All2 R l m) (k : ∀ a b, R a b → S a b) : All2 S l m := by
  induction h with
  | nil => exact .nil
  | cons h1 _ ih => exact .cons (k _ _ h1) ih
theorem All2.append {α β : Type} {R : α → β → Prop} {l l' : List α} {m m' : List β} (h : All2 R l m) (k : All2 R l' m') : All2 R (l ++ l') (m ++ m') := by
  induction h with
  | nil => exact k
  | cons h1 _ ih => exact .cons h1 ih
theorem All2.take {α β : Type} {R : α → β → Prop} {l : List α} {m : List β} (h : All2 R l m) (n : Nat) : All2 R (l.take n) (m.take n) := by
  induction h generalizing n with
  | nil => simp; exact .nil
  | cons h1 _ ih => cases n with
    | zero => exact .nil
    | succ n => exact .cons h1 (ih n)
theorem All2.drop {α β : Type} {R : α → β → Prop} {l : List α} {m : List β} (h : All2 R l m) (n : Nat) : All2 R (l.drop n) (m.drop n) := by
  induction h generalizing n with
  | nil => simp; exact .nil
  | cons h1 t ih => cases n with
    | zero => exact .cons h1 t
    | succ n => exact ih n
theorem All2.set {α β : Type} {R : α → β → Prop} {l : List α} {m : List β} (h : All2 R l m) (n : Nat) {a : α} {b : β} (r : R a b) : All2 R (l.set n a) (m.set n b) := by
  induction h generalizing n with
  | nil => simp; exact .nil
  | cons h1 t ih => cases n with
    | zero => exact .cons r t
    | succ n => exact .cons h1 (ih n)
theorem All2.map_ {α β γ : Type} {R : α → β → Prop} {S : α → γ → Prop} {g : β → γ} {l : List α} {m : List β} (h : All2 R l m) (k : ∀ a b, R a b → S a (g b)) : All2 S l (m.map g) := by
  induction h with
  | nil => exact .nil
  | cons h1 _ ih => exact .cons (k _ _ h1) ih

/-- Cells, one by one. -/
abbrev RCs (I : Im) : List Value → List C → Prop := All2 (RC I)
theorem RCs.mono {I J : Im} (h : I.le J) {xs : List Value} {cs : List C} (r : RCs I xs cs) : RCs J xs cs := r.imp fun _ _ k => k.mono h
theorem RCs.one {I : Im} {xs : List Value} {cs : List C} (r : RCs I xs cs) : ∀ u ∈ xs, u.oneCell' = true := by
  induction r with
  | nil => intro u hu; cases hu
  | cons h1 _ ih =>
    intro u hu
    rcases List.mem_cons.1 hu with rfl | hu
    · exact h1.one
    · exact ih u hu


/-! ### What a slot holds -/
/-- A captured variable: data, or the call's own. -/
inductive Cap : Type where
  | c (x : C)
  | own (id : Nat)
/-- A cell. u: nothing is known. c: immutable data. ptr: into a variable of the call's own. rt: the own slice or map itself. sub: a part of an own slice. el: into an element of an own slice. fn: a closure over own variables. sn: an immutable slice that is not nil. sp: nil, or a pointer to this own variable. -/
inductive CV : Type where
  | u
  | c (x : C)
  | ptr (id off : Nat)
  | rt (id : Nat)
  | sub (sz id lo n : Nat)
  | el (sz id i off : Nat)
  | fn (f : FuncId) (caps : List Cap)
  | sn (sz : Nat) (xs : List El)
  | sp (id : Nat)
instance : Inhabited CV := ⟨.u⟩
inductive TV : Type where
  | v (x : CV)
  | agg (l : List CV)
instance : Inhabited TV := ⟨.v .u⟩
inductive AV : Type where
  | t (x : TV)
  | tup (l : List TV)
instance : Inhabited AV := ⟨.t (.v .u)⟩
abbrev AV.u : AV := .t (.v .u)
abbrev AV.c (x : C) : AV := .t (.v (.c x))

/-- A map's value: data. -/
inductive DV : Type where
  | v (x : C)
  | agg (l : List C)
instance : Inhabited DV := ⟨.v .nil⟩
/-- What the call owns: a variable's cells; a slice's elements; a map's entries; a place in a string that is ranged over. nrow: a slice whose first m elements hold, in cell q, own slices (of e', sz'); some of them may have been taken out (hole: their elements, and the names that they have). nmap: a map whose values are own slices. -/
inductive Ob : Type where
  | cells (t : Nat) (l : List CV)
  | row (e sz : Nat) (xs : List El)
  | map (kp : Value → Prop) (es : List (Value × DV))
  | iter (s : ByteArray) (i : Nat)
  | nrow (e sz q e' sz' m : Nat) (hole : List (Nat × Nat)) (xs : List El)
  | nmap (kp : Value → Prop) (e' sz' : Nat) (hole : Option (Value × Nat)) (es : List (Value × DV))

abbrev Fr := List (Nat × AV)
abbrev Hp := List (Nat × Ob)
def get : Fr → Nat → AV
  | [], _ => .u
  | (k, v) :: r, s => bif k == s then v else get r s
def getO : Hp → Nat → Option Ob
  | [], _ => none
  | (k, v) :: r, s => bif k == s then some v else getO r s
def setS : Fr → Nat → AV → Fr
  | [], d, x => [(d, x)]
  | (k, v) :: r, d, x => bif k == d then (d, x) :: r else (k, v) :: setS r d x
def setO : Hp → Nat → Ob → Hp
  | [], d, x => [(d, x)]
  | (k, v) :: r, d, x => bif k == d then (d, x) :: r else (k, v) :: setO r d x
def delO : Hp → Nat → Hp
  | [], _ => []
  | (k, v) :: r, d => bif k == d then delO r d else (k, v) :: delO r d
theorem get_setS (fr : Fr) (d : Nat) (x : AV) (s : Nat) : get (setS fr d x) s = if s = d then x else get fr s := by
  induction fr with
  | nil =>
    simp only [setS, get]
    by_cases h : s = d
    · subst h; simp
    · have : (d == s) = false := by simpa using fun e => h e.symm
      simp [this, h]
  | cons p r ih =>
    obtain ⟨k, v⟩ := p
    simp only [setS]
    by_cases h : k = d
    · subst h
      simp only [BEq.rfl, cond_true, get]
      by_cases q : s = k
      · subst q; simp
      · have : (k == s) = false := by simpa using fun e => q e.symm
        simp [this, q]
    · have : (k == d) = false := by simpa using h
      simp only [this, cond_false, get, ih]
      by_cases q : k = s
      · subst q; simp [h]
      · have : (k == s) = false := by simpa using q
        simp [this]
theorem getO_setO (hp : Hp) (d : Nat) (x : Ob) (s : Nat) : getO (setO hp d x) s = if s = d then some x else getO hp s := by
  induction hp with
  | nil =>
    simp only [setO, getO]
    by_cases h : s = d
    · subst h; simp
    · have : (d == s) = false := by simpa using fun e => h e.symm
      simp [this, h]
  | cons p r ih =>
    obtain ⟨k, v⟩ := p
    simp only [setO]
    by_cases h : k = d
    · subst h
      simp only [BEq.rfl, cond_true, getO]
      by_cases q : s = k
      · subst q; simp
      · have : (k == s) = false := by simpa using fun e => q e.symm
        simp [this, q]
    · have : (k == d) = false := by simpa using h
      simp only [this, cond_false, getO, ih]
      by_cases q : k = s
      · subst q; simp [h]
      · have : (k == s) = false := by simpa using q
        simp [this]
theorem getO_delO (hp : Hp) (d s : Nat) : getO (delO hp d) s = if s = d then none else getO hp s := by
  induction hp with
  | nil => simp [delO, getO]
  | cons p r ih =>
    obtain ⟨k, v⟩ := p
    simp only [delO]
    by_cases h : k = d
    · subst h
      simp only [BEq.rfl, cond_true, ih, getO]
      by_cases q : s = k
      · simp [q]
      · have : (k == s) = false := by simpa using fun e => q e.symm
        simp [this, q]
    · have : (k == d) = false := by simpa using h
      simp only [this, cond_false, getO, ih]
      by_cases q : k = s
      · subst q; simp [h]
      · have : (k == s) = false := by simpa using q
        simp [this]

/-! ### The relation -/
/-- Where the objects lie: each one's own value (a pointer, a slice, a map). -/
abbrev Lo := Nat → Value
def blockOf : Value → Option Nat
  | .slice (some a) _ _ => some a.block
  | .pointer (some a) => some a.block
  | .map (some b) => some b
  | _ => none

def RCap (I : Im) (ι : Lo) (v : Value) : Cap → Prop
  | .c x => RC I v x
  | .own id => ∃ B, ι id = .pointer (some ⟨B, 0, none⟩) ∧ v = .pointer (some ⟨B, 0, none⟩)
def RV1 (I : Im) (ι : Lo) (v : Value) : CV → Prop
  | .u => True
  | .c x => RC I v x
  | .ptr id off => ∃ B, ι id = .pointer (some ⟨B, 0, none⟩) ∧ v = .pointer (some ⟨B, off, none⟩)
  | .rt id => v = ι id ∧ v.oneCell' = true
  | .sub sz id lo n => ∃ A len cap, ι id = .slice A len cap ∧ lo + n ≤ len ∧ v = sliced A lo (lo + n) cap sz
  | .el sz id i off => ∃ B len cap, ι id = .slice (some ⟨B, 0, none⟩) len cap ∧ v = .pointer (some ⟨B, i * sz + off, none⟩)
  | .fn f caps => ∃ vals, v = .func (.func f) #[] (List.toArray vals) ∧ All2 (RCap I ι) vals caps
  | .sn sz xs => RC I v (.sl sz xs) ∧ ∃ A n c, v = .slice (some A) n c
  | .sp id => v = .pointer none ∨ ∃ B, ι id = .pointer (some ⟨B, 0, none⟩) ∧ v = .pointer (some ⟨B, 0, none⟩)
def RK (I : Im) (ι : Lo) (v : Value) (x : CV) : Prop := RV1 I ι v x ∧ v.oneCell' = true
def RT (I : Im) (ι : Lo) (v : Value) : TV → Prop
  | .v x => RV1 I ι v x
  | .agg l => ∃ vs, v = .agg (List.toArray vs) ∧ All2 (RK I ι) vs l
def RV (I : Im) (ι : Lo) (v : Value) : AV → Prop
  | .t x => RT I ι v x
  | .tup l => ∃ vs, v = .tuple (List.toArray vs) ∧ All2 (RT I ι) vs l
def RD (I : Im) (v : Value) : DV → Prop
  | .v x => RC I v x
  | .agg l => ∃ vs, v = .agg (List.toArray vs) ∧ RCs I vs l
/-- An own slice. -/
def RRow (I : Im) (w : World) (v : Value) (e sz : Nat) (xs : List El) : Prop := ∃ vals, w.ownsRow 0 e sz v xs.length vals ∧ (∀ x ∈ xs, x.length = sz) ∧ RCs I vals xs.flatten ∧ xs.length ≤ lim
/-- The own slices within an object. -/
def inner (w : World) (v : Value) : Ob → Nat → Value → Prop
  | .nrow e sz q e' sz' m hole xs, i, u => i < m ∧ (∀ d, (i, d) ∉ hole) ∧ ∃ g len cap, v = .slice (some ⟨g, 0, none⟩) len cap ∧ w.cell? ⟨g, i * sz + q, none⟩ = some u
  | .nmap kp e' sz' hole es, i, u => ∃ B ents clock en, v = .map (some B) ∧ w.heap[B]? = some (.map ents clock) ∧ ents[i]? = some en ∧ (∀ d, hole ≠ some (en.key, d)) ∧ u = en.val
  | _, _, _ => False
/-- The blocks that an object owns. -/
def owns (w : World) (v : Value) (ob : Ob) (B : Nat) : Prop := blockOf v = some B ∨ ∃ i u, inner w v ob i u ∧ blockOf u = some B
/-- Each block is owned but once. -/
structure Once (w : World) (v : Value) (ob : Ob) : Prop where
  base : ∀ i u B, inner w v ob i u → blockOf u = some B → blockOf v ≠ some B
  each : ∀ i j u u' B, inner w v ob i u → inner w v ob j u' → blockOf u = some B → blockOf u' = some B → i = j
def RO (I : Im) (ι : Lo) (w : World) (v : Value) : Ob → Prop
  | .cells t l => ∃ B vs, v = .pointer (some ⟨B, 0, none⟩) ∧ w.heap[B]? = some (.cells (List.toArray vs) t (0, 0)) ∧ All2 (RK I ι) vs l
  | .row e sz xs => ∃ vals, w.ownsRow 0 e sz v xs.length vals ∧ (∀ x ∈ xs, x.length = sz) ∧ RCs I vals xs.flatten ∧ xs.length ≤ lim
  | .map kp es => ∃ B ents clock, v = .map (some B) ∧ w.heap[B]? = some (.map ents clock) ∧ All2 (fun (en : MapEntry) (q : Value × DV) => en.key = q.1 ∧ RD I en.val q.2) ents.toList es ∧ (es.map (·.1)).Nodup ∧ ∀ q ∈ es, kp q.1
  | .iter s i => ∃ B, v = .pointer (some ⟨B, 0, none⟩) ∧ w.heap[B]? = some (.stringIter s i)
  | .nrow e sz q e' sz' m hole xs => (∃ vals, w.ownsRow 0 e sz v xs.length vals ∧ (∀ x ∈ xs, x.length = sz) ∧ xs.length ≤ lim ∧ m ≤ xs.length ∧ q < sz ∧ (∀ u ∈ vals, u.oneCell' = true) ∧
      (∀ i j x c u, xs[i]? = some x → x[j]? = some c → vals[i * sz + j]? = some u → ¬ (j = q ∧ i < m) → RC I u c) ∧
      (∀ i x u, i < m → (∀ d, (i, d) ∉ hole) → xs[i]? = some x → vals[i * sz + q]? = some u → ∃ ys, x[q]? = some (.sl sz' ys) ∧ RRow I w u e' sz' ys) ∧
      (∀ i d, (i, d) ∈ hole → i < m ∧ vals[i * sz + q]? = some (ι d))) ∧ Once w v (.nrow e sz q e' sz' m hole xs)
  | .nmap kp e' sz' hole es => (∃ B ents clock, v = .map (some B) ∧ w.heap[B]? = some (.map ents clock) ∧ All2 (fun (en : MapEntry) (q : Value × DV) => en.key = q.1 ∧ ((∀ d, hole ≠ some (en.key, d)) → ∃ ys, q.2 = .v (.sl sz' ys) ∧ RRow I w en.val e' sz' ys)) ents.toList es ∧ (es.map (·.1)).Nodup ∧ (∀ q ∈ es, kp q.1) ∧
      (∀ k d, hole = some (k, d) → ∃ en ∈ ents.toList, en.key = k ∧ en.val = ι d ∧ en.val.oneCell' = true)) ∧ Once w v (.nmap kp e' sz' hole es)

abbrev Vs := Nat → Value
def upd (f : Vs) (d : Nat) (v : Value) : Vs := fun s => if s = d then v else f s
theorem upd_same (f : Vs) (d : Nat) (v : Value) : upd f d v d = v := by simp [upd]
theorem upd_ne (f : Vs) {d s : Nat} (v : Value) (h : s ≠ d) : upd f d v s = f s := by simp [upd, h]

structure Rel (ok : Nat → Prop) (I : Im) (ι : Lo) (f : Vs) (w : World) (fr : Fr) (hp : Hp) : Prop where
  slot : ∀ s, RV I ι (f s) (get fr s)
  obj : ∀ id ob, getO hp id = some ob → RO I ι w (ι id) ob
  own : ∀ id ob, getO hp id = some ob → ∀ B, owns w (ι id) ob B → ok B ∧ B < w.heap.size ∧ ∀ o, I B o = none
  inj : ∀ id id' ob ob', getO hp id = some ob → getO hp id' = some ob' → ∀ B, owns w (ι id) ob B → owns w (ι id') ob' B → id = id'

def Agr (I : Im) (w : World) : Prop := ∀ b o v, I b o = some v → w.cell? ⟨b, o, none⟩ = some v

abbrev vals (a : Act) : Vs := fun s => a.tmps.getD s undef

/-- The world is as it was, but for new blocks and those that were lent. -/
structure Bel (L : Nat → Prop) (w w' : World) : Prop where
  os : w'.os = w.os
  tape : w'.tape = w.tape
  output : w'.output = w.output
  size : w.heap.size ≤ w'.heap.size
  block : ∀ k, k < w.heap.size → ¬ L k → w'.heap[k]? = w.heap[k]?
theorem Bel.refl (L : Nat → Prop) (w : World) : Bel L w w := ⟨rfl, rfl, rfl, Nat.le_refl _, fun _ _ _ => rfl⟩

/-- Of the call: how many slots, the world when it began, the blocks that were lent to it, the data that there were, the objects that were lent (the first k) and where they lie. -/
structure Env where
  N : Nat
  w0 : World
  L : Nat → Prop
  I0 : Im
  k : Nat
  ι0 : Lo

/-- What a function has done to the world, and what its frame and its own objects hold. -/
structure St (E : Env) (fr : Fr) (hp : Hp) (I : Im) (ι : Lo) (a : Act) (w : World) : Prop where
  below : Bel E.L E.w0 w
  le : E.I0.le I
  new : ∀ b o v, I b o = some v → E.I0 b o = some v ∨ E.w0.heap.size ≤ b ∨ E.L b
  agr : Agr I w
  size : a.tmps.size = E.N
  defers : a.defers = []
  fix : ∀ id, id < E.k → ι id = E.ι0 id
  rel : Rel (fun B => E.w0.heap.size ≤ B ∨ E.L B) I ι (vals a) w fr hp

end Go.Proofs.Ytajmjfdopminbaa.Sym
