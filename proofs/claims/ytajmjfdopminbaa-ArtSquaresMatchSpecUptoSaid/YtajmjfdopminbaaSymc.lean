/- Sym: the table of types, and what an operation that writes nothing gives (evalQ). Conditions: none (definitions). -/
import Derived.Test.YtajmjfdopminbaaSymb
import Derived.Maps.Keyed
set_option linter.unusedVariables false
set_option linter.unusedSimpArgs false
namespace Go.Proofs.Ytajmjfdopminbaa.Sym
open Go Go.RowKit

/-- A zero cell. -/
inductive ZK : Type where
  | int (k : IntKind)
  | bool
  | str
  | nil
  | nilp
  | nilm
  | nilf
  deriving DecidableEq
def ZK.c : ZK → C
  | .int k => .v (.int k 0)
  | .bool => .v (.bool false)
  | .str => .v (.string ⟨#[]⟩)
  | .nil => .nil
  | .nilp => .v (.pointer none)
  | .nilm => .v (.map none)
  | .nilf => .v .nilFunc
def zkOf : Value → Option ZK
  | .int k n => if n = 0 then some (.int k) else none
  | .bool b => if b = false then some .bool else none
  | .string s => if s.size = 0 then some .str else none
  | .slice none 0 0 => some .nil
  | .pointer none => some .nilp
  | .map none => some .nilm
  | .nilFunc => some .nilf
  | _ => none
/-- What is told of a type. -/
inductive TK : Type where
  | int (k : IntKind)
  | bool
  | str
  | slice (e : Nat)
  | struct (offs : List (Nat × Nat))
  | map (k e : Nat)
  | other
  deriving DecidableEq
structure TI where
  k : TK
  size : Nat
  bytes : Nat
  zero : List ZK
abbrev Tab := List (Nat × TI)
def tiOf : Tab → Nat → Option TI
  | [], _ => none
  | (k, v) :: r, s => bif k == s then some v else tiOf r s
def szOf (X : Tab) (t : Nat) : Nat := match tiOf X t with
  | some i => i.size
  | none => 0
def isAggT (X : Tab) (t : Nat) : Bool := match tiOf X t with
  | some ⟨.struct _, _, _, _⟩ => true
  | _ => false

/-- A table's row is the program's. -/
def kOk (P : Program) (d : Option TypeDesc) : TK → Bool
  | .int k => match d with
    | some (.int k') => k' == k
    | _ => false
  | .bool => match d with
    | some .bool => true
    | _ => false
  | .str => match d with
    | some .string => true
    | _ => false
  | .slice e => match d with
    | some (.slice e') => e' == e
    | _ => false
  | .struct offs => match d with
    | some (.struct fs) => (fs.toList.map fun f => (f.offset, P.cellsOf f.type)) == offs && offs.all fun p => 0 < p.2
    | _ => false
  | .map k e => match d with
    | some (.map k' e') => k' == k && e' == e
    | _ => false
  | .other => match d with
    | some (.struct _) => false
    | some (.array _ _) => false
    | some _ => true
    | none => false
def aggK : TK → Bool
  | .struct _ => true
  | _ => false
def isAggV : Value → Bool
  | .agg _ => true
  | _ => false
def rowOk (P : Program) (t : Nat) (i : TI) : Bool := match P.info? t with
  | some j => j.size == i.size && j.bytes == i.bytes && 0 < i.size && kOk P (P.underlying t) i.k &&
      (match j.zero with
       | some z => (z.cells.toList.map zkOf) == i.zero.map some && i.zero.length == i.size && isAggV z == aggK i.k
       | none => false)
  | none => false
def TabOk (P : Program) (X : Tab) : Prop := ∀ t i, tiOf X t = some i → rowOk P t i = true
theorem TabOk.nil (P : Program) : TabOk P [] := fun _ _ h => by simp [tiOf] at h
theorem TabOk.cons {P : Program} {X : Tab} {t : Nat} {i : TI} (h : rowOk P t i = true) (k : TabOk P X) : TabOk P ((t, i) :: X) := fun t' i' e => by
  simp only [tiOf] at e
  by_cases q : t = t'
  · subst q; simp at e; subst e; exact h
  · have : (t == t') = false := by simpa using q
    rw [this] at e
    exact k t' i' e

/-! ### Operands -/
def cvC : Value → CV
  | .slice none 0 0 => .c .nil
  | v => bif okV v then .c (.v v) else .u
def cv : Value → AV
  | .slice none 0 0 => .c .nil
  | .agg cs => bif cs.toList.all Value.oneCell' then .t (.agg (cs.toList.map cvC)) else .u
  | .tuple _ => .u
  | v => bif okV v then .c (.v v) else .u
def opv (fr : Fr) : Operand → AV
  | .tmp t => get fr t
  | .const v => cv v
  | .func f => .c (.fn f [])
  | .global _ => .u
/-- The cells of a value. -/
def cellsOf : AV → Option (List CV)
  | .t (.v x) => some [x]
  | .t (.agg l) => some l
  | _ => none
/-- More is known of it than nothing. -/
def noU : List CV → Bool
  | [.u] => false
  | _ => true
/-- What is foretold: an element, a row, a name, entries, a truth, a call. -/
inductive OC : Type where
  | el (e : El)
  | row (xs : List El)
  | id (d : Nat)
  | es (l : List (Value × DV))
  | look (r : Option DV)
  | b (t : Bool)
  | nl (sz : Nat)
  | mk (d e sz : Nat)
  | eq (d : Nat) (y : AV)
  | fz (id : Nat)
  | hl (d : Nat)
  | kp
  | val (x : AV)
  | call (ρ : List (Nat × Nat)) (args : List TV) (hin : Hp) (r : AV) (hout : Hp)
theorem noU_spec {cs : List CV} (h : noU cs = true) : cs ≠ [.u] := fun e => by subst e; cases h
abbrev Orc := List OC

/-- Which element has been taken out under this name. -/
def holeOf : List (Nat × Nat) → Nat → Option Nat
  | [], _ => none
  | (j, d') :: r, d => bif d' == d then some j else holeOf r d
def dropD : List (Nat × Nat) → Nat → List (Nat × Nat)
  | [], _ => []
  | (j, d') :: r, d => bif d' == d then r else (j, d') :: dropD r d
def notIn : List (Nat × Nat) → Nat → Prop
  | [], _ => True
  | (j, _) :: r, i => j ≠ i ∧ notIn r i
theorem holeOf_mem : ∀ {l : List (Nat × Nat)} {d j : Nat}, holeOf l d = some j → (j, d) ∈ l
  | [], _, _, h => by cases h
  | (j', d') :: r, d, j, h => by
    unfold holeOf at h
    cases hb : (d' == d) with
    | true =>
      rw [hb] at h
      cases h
      rw [← eq_of_beq hb]
      exact List.mem_cons_self ..
    | false => rw [hb] at h; exact List.mem_cons_of_mem _ (holeOf_mem h)
theorem mem_dropD : ∀ {l : List (Nat × Nat)} {d : Nat} {p : Nat × Nat}, p ∈ dropD l d → p ∈ l
  | [], _, _, h => by cases h
  | (j', d') :: r, d, p, h => by
    unfold dropD at h
    cases hb : (d' == d) with
    | true => rw [hb] at h; exact List.mem_cons_of_mem _ h
    | false =>
      rw [hb] at h
      rcases List.mem_cons.1 h with h | h
      · rw [h]; exact List.mem_cons_self ..
      · exact List.mem_cons_of_mem _ (mem_dropD h)
theorem dropD_mem : ∀ {l : List (Nat × Nat)} {d j i d' : Nat}, holeOf l d = some j → (i, d') ∈ l → (i, d') ∈ dropD l d ∨ i = j
  | [], _, _, _, _, h, _ => by cases h
  | (j0, d0) :: r, d, j, i, d', h, hm => by
    unfold holeOf at h
    unfold dropD
    cases hb : (d0 == d) with
    | true =>
      rw [hb] at h
      cases h
      rcases List.mem_cons.1 hm with hm | hm
      · cases hm; exact .inr rfl
      · exact .inl hm
    | false =>
      rw [hb] at h
      rcases List.mem_cons.1 hm with hm | hm
      · cases hm; exact .inl (List.mem_cons_self ..)
      · exact (dropD_mem h hm).imp (List.mem_cons_of_mem _) id
theorem notIn_not : ∀ {l : List (Nat × Nat)} {i : Nat}, notIn l i → ∀ d, (i, d) ∉ l
  | [], _, _, _, h => by cases h
  | (j, d') :: r, i, hn, d, h => by
    rcases List.mem_cons.1 h with h | h
    · cases h; exact hn.1 rfl
    · exact notIn_not hn.2 d h
/-- The sizes for which nils are told to be empty slices. -/
def nlz : Orc → List Nat × Orc
  | .nl s :: r => (s :: (nlz r).1, (nlz r).2)
  | r => ([], r)
def toSl : List Nat → List C → List C
  | _, [] => []
  | l, c :: cs => match l, c with
    | s :: r, .nil => .sl s [] :: toSl r cs
    | l, c => c :: toSl l cs
/-- What is read at an address: n cells. -/
def cellsAt (hp : Hp) (n : Nat) (orc : Orc) : AV → Option (List CV × Prop × Orc)
  | .t (.v (.ptr id o)) => match getO hp id with
    | some (.cells _ l) => bif Nat.ble (o + n) l.length then some ((l.drop o).take n, True, orc) else none
    | _ => none
  | .t (.v (.c (.ptr cs))) => bif Nat.ble n cs.length then some ((cs.take n).map .c, True, orc) else none
  | .t (.v (.el sz id i o)) => match getO hp id, orc with
    | some (.row _ sz' xs), .el e :: orc' => bif sz == sz' && Nat.ble (o + n) e.length then some (((e.drop o).take n).map .c, xs[i]? = some e, orc') else none
    | some (.nrow _ sz' q _ _ m _ xs), .el e :: orc' => bif sz == sz' && Nat.ble (o + n) e.length then some (((e.drop o).take n).map .c, xs[i]? = some e ∧ bif Nat.blt q o || Nat.ble (o + n) q then True else m ≤ i, orc') else none
    | some (.nrow _ sz' q _ _ _ hole _), .hl d :: orc' => match holeOf hole d with
      | some j => bif sz == sz' && o == q && n == 1 then some ([.rt d], i = j, orc') else none
      | none => none
    | _, _ => none
  | _ => none
def asVal (agg : Bool) (cs : List CV) : Option AV := match agg, cs with
  | true, cs => some (.t (.agg cs))
  | false, [x] => some (.t (.v x))
  | _, _ => none

/-- Comparison and arithmetic of numbers. -/
def intOp (op : BinOp) (k : IntKind) (a b : Int) : Option (Value × Prop) := match op with
  | .add => some (.int k (k.wrap (a + b)), True)
  | .sub => some (.int k (k.wrap (a - b)), True)
  | .mul => some (.int k (k.wrap (a * b)), True)
  | .quo => some (.int k (k.wrap (a.tdiv b)), b ≠ 0)
  | .rem => some (.int k (a.tmod b), b ≠ 0)
  | .eql => some (.bool (a == b), True)
  | .neq => some (.bool (a != b), True)
  | .lss => some (.bool (decide (a < b)), True)
  | .leq => some (.bool (decide (a ≤ b)), True)
  | .gtr => some (.bool (decide (a > b)), True)
  | .geq => some (.bool (decide (a ≥ b)), True)
  | _ => none
def strOp (op : BinOp) (a b : ByteArray) : Option (Value × Prop) := match op with
  | .add => some (.string (a ++ b), a.size + b.size ≤ lim)
  | .eql => some (.bool (a.toList == b.toList), True)
  | .neq => some (.bool (!(a.toList == b.toList)), True)
  | .lss => some (.bool (Op.bytesLess a.toList b.toList), True)
  | .leq => some (.bool (Op.bytesLess a.toList b.toList || a.toList == b.toList), True)
  | .gtr => some (.bool (!(Op.bytesLess a.toList b.toList || a.toList == b.toList)), True)
  | .geq => some (.bool (!Op.bytesLess a.toList b.toList), True)
  | _ => none
def bt (s : ByteArray) (i : Int) : Int := if h : i.toNat < s.size then ((s[i.toNat]'h).toNat : Int) else 0

def callable (P : Program) (f : FuncId) : Prop := ∃ fn, P.funcs[f]? = some fn ∧ (fn.name == "runtime.NumGoroutine") = false ∧ fn.body.isNone = false
/-- The lent objects lie where they should. -/
structure Lent (I : Im) (ι : Lo) (w : World) (hin : Hp) : Prop where
  obj : ∀ id ob, getO hin id = some ob → RO I ι w (ι id) ob
  own : ∀ id ob, getO hin id = some ob → ∀ B, owns w (ι id) ob B → B < w.heap.size ∧ ∀ o, I B o = none
  inj : ∀ id id' ob ob', getO hin id = some ob → getO hin id' = some ob' → ∀ B, owns w (ι id) ob B → owns w (ι id') ob' B → id = id'
/-- Blocks of the objects that were lent. -/
def LB (w : World) (ι : Lo) (hin : Hp) (B : Nat) : Prop := ∃ id ob, getO hin id = some ob ∧ owns w (ι id) ob B
/-- Calling f with these arguments, being lent the objects of hin, gives this result and leaves the objects of hout; nothing else that was there is written. -/
def Spec (P : Program) (f : FuncId) (args : List TV) (hin : Hp) (r : AV) (hout : Hp) : Prop :=
  callable P f ∧ ∀ (I : Im) (ι : Lo) (w : World) (vs : List Value), Agr I w → All2 (RT I ι) vs args → Lent I ι w hin →
    Calls P f vs.toArray w fun e w' => ∃ v I' ι', e = .returned v ∧ Ext (LB w ι hin) I w I' w' ∧ RV I' ι' v r ∧ (∀ id ob, getO hin id = some ob → ι' id = ι id) ∧
      Lent I' ι' w' hout ∧ ∀ id ob B, getO hout id = some ob → owns w' (ι' id) ob B → w.heap.size ≤ B ∨ LB w ι hin B

/-- Data only. -/
def isD1 : CV → Bool
  | .c _ => true
  | _ => false
def isDT : TV → Bool
  | .v x => isD1 x
  | .agg l => l.all isD1
def isDA : AV → Bool
  | .t x => isDT x
  | .tup l => l.all isDT
/-- The values of operands. -/
def asTs (fr : Fr) : List Operand → Option (List TV)
  | [] => some []
  | x :: r => match opv fr x with
    | .t y => match asTs fr r with
      | some l => some (y :: l)
      | none => none
    | _ => none
/-- A field's cells put into those of the whole. -/
def splice {α : Type} (l : List α) (o : Nat) (x : List α) : List α := l.take o ++ x ++ l.drop (o + x.length)
def buildQ (fr : Fr) (offs : List (Nat × Nat)) : List (Nat × Operand) → List CV → Option (List CV)
  | [], l => some l
  | (i, x) :: r, l => match offs[i]?, cellsOf (opv fr x) with
    | some (o, n), some cs => bif cs.length == n && noU cs && Nat.ble (o + n) l.length then buildQ fr offs r (splice l o cs) else none
    | _, _ => none
def capsOf : List TV → Option (List Cap)
  | [] => some []
  | .v (.c x) :: r => match capsOf r with
    | some l => some (.c x :: l)
    | none => none
  | .v (.ptr id 0) :: r => match capsOf r with
    | some l => some (.own id :: l)
    | none => none
  | _ :: _ => none
def allC : List Cap → Option (List C)
  | [] => some []
  | .c x :: r => match allC r with
    | some l => some (x :: l)
    | none => none
  | _ :: _ => none
def capTV : Cap → TV
  | .c x => .v (.c x)
  | .own id => .v (.ptr id 0)
def fnOf (f : FuncId) (caps : List Cap) : AV := match allC caps with
  | some cs => .c (.fn f cs)
  | none => .t (.v (.fn f caps))
/-- The function and what it has captured. -/
def calleeOf : AV → Option (FuncId × List TV)
  | .t (.v (.c (.fn f cs))) => some (f, cs.map fun x => .v (.c x))
  | .t (.v (.fn f caps)) => some (f, caps.map capTV)
  | _ => none

/-! ### Maps -/
/-- A key's value. -/
def allV : List CV → Option (List Value)
  | [] => some []
  | .c (.v x) :: r => match allV r with
    | some l => some (x :: l)
    | none => none
  | _ :: _ => none
def keyVal : AV → Option Value
  | .t (.v (.c (.v x))) => some x
  | .t (.agg l) => match allV l with
    | some vs => some (.agg vs.toArray)
    | none => none
  | _ => none
def dvT : DV → TV
  | .v x => .v (.c x)
  | .agg l => .agg (l.map .c)
/-- What a map holds at a key. -/
noncomputable def look (es : List (Value × DV)) (k : Value) : Option DV := by
  classical exact (es.find? fun q => decide (q.1 = k)).map (·.2)
noncomputable def putE (es : List (Value × DV)) (k : Value) (v : DV) : List (Value × DV) := by
  classical exact if es.any (fun q => decide (q.1 = k)) then es.map (fun q => if q.1 = k then (k, v) else q) else es ++ [(k, v)]
def zeroT (X : Tab) (t : Nat) : Option TV := match tiOf X t with
  | some i => match isAggT X t, i.zero with
    | true, l => some (.agg (l.map fun z => .c z.c))
    | false, [z] => some (.v (.c z.c))
    | _, _ => none
  | none => none
def lookR (ok : Bool) (x : TV) (b : Bool) : AV := match ok with
  | true => .tup [x, .v (.c (.v (.bool b)))]
  | false => .t x
def keys (P : Program) (k : Nat) (v : Value) : Prop := ∃ l, keyOf P k v = some l
def okKV : Value → Bool
  | .agg cs => cs.toList.all okV
  | v => okV v

/-- Shifts. -/
def shOp (op : BinOp) (k : IntKind) (a b : Int) : Option (Value × Prop) := match op with
  | .shl => some (.int k (k.wrap (a * 2 ^ min b.toNat k.bits)), 0 ≤ b)
  | .shr => some (.int k (a / 2 ^ min b.toNat k.bits), 0 ≤ b)
  | _ => none
/-- Structs of numbers, strings and bools, compared. -/
def eqFs (P : Program) : List Field → Nat → List CV → List CV → Option Bool
  | [], _, [], [] => some true
  | f :: fs, i, x :: xs, y :: ys => bif f.offset == i && f.name != "_" then
      (match P.underlying f.type, x, y, eqFs P fs (i + 1) xs ys with
      | some (.int _), .c (.v (.int k a)), .c (.v (.int k' b)), some r => bif decide (k = k') then some ((a == b) && r) else none
      | some .string, .c (.v (.string a)), .c (.v (.string b)), some r => some ((a.toList == b.toList) && r)
      | some .bool, .c (.v (.bool a)), .c (.v (.bool b)), some r => some ((a == b) && r)
      | _, _, _, _ => none) else none
  | _, _, _, _ => none
def eqSt (P : Program) (t : Nat) (xs ys : List CV) : Option Bool := match P.underlying t with
  | some (.struct fs) => bif !P.stoodInHeld t && !P.eqGuardType P.depth t then eqFs P fs.toList 0 xs ys else none
  | _ => none

/-- The least, the greatest of two. -/
def mn (a b : Int) : Int := if b < a then b else a
def mx (a b : Int) : Int := if b > a then b else a
/-- How long a slice is. -/
def lenQ (X : Tab) (hp : Hp) (t : Nat) (x : AV) : Option Nat := match tiOf X t with
  | some ⟨.slice _, _, _, _⟩ => match x with
    | .t (.v (.c (.sl _ xs))) => some xs.length
    | .t (.v (.c .nil)) => some 0
    | .t (.v (.rt id)) => match getO hp id with
      | some (.row _ _ xs) => some xs.length
      | some (.nrow _ _ _ _ _ _ _ xs) => some xs.length
      | _ => none
    | .t (.v (.sub _ _ _ n)) => some n
    | _ => none
  | some ⟨.str, _, _, _⟩ => match x with
    | .t (.v (.c (.v (.string s)))) => some s.size
    | _ => none
  | _ => none
/-- The bounds of a slice expression. -/
def boundQ (fr : Fr) (n : Nat) : Option Operand → Option Int
  | none => some (n : Int)
  | some y => match opv fr y with
    | .t (.v (.c (.v (.int _ l)))) => some l
    | _ => none

/-- An operation that writes nothing: what it gives, under which condition; what is left of what was foretold. -/
def evalQ (P : Program) (X : Tab) (fr : Fr) (hp : Hp) (o : Op) (orc : Orc) : Option (AV × Prop × Orc) := match o with
  | .move x => match x, orc with
    | .const (.slice none 0 0), .nl sz :: r => some (.c (.sl sz []), True, r)
    | x, orc => some (opv fr x, True, orc)
  | .assign x => match x, orc with
    | .const (.slice none 0 0), .nl sz :: r => some (.c (.sl sz []), True, r)
    | x, orc => some (opv fr x, True, orc)
  | .pick c a b => match opv fr c, orc with
    | .t (.v (.c (.v (.bool e)))), .b true :: orc' => some (opv fr a, e = true, orc')
    | .t (.v (.c (.v (.bool e)))), .b false :: orc' => some (opv fr b, e = false, orc')
    | _, _ => none
  | .build t parts => match tiOf X t with
    | some ⟨.struct offs, _, _, zero⟩ => match buildQ fr offs parts.toList (zero.map fun z => .c z.c) with
      | some l => some (.t (.agg l), True, orc)
      | none => none
    | _ => none
  | .load t a => match tiOf X t with
    | some i => match cellsAt hp i.size orc (opv fr a) with
      | some (cs, φ, orc') => match asVal (isAggT X t) cs with
        | some x => some (x, φ, orc')
        | none => none
      | none => none
    | none => none
  | .nilCheck x => match opv fr x with
    | .t (.v (.ptr s o)) => some (.t (.v (.ptr s o)), True, orc)
    | .t (.v (.c (.ptr cs))) => some (.t (.v (.c (.ptr cs))), True, orc)
    | .t (.v (.el sz id i o)) => some (.t (.v (.el sz id i o)), True, orc)
    | _ => none
  | .fieldAddr t x f => match tiOf X t with
    | some ⟨.struct offs, _, _, _⟩ => match offs[f]? with
      | some (n, _) => match opv fr x with
        | .t (.v (.ptr s o)) => some (.t (.v (.ptr s (o + n))), True, orc)
        | .t (.v (.c (.ptr cs))) => some (.t (.v (.c (.ptr (cs.drop n)))), True, orc)
        | .t (.v (.el sz id i o)) => some (.t (.v (.el sz id i (o + n))), True, orc)
        | _ => none
      | none => none
    | _ => none
  | .indexAddr t x i => match tiOf X t, opv fr i with
    | some ⟨.slice e, _, _, _⟩, .t (.v (.c (.v (.int _ n)))) => match tiOf X e with
      | some i' => match opv fr x with
        | .t (.v (.c (.sl sz xs))) => match orc with
          | .el cs :: r => bif sz == i'.size then some (.t (.v (.c (.ptr cs))), 0 ≤ n ∧ n < (xs.length : Int) ∧ xs[n.toNat]? = some cs, r) else none
          | _ => none
        | .t (.v (.rt id)) => match getO hp id with
          | some (.row e' sz xs) => bif e' == e && sz == i'.size then some (.t (.v (.el sz id n.toNat 0)), 0 ≤ n ∧ n < (xs.length : Int), orc) else none
          | some (.nrow e' sz _ _ _ _ _ xs) => bif e' == e && sz == i'.size then some (.t (.v (.el sz id n.toNat 0)), 0 ≤ n ∧ n < (xs.length : Int), orc) else none
          | _ => none
        | .t (.v (.sub sz id lo m)) => match getO hp id with
          | some (.row _ _ _) => bif sz == i'.size then some (.t (.v (.el sz id (lo + n.toNat) 0)), 0 ≤ n ∧ n < (m : Int), orc) else none
          | _ => none
        | _ => none
      | none => none
    | _, _ => none
  | .index t x i => match tiOf X t, opv fr x, opv fr i with
    | some ⟨.str, _, _, _⟩, .t (.v (.c (.v (.string s)))), .t (.v (.c (.v (.int _ n)))) => some (.c (.v (.int .u8 (bt s n))), 0 ≤ n ∧ n < (s.size : Int), orc)
    | _, _, _ => none
  | .binOp op t x y _ => match opv fr x, opv fr y with
    | .t (.v (.c (.v (.int k a)))), .t (.v (.c (.v (.int k' b)))) => match shOp op k a b with
      | some (v, φ) => some (.c (.v v), φ, orc)
      | none => bif decide (k = k') then (match intOp op k a b with
        | some (v, φ) => some (.c (.v v), φ, orc)
        | none => none) else none
    | .t (.agg xs), .t (.agg ys) => match op, eqSt P t xs ys with
      | .eql, some e => some (.c (.v (.bool e)), True, orc)
      | .neq, some e => some (.c (.v (.bool (!e))), True, orc)
      | _, _ => none
    | .t (.v (.c (.v (.string a)))), .t (.v (.c (.v (.string b)))) => (match strOp op a b with
      | some (v, φ) => some (.c (.v v), φ, orc)
      | none => none)
    | .t (.v (.c (.v (.bool a)))), .t (.v (.c (.v (.bool b)))) => (match tiOf X t, op with
      | some ⟨.bool, _, _, _⟩, .eql => some (.c (.v (.bool (a == b))), True, orc)
      | some ⟨.bool, _, _, _⟩, .neq => some (.c (.v (.bool (!(a == b)))), True, orc)
      | _, _ => none)
    | .t (.v (.sn _ _)), .t (.v (.c .nil)) => (match tiOf X t, op with
      | some ⟨.slice _, _, _, _⟩, .eql => some (.c (.v (.bool false)), True, orc)
      | some ⟨.slice _, _, _, _⟩, .neq => some (.c (.v (.bool true)), True, orc)
      | _, _ => none)
    | .t (.v (.c .nil)), .t (.v (.c .nil)) => (match tiOf X t, op with
      | some ⟨.slice _, _, _, _⟩, .eql => some (.c (.v (.bool true)), True, orc)
      | some ⟨.slice _, _, _, _⟩, .neq => some (.c (.v (.bool false)), True, orc)
      | _, _ => none)
    | _, _ => none
  | .unOp .not _ x => match opv fr x with
    | .t (.v (.c (.v (.bool b)))) => some (.c (.v (.bool (!b))), True, orc)
    | _ => none
  | .convert s t x => match tiOf X s, tiOf X t, opv fr x with
    | some _, some ⟨.int k, _, _, _⟩, .t (.v (.c (.v (.int _ n)))) => some (.c (.v (.int k (k.wrap n))), True, orc)
    | _, _, _ => none
  | .makeFunc (.func f) first caps => match first.toList, asTs fr caps.toList with
    | [], some l => match capsOf l with
      | some cs => some (fnOf f cs, True, orc)
      | none => none
    | _, _ => none
  | .slice t x lo hi none => match tiOf X t, boundQ fr 0 lo, (lenQ X hp t (opv fr x)) with
    | some ⟨.slice e, _, _, _⟩, some l, some n => match tiOf X e, boundQ fr n hi with
      | some i', some h => match opv fr x with
        | .t (.v (.c (.sl sz xs))) => match hi with
          | none => bif sz == i'.size then some (.t (.v (.c (.sl sz (xs.drop l.toNat)))), 0 ≤ l ∧ l ≤ (xs.length : Int), orc) else none
          | some _ => bif sz == i'.size then some (.t (.v (.c (.sl sz ((xs.take h.toNat).drop l.toNat)))), 0 ≤ l ∧ l ≤ h ∧ h ≤ (xs.length : Int), orc) else none
        | .t (.v (.rt id)) => some (.t (.v (.sub i'.size id l.toNat (h - l).toNat)), 0 ≤ l ∧ l ≤ h ∧ h ≤ (n : Int), orc)
        | .t (.v (.c .nil)) => some (.c .nil, l = 0 ∧ h = 0, orc)
        | _ => none
      | _, _ => none
    | some ⟨.str, _, _, _⟩, some l, some n => match boundQ fr n hi with
      | some h => match opv fr x with
        | .t (.v (.c (.v (.string s)))) => match hi with
          | none => some (.c (.v (.string (s.extract l.toNat s.size))), 0 ≤ l ∧ l ≤ (s.size : Int), orc)
          | some _ => some (.c (.v (.string (s.extract l.toNat h.toNat))), 0 ≤ l ∧ l ≤ h ∧ h ≤ (s.size : Int), orc)
        | _ => none
      | none => none
    | _, _, _ => none
  | .extract x i => match opv fr x with
    | .tup l => match l[i]? with
      | some y => some (.t y, True, orc)
      | none => none
    | _ => none
  | .lookup t m x ok => match tiOf X t, keyVal (opv fr x), orc with
    | some ⟨.map k e, _, _, _⟩, some kv, .look r :: orc' => match opv fr m with
      | .t (.v (.rt id)) => match getO hp id with
        | some (.map kp es) => match r with
          | some d => some (lookR ok (dvT d) true, Maps.Keyed P k ∧ kp = keys P k ∧ (okKV kv = true → keys P k kv) ∧ look es kv = some d, orc')
          | none => match zeroT X e with
            | some z => some (lookR ok z false, Maps.Keyed P k ∧ kp = keys P k ∧ (okKV kv = true → keys P k kv) ∧ look es kv = none, orc')
            | none => none
        | some (.nmap kp _ _ _ es) => match r with
          | some _ => none
          | none => match zeroT X e with
            | some z => some (lookR ok z false, Maps.Keyed P k ∧ kp = keys P k ∧ (okKV kv = true → keys P k kv) ∧ look es kv = none, orc')
            | none => none
        | _ => none
      | _ => none
    | some ⟨.map k e, _, _, _⟩, some kv, .b true :: orc' => match opv fr m with
      | .t (.v (.rt id)) => match getO hp id with
        | some (.nmap kp _ _ (some (kv', d)) _) => some (lookR ok (.v (.rt d)) true, Maps.Keyed P k ∧ kp = keys P k ∧ (okKV kv = true → keys P k kv) ∧ kv' = kv, orc')
        | _ => none
      | _ => none
    | _, _, _ => none
  | .call c => match c.callee with
    | .builtin .len => match c.args.toList, c.argTypes.toList with
      | [x], [t] => match lenQ X hp t (opv fr x) with
        | some n => some (.c (.v (.int .i64 (n : Int))), True, orc)
        | none => none
      | _, _ => none
    | .builtin .cap => match c.args.toList, c.argTypes.toList with
      | [x], [t] => match opv fr x, tiOf X t with
        | .t (.v (.c .nil)), some ⟨.slice _, _, _, _⟩ => some (.c (.v (.int .i64 0)), True, orc)
        | _, _ => none
      | _, _ => none
    | .builtin .min => match c.args.toList with
      | [x, y] => match opv fr x, opv fr y with
        | .t (.v (.c (.v (.int k m)))), .t (.v (.c (.v (.int _ n)))) => some (.c (.v (.int k (mn m n))), True, orc)
        | _, _ => none
      | _ => none
    | .builtin .max => match c.args.toList with
      | [x, y] => match opv fr x, opv fr y with
        | .t (.v (.c (.v (.int k m)))), .t (.v (.c (.v (.int _ n)))) => some (.c (.v (.int k (mx m n))), True, orc)
        | _, _ => none
      | _ => none
    | .builtin .unsafeSliceData => match c.args.toList with
      | [x] => match opv fr x with
        | .t (.v (.rt id)) => match getO hp id with
          | some (.row _ sz xs) => some (.t (.v (.el sz id 0 0)), 0 < xs.length, orc)
          | _ => none
        | _ => none
      | _ => none
    | .value f => match calleeOf (opv fr f), asTs fr c.args.toList, orc with
      | some (k, caps), some args, .val r :: orc' => bif isDA r then some (r, Spec P k (args ++ caps) [] r [], orc') else none
      | _, _, _ => none
    | _ => none
  | _ => none
end Go.Proofs.Ytajmjfdopminbaa.Sym
