/- Sym: operations that make or write: evalE, and that it tells what they do. Conditions: the table of types is the program's (TabOk). -/
import Derived.Test.YtajmjfdopminbaaSymg
import Derived.Laws.CopyRow
set_option linter.unusedVariables false
set_option linter.unusedSimpArgs false
namespace Go.Proofs.Ytajmjfdopminbaa.Sym
open Go Go.RowKit

def spl {α : Type} (l : List α) (q : Nat) (x : List α) : List α := l.take q ++ x ++ l.drop (q + x.length)
theorem spl_len {α : Type} (l : List α) (q : Nat) (x : List α) (h : q + x.length ≤ l.length) : (spl l q x).length = l.length := by simp [spl]; omega
theorem spl_left {α : Type} (l r : List α) (q : Nat) (x : List α) (h : q + x.length ≤ l.length) : spl (l ++ r) q x = spl l q x ++ r := by
  unfold spl
  rw [List.take_append_of_le_length (by omega), List.drop_append_of_le_length h]
  simp
theorem spl_right {α : Type} (l r : List α) (q : Nat) (x : List α) : spl (l ++ r) (l.length + q) x = l ++ spl r q x := by
  unfold spl
  rw [List.take_length_add_append, Nat.add_assoc, List.drop_length_add_append]
  simp
/-- An element's cells written, in the row of all. -/
theorem flat_set {α : Type} {sz off : Nat} {x : List α} : ∀ (l : List (List α)) (i : Nat) (e : List α), (∀ e ∈ l, e.length = sz) → l[i]? = some e → off + x.length ≤ sz →
    (l.set i (spl e off x)).flatten = spl l.flatten (i * sz + off) x
  | [], i, e, _, h, _ => by simp at h
  | r :: l, 0, e, hs, h, hl => by
    simp at h; subst h
    simp only [List.set_cons_zero, List.flatten_cons, Nat.zero_mul, Nat.zero_add]
    rw [spl_left _ _ _ _ (by rw [hs r (by simp)]; exact hl)]
  | r :: l, i + 1, e, hs, h, hl => by
    simp at h
    simp only [List.set_cons_succ, List.flatten_cons]
    rw [flat_set l i e (fun e he => hs e (by simp [he])) h hl]
    have : (i + 1) * sz + off = r.length + (i * sz + off) := by rw [hs r (by simp), Nat.succ_mul]; omega
    rw [this, spl_right]

def allD : List CV → Option (List C)
  | [] => some []
  | .c x :: r => match allD r with
    | some l => some (x :: l)
    | none => none
  | _ :: _ => none
def dvOf : AV → Option DV
  | .t (.v (.c x)) => some (.v x)
  | .t (.agg l) => match allD l with
    | some cs => some (.agg cs)
    | none => none
  | _ => none
/-- What is appended: the elements (size sz) of a slice. -/
def srcOf (hp : Hp) (sz : Nat) : AV → Option (List El)
  | .t (.v (.c .nil)) => some []
  | .t (.v (.c (.sl sz' ys))) => bif sz' == sz then some ys else none
  | .t (.v (.sn sz' ys)) => bif sz' == sz then some ys else none
  | .t (.v (.rt id)) => match getO hp id with
    | some (.row _ sz' ys) => bif sz' == sz then some ys else none
    | _ => none
  | _ => none
/-- What is appended to: an own slice (its elements, and the objects without it) or none. -/
def dstOf (hp : Hp) (e sz : Nat) : AV → Option (List El × Hp)
  | .t (.v (.c .nil)) => some ([], hp)
  | .t (.v (.rt id)) => match getO hp id with
    | some (.row e' sz' xs) => bif e' == e && sz' == sz then some (xs, delO hp id) else none
    | _ => none
  | _ => none
/-- A literal's cells. -/
def litQ (fr : Fr) (sz : Nat) : List (Nat × Operand) → List CV → Option (List CV)
  | [], l => some l
  | (i, x) :: r, l => match cellsOf (opv fr x) with
    | some cs => bif cs.length == sz && noU cs && Nat.ble (i * sz + sz) l.length then litQ fr sz r (splice l (i * sz) cs) else none
    | none => none
def zrow : Nat → List CV → List CV
  | 0, _ => []
  | n + 1, z => z ++ zrow n z
/-- Empty slices for nil where these are foretold. -/
def unN : List C → List C → List C
  | .nil :: cs, .sl sz [] :: es => .sl sz [] :: unN cs es
  | c :: cs, _ :: es => c :: unN cs es
  | cs, _ => cs
theorem unN_sound {I : Im} : ∀ {vs : List Value} {cs : List C} (es : List C), RCs I vs cs → RCs I vs (unN cs es)
  | _, _, es, .nil => by unfold unN; exact .nil
  | _, c :: cs, [], .cons h t => by
    have : unN (c :: cs) [] = c :: cs := by cases c <;> rfl
    rw [this]; exact .cons h t
  | _, c :: cs, e :: es, .cons (a := v) h t => by
    have ih := unN_sound es t
    by_cases q : c = .nil ∧ ∃ sz, e = .sl sz []
    · obtain ⟨rfl, sz, rfl⟩ := q
      have h' : RC I v .nil := h
      cases h'
      exact .cons (RC.emp none 0 _ (fun _ => rfl)) ih
    · have : unN (c :: cs) (e :: es) = c :: unN cs es := by
        rw [unN]
        intro sz e1 e2
        exact q ⟨e1, sz, e2⟩
      rw [this]; exact .cons h ih
/-- An element is a zero one (an empty slice for nil). -/
def fitZ1 : ZK → C → Bool
  | .int k, .v (.int k' n) => decide (k = k') && n == 0
  | .bool, .v (.bool b) => !b
  | .str, .v (.string s) => s.size == 0
  | .nil, .nil => true
  | .nil, .sl _ [] => true
  | .nilp, .v (.pointer none) => true
  | .nilm, .v (.map none) => true
  | .nilf, .v .nilFunc => true
  | _, _ => false
def fitZ : List ZK → El → Bool
  | [], [] => true
  | z :: zs, c :: cs => fitZ1 z c && fitZ zs cs
  | _, _ => false
def fresh (k d : Nat) (fr : Fr) (hp : Hp) : Bool := freshB d fr hp && Nat.ble k d

/-- A string's bytes, as elements. -/
def strE (b : ByteArray) : List El := b.data.toList.map fun c => [C.v (.int .u8 (c.toNat : Int))]
def isU8 : TK → List ZK → Bool
  | .int .u8, [.int .u8] => true
  | _, _ => false
/-- If one has been taken out, it is this one. -/
def holeAt : Option (Value × Nat) → Value → Prop
  | none, _ => True
  | some (k, _), kv => k = kv
/-- An operation that makes or writes: what it gives, what the objects are then. -/
noncomputable def evalE (P : Program) (X : Tab) (k : Nat) (fr : Fr) (hp : Hp) (o : Op) (orc : Orc) : Option (AV × Hp × Prop × Orc) := match o with
  | .alloc t => match tiOf X t, orc with
    | some i, .id d :: orc' => bif fresh k d fr hp then some (.t (.v (.ptr d 0)), setO hp d (.cells t (i.zero.map fun z => .c z.c)), True, orc') else none
    | _, _ => none
  | .box t x => match tiOf X t, cellsOf (opv fr x), orc with
    | some i, some cs, .id d :: orc' => bif fresh k d fr hp && cs.length == i.size && noU cs then some (.t (.v (.ptr d 0)), setO hp d (.cells t cs), True, orc') else none
    | _, _, _ => none
  | .store t x y => match tiOf X t, cellsOf (opv fr y), opv fr x with
    | some i, some cs, .t (.v (.ptr id o)) => match getO hp id with
      | some (.cells ty l) => bif cs.length == i.size && noU cs && Nat.ble (o + cs.length) l.length then some (.u, setO hp id (.cells ty (splice l o cs)), True, orc) else none
      | _ => none
    | some i, some cs, .t (.v (.el sz id q o)) => match getO hp id, (allD cs).map (toSl (nlz orc).1), (nlz orc).2 with
      | some (.row e sz' xs), some ds, .el el :: .row xs' :: orc' => bif sz == sz' && cs.length == i.size && Nat.ble (o + cs.length) sz' then
          some (.u, setO hp id (.row e sz' xs'), xs[q]? = some el ∧ xs' = xs.set q (spl el o ds), orc') else none
      | some (.nrow e sz' p e2 sz2 m hole xs), some ds, .el el :: .row xs' :: orc' => bif sz == sz' && cs.length == i.size && Nat.ble (o + cs.length) sz' && (Nat.blt p o || Nat.ble (o + cs.length) p) then
          some (.u, setO hp id (.nrow e sz' p e2 sz2 m hole xs'), xs[q]? = some el ∧ xs' = xs.set q (spl el o ds), orc') else none
      | some (.nrow e sz' p e2 sz2 m hole xs), none, .hl d0 :: orc' => match cs, holeOf hole d0 with
        | [.rt d], some j => bif sz == sz' && i.size == 1 && o == p then some (.u, setO hp id (.nrow e sz' p e2 sz2 m ((q, d) :: dropD hole d0) xs), q = j ∧ notIn (dropD hole d0) q, orc') else none
        | _, _ => none
      | some (.nrow e sz' p e2 sz2 m hole xs), none, .b true :: orc' => match cs with
        | [.rt d] => bif sz == sz' && i.size == 1 && o == p then some (.u, setO hp id (.nrow e sz' p e2 sz2 (m + 1) ((q, d) :: hole) xs), q = m ∧ q < xs.length, orc') else none
        | _ => none
      | _, _, _ => none
    | _, _, _ => none
  | .buildSlice t n parts => match tiOf X t, orc with
    | some ⟨.slice e, _, _, _⟩, .id d :: .row xs' :: orc' => match tiOf X e with
      | some i => match litQ fr i.size parts.toList (zrow n (i.zero.map fun z => .c z.c)) with
        | some cs => match allD cs with
          | some ds => bif fresh k d fr hp && Nat.ble (n * i.size) 16777216 && Nat.ble n lim && xs'.length == n && xs'.all (fun x => x.length == i.size) then some (.t (.v (.rt d)), setO hp d (.row e i.size xs'), xs'.flatten = unN ds xs'.flatten, orc') else none
          | none => none
        | none => none
      | none => none
    | some ⟨.slice e, _, _, _⟩, .row xs' :: orc' => match tiOf X e with
      | some i => match litQ fr i.size parts.toList (zrow n (i.zero.map fun z => .c z.c)) with
        | some cs => match allD cs with
          | some ds => bif Nat.ble (n * i.size) 16777216 && Nat.ble n lim && xs'.length == n && xs'.all (fun x => x.length == i.size) then some (.t (.v (.c (.sl i.size xs'))), hp, xs'.flatten = unN ds xs'.flatten, orc') else none
          | none => none
        | none => none
      | none => none
    | _, _ => none
  | .makeSlice t x y => match tiOf X t, opv fr x, opv fr y, orc with
    | some ⟨.slice e, _, _, _⟩, .t (.v (.c (.v (.int _ l)))), .t (.v (.c (.v (.int _ c)))), .id d :: .el el :: .row xs' :: orc' => match tiOf X e with
      | some i => bif fresh k d fr hp && Nat.ble i.bytes 128 && fitZ i.zero el then some (.t (.v (.rt d)), setO hp d (.row e i.size xs'), 0 ≤ l ∧ l ≤ c ∧ c ≤ (lim : Int) ∧ xs' = List.replicate l.toNat el, orc') else none
      | none => none
    | _, _, _, _ => none
  | .range t x => match tiOf X t, opv fr x, orc with
    | some ⟨.str, _, _, _⟩, .t (.v (.c (.v (.string s)))), .id d :: orc' => bif fresh k d fr hp then some (.t (.v (.rt d)), setO hp d (.iter s 0), True, orc') else none
    | _, _, _ => none
  | .next x true => match opv fr x, orc with
    | .t (.v (.rt id)), .b t :: orc' => match getO hp id with
      | some (.iter s i) => bif t then some (.tup [.v (.c (.v (.bool true))), .v (.c (.v (.int .i64 (i : Int)))), .v (.c (.v (.int .i32 ((Utf8.decode s i).1 : Int))))], setO hp id (.iter s (i + (Utf8.decode s i).2)), i < s.size, orc')
        else some (.tup [.v (.c (.v (.bool false)))], hp, ¬ i < s.size, orc')
      | _ => none
    | _, _ => none
  | .makeMap t none => match tiOf X t, orc with
    | some ⟨.map q _, _, _, _⟩, .id d :: orc' => bif fresh k d fr hp then some (.t (.v (.rt d)), setO hp d (.map (keys P q) []), True, orc') else none
    | _, _ => none
  | .mapUpdate t m x y => match tiOf X t, keyVal (opv fr x), dvOf (opv fr y), opv fr m with
    | some ⟨.map q _, _, _, _⟩, some kv, some dv, .t (.v (.rt id)) => match getO hp id, orc with
      | some (.map kp es), .es es' :: orc' => some (.u, setO hp id (.map kp es'), Maps.Keyed P q ∧ kp = keys P q ∧ (okKV kv = true → keys P q kv) ∧ es' = putE es kv dv, orc')
      | _, _ => none
    | some ⟨.map q _, _, _, _⟩, some kv, none, .t (.v (.rt id)) => match getO hp id, opv fr y, orc with
      | some (.nmap kp e' sz' hole es), .t (.v (.rt d)), .es es' :: orc' => some (.u, setO hp id (.nmap kp e' sz' (some (kv, d)) es'), Maps.Keyed P q ∧ kp = keys P q ∧ (okKV kv = true → keys P q kv) ∧ es' = putE es kv (.v .nil) ∧ holeAt hole kv, orc')
      | _, _, _ => none
    | _, _, _, _ => none
  | .assign x => match x, orc with
    | .const (.slice none 0 0), .mk d e sz :: r => bif fresh k d fr hp then some (.t (.v (.rt d)), setO hp d (.row e sz []), True, r) else none
    | x, orc => match evalQ P X fr hp (.assign x) orc with
      | some (x, φ, orc') => some (x, hp, φ, orc')
      | none => none
  | .call c => match c.callee with
    | .builtin .append => match c.args.toList, c.argTypes.toList, orc with
      | [s, y], [t, t'], .id d :: .row xs' :: orc' => match tiOf X t with
        | some ⟨.slice e, _, _, _⟩ => match tiOf X e with
          | some i => match dstOf hp e i.size (opv fr s), srcOf hp i.size (opv fr y) with
            | some (xs, hp1), some ys => bif t == t' && Nat.ble i.bytes 128 && fresh k d fr hp then some (.t (.v (.rt d)), setO hp1 d (.row e i.size xs'), xs' = xs ++ ys ∧ xs.length + ys.length ≤ lim, orc') else none
            | none, some ys => match opv fr s with
              | .t (.v (.rt id)) => match getO hp id with
                | some (.nrow e' sz' p e2 sz2 m hole xs) => bif t == t' && e' == e && sz' == i.size && Nat.ble i.bytes 128 && fresh k d fr hp then some (.t (.v (.rt d)), setO (delO hp id) d (.nrow e i.size p e2 sz2 m hole xs'), xs' = xs ++ ys ∧ xs.length + ys.length ≤ lim, orc') else none
                | _ => none
              | _ => none
            | _, _ => match opv fr s, opv fr y, tiOf X t', orc' with
              | .t (.v (.c .nil)), .t (.v (.c (.v (.int _ n)))), some ⟨.int _, _, _, _⟩, .el el :: orc2 => bif Nat.ble i.bytes 128 && fresh k d fr hp && fitZ i.zero el then some (.t (.v (.rt d)), setO hp d (.row e i.size xs'), xs' = List.replicate n.toNat el ∧ 0 ≤ n ∧ n ≤ (lim : Int), orc2) else none
              | .t (.v (.rt id)), .t (.v (.c (.v (.string b)))), some ⟨.str, _, _, _⟩, orc2 => match getO hp id with
                | some (.row e' sz' xs) => bif e' == e && sz' == i.size && i.size == 1 && i.bytes == 1 && isU8 i.k i.zero && fresh k d fr hp then some (.t (.v (.rt d)), setO (delO hp id) d (.row e i.size xs'), xs' = xs ++ strE b ∧ xs.length + b.size ≤ lim, orc2) else none
                | _ => none
              | _, _, _, _ => none
          | none => none
        | _ => none
      | _, _, _ => none
    | .builtin .clear => match c.args.toList, c.argTypes.toList, orc with
      | [s], [t], .el el :: .row xs' :: orc' => match tiOf X t, opv fr s with
        | some ⟨.slice e, _, _, _⟩, .t (.v (.sub sz id lo n)) => match tiOf X e, getO hp id with
          | some i, some (.row e' sz' xs) => bif sz == i.size && sz' == i.size && e' == e && fitZ i.zero el then some (.tup [], setO hp id (.row e' sz' xs'), xs' = xs.take lo ++ (List.replicate n el ++ xs.drop (lo + n)), orc') else none
          | _, _ => none
        | _, _ => none
      | _, _, _ => none
    | .builtin .unsafeString => match c.args.toList, c.argTypes.toList, orc with
      | [p, n], [pt, it], .val (.t (.v (.c (.v (.string b))))) :: .nl e :: orc' => match opv fr p, opv fr n with
        | .t (.v (.el 1 id 0 0)), .t (.v (.c (.v (.int .i64 m)))) => match getO hp id with
          | some (.row e' 1 xs) => bif e' == e then some (.c (.v (.string b)), delO hp id, P.underlying pt = some (.pointer e) ∧ P.cellsOf e = 1 ∧ xs = strE b ∧ m = (xs.length : Int) ∧ 0 < xs.length, orc') else none
          | _ => none
        | _, _ => none
      | _, _, _ => none
    | _ => match evalQ P X fr hp o orc with
      | some (x, φ, orc') => some (x, hp, φ, orc')
      | none => none
  | _ => match evalQ P X fr hp o orc with
    | some (x, φ, orc') => some (x, hp, φ, orc')
    | none => none

theorem flat_get {α : Type} {sz : Nat} (hp : 0 < sz) : ∀ (l : List (List α)), (∀ e ∈ l, e.length = sz) → ∀ q, l.flatten[q]? = (l[q / sz]?).bind (·[q % sz]?)
  | [], _, q => by simp
  | e :: r, h, q => by
    have he : e.length = sz := h e (by simp)
    rw [List.flatten_cons, List.getElem?_append]
    split
    · rename_i hq
      rw [he] at hq
      rw [Nat.div_eq_of_lt hq, Nat.mod_eq_of_lt hq]
      rfl
    · rename_i hq
      rw [he] at hq ⊢
      have ih := flat_get hp r (fun e' h' => h e' (by simp [h'])) (q - sz)
      rw [ih]
      have h1 : q = (q - sz) + sz := by omega
      have h2 : q / sz = (q - sz) / sz + 1 := by
        conv => lhs; rw [h1]
        exact Nat.add_div_right _ hp
      have h3 : q % sz = (q - sz) % sz := by
        conv => lhs; rw [h1]
        exact Nat.add_mod_right _ _
      rw [h2, h3]
      simp
theorem flat_len {α : Type} {sz : Nat} : ∀ (l : List (List α)), (∀ e ∈ l, e.length = sz) → l.flatten.length = l.length * sz
  | [], _ => by simp
  | e :: r, h => by
    rw [List.flatten_cons, List.length_append, h e (by simp), flat_len r (fun e' h' => h e' (by simp [h'])), List.length_cons, Nat.succ_mul]
    omega


section
variable {P : Program} {X : Tab} {E : Env} {w w' : World} {I : Im} {ι : Lo} {fr : Fr} {hp : Hp} {a : Act} {o : Oper}

theorem szOf_eq {t : Nat} {i : TI} (e : tiOf X t = some i) : szOf X t = i.size := by simp [szOf, e]
theorem toSl_sound : ∀ {l : List Nat} {cs : List C} {vs : List Value}, RCs I vs cs → RCs I vs (toSl l cs)
  | _, [], _, .nil => .nil
  | l, c :: cs, _, .cons h t => by
    unfold toSl
    split
    · cases h
      exact .cons (.emp _ _ _ fun _ => rfl) (toSl_sound t)
    · exact .cons h (toSl_sound t)
theorem allD_sound : ∀ {l : List CV} {cs : List C} {vs : List Value}, All2 (RK I ι) vs l → allD l = some cs → RCs I vs cs
  | _, cs, _, .nil, e => by simp [allD] at e; subst e; exact .nil
  | _, cs, _, .cons (b := x) (m := m) h t, e => by
    unfold allD at e
    split at e
    · rename_i heq; cases heq
    · rename_i y r heq
      cases heq
      split at e
      · rename_i l2 e2
        simp at e; subst e
        exact .cons h.1 (allD_sound t e2)
      · cases e
    · cases e
theorem dvOf_sound {v : Value} {x : AV} (h : RV I ι v x) {d : DV} (he : dvOf x = some d) : RD I v d := by
  unfold dvOf at he
  split at he
  · simp at he; subst he; exact h
  · split at he
    · rename_i cs e
      simp at he; subst he
      obtain ⟨vs, h1, h2⟩ := h
      exact ⟨vs, h1, allD_sound h2 e⟩
    · cases he
  · cases he
theorem fresh_spec {k d : Nat} (h : fresh k d fr hp = true) : freshB d fr hp = true ∧ k ≤ d := by
  simp only [fresh, Bool.and_eq_true] at h
  exact ⟨h.1, Nat.le_of_ble_eq_true h.2⟩

theorem cvC_ment (v : Value) : ment (cvC v) = [] := by
  unfold cvC
  split
  · rfl
  · cases okV _ <;> rfl
theorem opv_fresh {d : Nat} (h : freshB d fr hp = true) (x : Operand) : d ∉ mentA (opv fr x) := by
  cases x with
  | tmp t => exact freshB_slot h t
  | const v =>
    simp only [opv]
    unfold cv
    split
    · simp [mentA, mentT, ment]
    · cases List.all _ _
      · simp [mentA, mentT, ment]
      · simp only [cond_true, mentA, mentT, List.mem_flatMap, List.mem_map]
        rintro ⟨y, ⟨z, _, rfl⟩, hy⟩
        rw [cvC_ment] at hy; cases hy
    · simp [mentA, mentT, ment]
    · cases okV _ <;> simp [mentA, mentT, ment]
  | func f => simp [opv, mentA, mentT, ment]
  | global g => simp [opv, mentA, mentT, ment]
theorem cellsOf_ment {x : AV} {cs : List CV} (h : cellsOf x = some cs) {d : Nat} (hd : d ∉ mentA x) : ∀ c ∈ cs, d ∉ ment c := by
  unfold cellsOf at h
  split at h
  · simp at h; subst h
    intro c hc
    simp at hc; subst hc; exact hd
  · simp at h; subst h
    intro c hc hm
    exact hd (List.mem_flatMap.2 ⟨c, hc, hm⟩)
  · cases h

/-- A new variable. -/
theorem St.cells (h : St E fr hp I ι a w) {d : Nat} (hd : fresh E.k d fr hp = true) {t : Nat} {vs : List Value} {l : List CV} (hl : All2 (RK I ι) vs l) (hm : ∀ c ∈ l, d ∉ ment c) :
    St E fr (setO hp d (.cells t l)) I (upd ι d (.pointer (some ⟨w.heap.size, 0, none⟩))) a (w.alloc (.cells vs.toArray t)) ∧ RV I (upd ι d (.pointer (some ⟨w.heap.size, 0, none⟩))) (.pointer (some ⟨w.heap.size, 0, none⟩)) (.t (.v (.ptr d 0))) := by
  obtain ⟨h1, h2⟩ := fresh_spec hd
  refine ⟨h.make h1 h2 rfl ⟨w.heap.size, vs, rfl, heap_alloc_new w _, hl.cong fun x hx v hr => hr.cong (Im.le_refl I) fun id hid => upd_ne ι _ fun e => hm x hx (e ▸ hid)⟩ rfl, w.heap.size, upd_same ι d _, rfl⟩

theorem run_newVar (t : Nat) (v : Value) (w : World) : (newVar t v).run P w = .ok ⟨w.heap.size, 0, none⟩ (w.alloc (.cells v.cells t)) := rfl

/-- A new own slice. -/
theorem St.row (h : St E fr hp I ι a w) {d : Nat} (hd : fresh E.k d fr hp = true) {e sz n c : Nat} {cur : Array Value} {xs : List El} (hn : n = xs.length) (hnc : n ≤ c) (hc : c ≤ maxLen) (hcs : cur.size = c * sz) (hl : xs.length ≤ lim) (hs : ∀ x ∈ xs, x.length = sz)
    (hR : RCs I (cur.toList.take (n * sz)) xs.flatten) :
    St E fr (setO hp d (.row e sz xs)) I (upd ι d (.slice (some ⟨w.heap.size, 0, none⟩) n c)) a (w.alloc (.cells cur e)) ∧ RV I (upd ι d (.slice (some ⟨w.heap.size, 0, none⟩) n c)) (.slice (some ⟨w.heap.size, 0, none⟩) n c) (.t (.v (.rt d))) := by
  obtain ⟨h1, h2⟩ := fresh_spec hd
  subst hn
  refine ⟨h.make h1 h2 rfl ⟨cur.toList.take (xs.length * sz), ⟨?_, .inr ⟨w.heap.size, c, cur, rfl, Nat.zero_le _, heap_alloc_new w _, hnc, hc, hcs, rfl⟩⟩, hs, hR, hl⟩ rfl, (upd_same ι d _).symm, rfl⟩
  have : xs.length * sz ≤ c * sz := Nat.mul_le_mul_right _ hnc
  simp; omega

theorem lim_max {n : Nat} (h : n ≤ lim) : n ≤ maxLen := by simp only [lim, maxLen] at *; omega

theorem madeCells_at (z : Array Value) (n q : Nat) (hq : q < n) : (madeCells z n).toList[q]? = some (z[q % z.size]!) := by
  simp [madeCells, hq]
theorem zrow_len (z : List CV) : ∀ n, (zrow n z).length = n * z.length
  | 0 => by simp [zrow]
  | n + 1 => by simp [zrow, zrow_len z n, Nat.succ_mul]; omega
theorem zrow_at {z : List CV} (hz : 0 < z.length) : ∀ n q, q < n * z.length → (zrow n z)[q]? = z[q % z.length]?
  | 0, q, h => by omega
  | n + 1, q, h => by
    simp only [zrow, List.getElem?_append]
    split
    · rename_i hq; rw [Nat.mod_eq_of_lt hq]
    · rename_i hq
      rw [zrow_at hz n (q - z.length) (by rw [Nat.succ_mul] at h; omega)]
      have h1 : q = (q - z.length) + z.length := by omega
      have h3 : q % z.length = (q - z.length) % z.length := by
        conv => lhs; rw [h1]
        exact Nat.add_mod_right _ _
      rw [h3]
theorem made_sound {z : Array Value} {l : List CV} (h : All2 (RK I ι) z.toList l) (hp0 : 0 < l.length) (n : Nat) : All2 (RK I ι) (madeCells z (n * l.length)).toList (zrow n l) := by
  have hl : z.size = l.length := by simpa using h.len
  refine All2.of (by simp [size_madeCells, zrow_len]) fun q x y hx hy => ?_
  have hq : q < n * l.length := by
    have := (List.getElem?_eq_some_iff.1 hy).1
    rw [zrow_len] at this; exact this
  rw [madeCells_at _ _ _ hq] at hx
  rw [zrow_at hp0 n q hq] at hy
  obtain ⟨v, hv, hr⟩ := h.at _ _ hy
  simp at hx; subst hx
  have hm : q % z.size < z.size := by rw [hl]; exact Nat.mod_lt _ hp0
  have : z[q % z.size]! = v := by
    rw [getElem!_pos z _ hm]
    have h2 : z.toList[q % l.length]? = some v := hv
    rw [← hl] at h2
    simpa [hm] using h2
  rw [this]; exact hr

theorem litQ_sound (h : St E fr hp I ι a w) {sz : Nat} : ∀ (parts : List (Nat × Operand)) (l l' : List CV) (vs : List Value), All2 (RK I ι) vs l → litQ fr sz parts l = some l' →
      ∃ vs' : List Value, Instr.fill (fun i => some (i * sz, sz)) vs.toArray (parts.map fun p => (p.1, a.eval p.2)) = some vs'.toArray ∧ All2 (RK I ι) vs' l' := by
  intro parts
  induction parts with
  | nil =>
    intro l l' vs hv e
    simp [litQ] at e; subst e
    exact ⟨vs, rfl, hv⟩
  | cons q r ih =>
    obtain ⟨i, x⟩ := q
    intro l l' vs hv e
    simp only [litQ] at e
    cases e2 : cellsOf (opv fr x) with
    | none => simp [e2] at e
    | some cs =>
      simp only [e2] at e
      cases e3 : (cs.length == sz && noU cs && Nat.ble (i * sz + sz) l.length) with
      | false => simp [e3] at e
      | true =>
        simp only [e3, cond_true] at e
        simp only [Bool.and_eq_true, beq_iff_eq] at e3
        obtain ⟨⟨hn, hnu⟩, hle⟩ := e3
        have hle' : i * sz + sz ≤ l.length := Nat.le_of_ble_eq_true hle
        have hx := opv_sound h x
        obtain ⟨us, hus, hR⟩ := cellsOf_sound hx e2 (noU_spec hnu)
        have hlu : us.length = sz := by rw [hR.len, hn]
        have hlv : vs.length = l.length := hv.len
        have hset := fill_set us vs (i * sz) (by omega)
        have hnext : All2 (RK I ι) (vs.take (i * sz) ++ us ++ vs.drop (i * sz + us.length)) (splice l (i * sz) cs) := by
          unfold splice
          have : us.length = cs.length := hR.len
          rw [this]
          exact ((hv.take _).append hR).append (hv.drop _)
        obtain ⟨vs', h1, h2⟩ := ih _ _ _ hnext e
        refine ⟨vs', ?_, h2⟩
        simp only [List.map_cons, Instr.fill]
        have hsz : ¬ ((a.eval x).cells.size ≠ sz || i * sz + (a.eval x).cells.size > vs.toArray.size) = true := by
          rw [hus]; simp; omega
        rw [if_neg hsz, ← h1, hus]
        congr 1
        rw [← hset]

theorem run_buildSlice {t e' : Nat} (hd : P.underlying t = some (.slice e')) {i : TI} (hf : RowFacts P e' i) {n : Nat} (hn : n * i.size ≤ 16777216) {parts : Array (Nat × Value)} {vs : List Value} {z : Value} (hz : (zeroValue e').run P w = .ok z w)
    (hfill : Instr.fill (fun q => some (q * i.size, i.size)) (madeCells z.cells (n * i.size)) parts.toList = some vs.toArray) :
    (Instr.buildSlice t n parts).run P w = .ok (.slice (some ⟨w.heap.size, 0, none⟩) n n) (w.alloc (.cells vs.toArray e')) := by
  have hle : ¬ (n * i.size > 2 ^ 24) := by omega
  unfold Instr.buildSlice
  rw [Sem.run_bind, run_underlying hd w]
  simp only [Result.andThen_ok]
  rw [Sem.run_bind, run_sizeOf hf w]
  simp only [Result.andThen_ok, if_neg hle]
  by_cases h0 : n * i.size = 0
  · simp only [h0, if_true, Sem.run_bind, Sem.run_pure, Result.andThen_ok]
    rw [h0] at hfill
    have : (Array.map (fun x => (#[] : Array Value)[x % (#[] : Array Value).size]!) (Array.range 0)) = madeCells z.cells 0 := by simp [madeCells, Array.range_zero']
    rw [this, hfill]
    simp only [Sem.run_bind]
    rfl
  · simp only [if_neg h0, Sem.run_bind, Sem.run_pure, Result.andThen_ok, hz]
    have : (Array.map (fun x => z.cells[x % z.cells.size]!) (Array.range (n * i.size))) = madeCells z.cells (n * i.size) := rfl
    rw [this, hfill]
    simp only [Sem.run_bind]
    rfl

end
end Go.Proofs.Ytajmjfdopminbaa.Sym
