/- Sym: each operation that writes nothing does what evalQ tells (first part: moves, structs, loads, addresses). Conditions: the table of types is the program's (TabOk). -/
import Derived.Test.YtajmjfdopminbaaSymd
import Derived.Laws.Build
import Derived.Laws.Slices
import Derived.Laws.Concat
import Derived.Laws.StructEq
import Derived.Laws.Shifts
set_option linter.unusedVariables false
set_option linter.unusedSimpArgs false
namespace Go.Proofs.Ytajmjfdopminbaa.Sym
open Go Go.RowKit

/-- The operation gives a value of which x is known. -/
def Gives (P : Program) (I : Im) (ι : Lo) (a : Act) (w : World) (o : Oper) (x : AV) : Prop :=
  ∃ v, (execOp a.eval o).run P w = .ok (.value v) w ∧ RV I ι v x

section
variable {P : Program} {X : Tab} {E : Env} {w : World} {I : Im} {ι : Lo} {fr : Fr} {hp : Hp} {a : Act} {o : Oper}

theorem gives_move (h : St E fr hp I ι a w) {x : Operand} (ho : o.op = .move x ∨ o.op = .assign x) : Gives P I ι a w o (opv fr x) :=
  ⟨a.eval x, by rcases ho with ho | ho <;> simp [execOp, ho], opv_sound h x⟩

theorem RV.v_inv {v u : Value} (h : RV I ι v (.t (.v (.c (.v u))))) : v = u := by
  have h' : RC I v (.v u) := h
  cases h'; rfl
theorem eval_v (h : St E fr hp I ι a w) {x : Operand} {u : Value} (hx : opv fr x = .t (.v (.c (.v u)))) : a.eval x = u := by
  have := opv_sound h x
  rw [hx] at this
  exact RV.v_inv this

theorem gives_pick (h : St E fr hp I ι a w) {c x y : Operand} {b : Bool} (ho : o.op = .pick c x y) (hb : opv fr c = .t (.v (.c (.v (.bool b))))) :
    Gives P I ι a w o (if b = true then opv fr x else opv fr y) := by
  have hv := eval_v h hb
  refine ⟨if b = true then a.eval x else a.eval y, by simp [execOp, ho, hv, asBool], ?_⟩
  cases b
  · simpa using opv_sound h y
  · simpa using opv_sound h x

/-! ### Structs -/
theorem fill_set (cs : List Value) : ∀ (l : List Value) (o : Nat), o + cs.length ≤ l.length →
    ((cs.toArray.zipIdx.foldl (fun (acc : Array Value) (p : Value × Nat) => acc.setIfInBounds (o + p.2) p.1) l.toArray).toList) = l.take o ++ cs ++ l.drop (o + cs.length) := by
  have key : ∀ (cs : List Value) (k : Nat) (l : List Value) (o : Nat), o + k + cs.length ≤ l.length →
      ((cs.zipIdx k).foldl (fun (acc : Array Value) (p : Value × Nat) => acc.setIfInBounds (o + p.2) p.1) l.toArray).toList = l.take (o + k) ++ cs ++ l.drop (o + k + cs.length) := by
    intro cs
    induction cs with
    | nil => intro k l o h; simp
    | cons c cs ih =>
      intro k l o h
      simp only [List.length_cons] at h
      simp only [List.zipIdx_cons, List.foldl_cons]
      have hs : (l.toArray.setIfInBounds (o + k) c) = (l.set (o + k) c).toArray := by simp
      rw [hs, ih (k + 1) (l.set (o + k) c) o (by simp; omega)]
      have h1 : o + (k + 1) = o + k + 1 := by omega
      rw [h1]
      have hlt : o + k < l.length := by omega
      rw [List.drop_set_of_lt (by omega), List.take_add_one, List.take_set]
      simp only [List.getElem?_set, List.length_cons, List.append_assoc]
      rw [List.set_eq_of_length_le (by simp; omega)]
      simp only [if_true, if_pos hlt, Option.toList_some, List.cons_append, List.nil_append]
      congr 4
      omega
  intro l o h
  have := key cs 0 l o (by simpa using h)
  simpa using this


theorem RK.cells {v : Value} {x : CV} (h : RK I ι v x) : v.cells = #[v] := by
  have := h.2
  cases v <;> first | rfl | cases this
theorem RV1.one {v : Value} {x : CV} (h : RV1 I ι v x) (hu : x ≠ .u) : v.oneCell' = true := by
  cases x with
  | u => exact (hu rfl).elim
  | c x => exact RC.one h
  | ptr id off => obtain ⟨B, _, rfl⟩ := h; rfl
  | rt id => exact h.2
  | sub sz id lo n => obtain ⟨A, len, cap, _, _, rfl⟩ := h; rfl
  | el sz id i off => obtain ⟨B, len, cap, _, rfl⟩ := h; rfl
  | fn f caps => obtain ⟨vals, rfl, _⟩ := h; rfl
  | sn sz xs => exact RC.one h.1
  | sp id => rcases h with rfl | ⟨B, _, rfl⟩ <;> rfl

/-- The cells of a value that is known. -/
theorem cellsOf_sound {v : Value} {x : AV} (h : RV I ι v x) {cs : List CV} (he : cellsOf x = some cs) (hu : cs ≠ [.u]) : ∃ us : List Value, v.cells = us.toArray ∧ All2 (RK I ι) us cs := by
  unfold cellsOf at he
  split at he
  · rename_i y
    simp at he; subst he
    have h1 : v.oneCell' = true := RV1.one h fun e => hu (by rw [e])
    exact ⟨[v], (RK.cells ⟨h, h1⟩), .cons ⟨h, h1⟩ .nil⟩
  · simp at he; subst he
    obtain ⟨vs, h1, h2⟩ := h
    exact ⟨vs, by rw [h1]; rfl, h2⟩
  · cases he

theorem buildQ_sound (h : St E fr hp I ι a w) {offs : List (Nat × Nat)} {place : Nat → Option (Nat × Nat)} (hp' : ∀ (i : Nat) q, offs[i]? = some q → place i = some q) :
    ∀ (parts : List (Nat × Operand)) (l : List CV) (l' : List CV) (vs : List Value), All2 (RK I ι) vs l → buildQ fr offs parts l = some l' →
      ∃ vs' : List Value, Instr.fill place vs.toArray (parts.map fun p => (p.1, a.eval p.2)) = some vs'.toArray ∧ All2 (RK I ι) vs' l' := by
  intro parts
  induction parts with
  | nil =>
    intro l l' vs hv e
    simp [buildQ] at e; subst e
    exact ⟨vs, rfl, hv⟩
  | cons q r ih =>
    obtain ⟨i, x⟩ := q
    intro l l' vs hv e
    simp only [buildQ] at e
    cases e1 : offs[i]? with
    | none => simp [e1] at e
    | some pn =>
      obtain ⟨p, n⟩ := pn
      simp only [e1] at e
      cases e2 : cellsOf (opv fr x) with
      | none => simp [e2] at e
      | some cs =>
        simp only [e2] at e
        cases e3 : (cs.length == n && noU cs && Nat.ble (p + n) l.length) with
        | false => simp [e3] at e
        | true =>
          simp only [e3, cond_true] at e
          simp only [Bool.and_eq_true, beq_iff_eq] at e3
          obtain ⟨⟨hn, hnu⟩, hle⟩ := e3
          have hle' : p + n ≤ l.length := Nat.le_of_ble_eq_true hle
          have hx := opv_sound h x
          obtain ⟨us, hus, hR⟩ := cellsOf_sound hx e2 (noU_spec hnu)
          have hlu : us.length = n := by rw [hR.len, hn]
          have hlv : vs.length = l.length := hv.len
          have hset := fill_set us vs p (by omega)
          have hnext : All2 (RK I ι) (vs.take p ++ us ++ vs.drop (p + us.length)) (splice l p cs) := by
            unfold splice
            have : us.length = cs.length := hR.len
            rw [this]
            exact ((hv.take p).append hR).append (hv.drop _)
          obtain ⟨vs', h1, h2⟩ := ih _ _ _ hnext e
          refine ⟨vs', ?_, h2⟩
          simp only [List.map_cons, Instr.fill, hp' i _ e1]
          have hsz : ¬ ((a.eval x).cells.size ≠ n || p + (a.eval x).cells.size > vs.toArray.size) = true := by
            rw [hus]; simp; omega
          rw [if_neg hsz, ← h1, hus]
          congr 1
          rw [← hset]

theorem run_mapM {α β : Type} (g : α → Sem β) (k : α → β) (w : World) : ∀ (l : List α), (∀ x ∈ l, (g x).run P w = .ok (k x) w) → (l.mapM g).run P w = .ok (l.map k) w
  | [], _ => by simp
  | x :: r, h => by
    have ih := run_mapM g k w r (fun y hy => h y (by simp [hy]))
    simp [h x (by simp), ih]

theorem run_build (hX : TabOk P X) (h : St E fr hp I ι a w) {t : Nat} {offs : List (Nat × Nat)} {sz by' : Nat} {zero : List ZK} (e : tiOf X t = some ⟨.struct offs, sz, by', zero⟩)
    {parts : Array (Nat × Operand)} {l : List CV} (hb : buildQ fr offs parts.toList (zero.map fun z => .c z.c) = some l) :
    ∃ vs : List Value, (Instr.build t (parts.map fun (p : Nat × Operand) => (p.1, a.eval p.2))).run P w = .ok (.agg vs.toArray) w ∧ All2 (RK I ι) vs l := by
  have hf := hX.facts e
  obtain ⟨⟨j, hj, _, _, zv, hz, hz2, _, _⟩, _, hk⟩ := hf
  obtain ⟨fs, hd, hoffs, hpos⟩ := kOk_struct hk
  have hzero := RCs.asK (zero_cells hz2 I) ι
  rw [List.map_map] at hzero
  have hfill := buildQ_sound h (offs := offs) (place := fun i => (offs.toArray)[i]?) (fun i q hq => by simpa using hq) parts.toList _ l zv.cells.toList hzero hb
  obtain ⟨vs, hv1, hv2⟩ := hfill
  refine ⟨vs, ?_, hv2⟩
  have hplaces : (fs.mapM fun (f : Field) => (do pure (f.offset, ← sizeOf f.type) : Sem (Nat × Nat))).run P w = .ok offs.toArray w := by
    have hl := run_mapM (P := P) (fun f : Field => (do pure (f.offset, ← sizeOf f.type) : Sem (Nat × Nat))) (fun f => (f.offset, P.cellsOf f.type)) w fs.toList (fun f hf => by
      have hp := hpos (f.offset, P.cellsOf f.type) (by rw [← hoffs]; exact List.mem_map.2 ⟨f, hf, rfl⟩)
      simp only [Program.cellsOf] at hp ⊢
      cases hi : P.info? f.type with
      | none => simp [hi] at hp
      | some i => simp [sizeOf, typeInfo, hi])
    have hfs : fs = fs.toList.toArray := by simp
    rw [hfs, List.mapM_toArray, map_eq_pure_bind, Sem.run_bind]
    rw [hl, hoffs]
    rfl
  simp only [Array.toArray_toList] at hv1
  have hz3 : (zeroValue t).run P w = .ok zv w := by simp [zeroValue, typeInfo, hj, hz]
  have hpl : (parts.map fun (p : Nat × Operand) => (p.1, a.eval p.2)).toList = parts.toList.map fun p => (p.1, a.eval p.2) := by simp
  unfold Instr.build
  rw [Sem.run_bind, hz3]
  simp only [Result.andThen_ok]
  rw [Sem.run_bind, run_underlying hd w]
  simp only [Result.andThen_ok]
  rw [Sem.run_bind, hplaces]
  simp only [Result.andThen_ok, hpl, hv1]
  rfl


theorem gives_build (hX : TabOk P X) (h : St E fr hp I ι a w) {t : Nat} {parts : Array (Nat × Operand)} (ho : o.op = .build t parts) {offs : List (Nat × Nat)} {sz by' : Nat} {zero : List ZK}
    (e : tiOf X t = some ⟨.struct offs, sz, by', zero⟩) {l : List CV} (hb : buildQ fr offs parts.toList (zero.map fun z => .c z.c) = some l) : Gives P I ι a w o (.t (.agg l)) := by
  obtain ⟨vs, h1, h2⟩ := run_build hX h e hb
  refine ⟨.agg vs.toArray, ?_, vs, rfl, h2⟩
  have hm : (parts.map fun (x : Nat × Operand) => match x with | (i, x) => (i, a.eval x)) = parts.map fun (p : Nat × Operand) => (p.1, a.eval p.2) := rfl
  simp only [execOp, ho]
  rw [Sem.run_bind, hm, h1]
  rfl


theorem gives_load (hX : TabOk P X) (h : St E fr hp I ι a w) {t : Nat} {i : TI} (e : tiOf X t = some i) {x : Operand} (ho : o.op = .load t x) {cs : List CV} {φ : Prop} {orc orc' : Orc} (hc : cellsAt hp i.size orc (opv fr x) = some (cs, φ, orc')) (hφ : φ) {y : AV}
    (hl : asVal (isAggT X t) cs = some y) : Gives P I ι a w o y := by
  have hx := opv_sound h x
  have hf := hX.facts e
  obtain ⟨ad, vs, h1, h2, h3, h4⟩ := cellsAt_sound h hx hc hφ
  have hlen : vs.length = i.size := by rw [h3.len, h4]
  have hrun := run_loadVar (w := w) hX e h2 hlen
  have hex : ∀ v, (loadVar t ad).run P w = .ok v w → (execOp a.eval o).run P w = .ok (.value v) w := fun v hv => by
    simp only [execOp, ho, Instr.loadAt, h1, Instr.sureAddr]
    simp [hv]
  rw [isAggT_eq e] at hl
  unfold asVal at hl
  split at hl
  · rename_i hk
    rw [hk] at hrun
    simp at hl; subst hl
    exact ⟨_, hex _ hrun, vs, by simp, h3⟩
  · rename_i q hk
    rw [hk] at hrun
    simp at hl; subst hl
    cases h3 with
    | cons hq ht =>
      rename_i v0 vr
      exact ⟨_, hex _ hrun, (by simpa using hq.1 : RV1 I ι _ q)⟩
  · cases hl

theorem gives_ptr (h : St E fr hp I ι a w) {x : Operand} (ho : o.op = .nilCheck x) {y : AV} (hy : opv fr x = y)
    (hp' : (∃ s k, y = .t (.v (.ptr s k))) ∨ (∃ cs, y = .t (.v (.c (.ptr cs)))) ∨ ∃ sz id i q, y = .t (.v (.el sz id i q))) : Gives P I ι a w o y := by
  have hx := opv_sound h x
  rw [hy] at hx
  refine ⟨a.eval x, ?_, hx⟩
  have : ∃ ad, a.eval x = .pointer (some ad) := by
    rcases hp' with ⟨s, k, rfl⟩ | ⟨cs, rfl⟩ | ⟨sz, id, i, q, rfl⟩
    · obtain ⟨B, _, h2⟩ := hx; exact ⟨_, h2⟩
    · have hx' : RC I (a.eval x) (.ptr cs) := hx
      generalize a.eval x = u at hx'
      cases hx'; exact ⟨_, rfl⟩
    · obtain ⟨B, n, c, _, h2⟩ := hx; exact ⟨_, h2⟩
  obtain ⟨ad, had⟩ := this
  simp [execOp, ho, had]

theorem RC.ptr_drop {v : Value} {cs : List C} (h : RC I v (.ptr cs)) (n : Nat) : ∃ ad : Addr, v = .pointer (some ad) ∧ RC I (.pointer (some (ad.add n))) (.ptr (cs.drop n)) := by
  cases h with
  | ptr b off cells get hI hR =>
    refine ⟨_, rfl, ?_⟩
    rw [Addr.add_lit]
    refine .ptr b (off + n) _ (fun j => get (n + j)) (fun j hj => ?_) (fun j c hj => ?_)
    · rw [Nat.add_assoc]; exact hI (n + j) (by simp at hj; omega)
    · rw [List.getElem?_drop] at hj; exact hR _ c hj

theorem run_fieldAt (hX : TabOk P X) {t : Nat} {offs : List (Nat × Nat)} {sz by' : Nat} {zero : List ZK} (e : tiOf X t = some ⟨.struct offs, sz, by', zero⟩) {f n m : Nat} (hf : offs[f]? = some (n, m)) (ad : Addr) (w : World) :
    (Instr.fieldAt t (.pointer (some ad)) f).run P w = .ok (.pointer (some (ad.add n))) w := by
  obtain ⟨_, _, hk⟩ := hX.facts e
  obtain ⟨fs, hd, hoffs, hpos⟩ := kOk_struct hk
  rw [← hoffs] at hf
  rw [List.getElem?_map] at hf
  cases hq : fs.toList[f]? with
  | none => simp [hq] at hf
  | some q =>
    simp [hq] at hf
    have hp := hpos (n, m) (by rw [← hoffs]; exact List.mem_map.2 ⟨q, List.mem_of_getElem? hq, by simp [hf]⟩)
    have hfs : fs[f]? = some q := by simpa using hq
    have hs : (sizeOf q.type).run P w = .ok m w := by
      have h2 := hf.2
      simp only [Program.cellsOf] at h2
      cases hi : P.info? q.type with
      | none => simp [hi] at h2; simp at hp; omega
      | some i => simp [hi] at h2; simp [sizeOf, typeInfo, hi, h2]
    have hm : m ≠ 0 := by simp at hp; omega
    simp [Instr.fieldAt, run_underlying hd, hfs, Instr.sureAddr, fieldPlace, hs, hm, hf.1]

theorem gives_fieldAddr (hX : TabOk P X) (h : St E fr hp I ι a w) {t f : Nat} {x : Operand} (ho : o.op = .fieldAddr t x f) {offs : List (Nat × Nat)} {sz by' : Nat} {zero : List ZK}
    (e : tiOf X t = some ⟨.struct offs, sz, by', zero⟩) {n m : Nat} (hf : offs[f]? = some (n, m)) {y z' : AV} (hy : opv fr x = y)
    (hz : (∃ s k, y = .t (.v (.ptr s k)) ∧ z' = .t (.v (.ptr s (k + n)))) ∨ (∃ cs, y = .t (.v (.c (.ptr cs))) ∧ z' = .t (.v (.c (.ptr (cs.drop n))))) ∨ ∃ k e i q, y = .t (.v (.el k e i q)) ∧ z' = .t (.v (.el k e i (q + n)))) : Gives P I ι a w o z' := by
  have hx := opv_sound h x
  rw [hy] at hx
  have key : ∃ ad, a.eval x = .pointer (some ad) ∧ RV I ι (.pointer (some (ad.add n))) z' := by
    rcases hz with ⟨s, k, rfl, rfl⟩ | ⟨cs, rfl, rfl⟩ | ⟨k, e', i, q, rfl, rfl⟩
    · obtain ⟨B, h1, h2⟩ := hx
      exact ⟨_, h2, B, h1, by rw [Addr.add_lit]⟩
    · obtain ⟨ad, h1, h2⟩ := RC.ptr_drop hx n
      exact ⟨ad, h1, h2⟩
    · obtain ⟨B, m', c, h1, h2⟩ := hx
      exact ⟨_, h2, B, m', c, h1, by rw [Addr.add_lit, Nat.add_assoc]⟩
  obtain ⟨ad, h1, h2⟩ := key
  refine ⟨_, ?_, h2⟩
  simp only [execOp, ho, h1]
  rw [Sem.run_bind, run_fieldAt hX e hf]
  rfl

end
end Go.Proofs.Ytajmjfdopminbaa.Sym
