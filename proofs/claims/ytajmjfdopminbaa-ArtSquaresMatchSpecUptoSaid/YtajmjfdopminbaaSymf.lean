/- Sym: each operation that writes nothing does what evalQ tells (second part: indexes, arithmetic, slices, calls). Conditions: the table of types is the program's (TabOk). -/
import Derived.Test.YtajmjfdopminbaaSyme
import Derived.Lib.SliceRun
set_option linter.unusedVariables false
set_option linter.unusedSimpArgs false
namespace Go.Proofs.Ytajmjfdopminbaa.Sym
open Go Go.RowKit

section
variable {P : Program} {X : Tab} {E : Env} {w : World} {I : Im} {ι : Lo} {fr : Fr} {hp : Hp} {a : Act} {o : Oper}

theorem RC.sl_inv {v : Value} {sz : Nat} {xs : List El} (h : RC I v (.sl sz xs)) : (∃ A c, v = .slice A xs.length c ∧ xs = [] ∧ (A = none → c = 0)) ∨
    ∃ b off c, ∃ (get : Nat → Nat → Value), v = .slice (some ⟨b, off, none⟩) xs.length c ∧ xs.length ≤ c ∧ xs.length ≤ lim ∧ (∀ (i : Nat) (e : List C), xs[i]? = some e → e.length = sz) ∧
      (∀ (i j : Nat), i < xs.length → j < sz → I b (off + i * sz + j) = some (get i j)) ∧ (∀ (i j : Nat) (e : List C) (x : C), xs[i]? = some e → e[j]? = some x → RC I (get i j) x) := by
  cases h with
  | emp A c sz h0 => exact .inl ⟨A, c, rfl, rfl, h0⟩
  | sl b off c sz xs get hc hM hs hI hR => exact .inr ⟨b, off, c, get, rfl, hc, hM, hs, hI, hR⟩

theorem gives_indexAddr (hX : TabOk P X) (h : St E fr hp I ι a w) {t e' sz' by' : Nat} {zero : List ZK} {x i : Operand} (ho : o.op = .indexAddr t x i)
    (e : tiOf X t = some ⟨.slice e', sz', by', zero⟩) {k : IntKind} {n : Int} (hi : opv fr i = .t (.v (.c (.v (.int k n))))) {sz : Nat} {xs : List El} (hy : opv fr x = .t (.v (.c (.sl sz xs)))) {i' : TI} (he' : tiOf X e' = some i') (hsz : sz = i'.size)
    {cs : List C} (h0 : 0 ≤ n) (h1 : n < (xs.length : Int)) (hcs : xs[n.toNat]? = some cs) : Gives P I ι a w o (.t (.v (.c (.ptr cs)))) := by
  have hx := opv_sound h x
  rw [hy] at hx
  obtain ⟨_, _, hk⟩ := hX.facts e
  have hd := kOk_slice hk
  rcases RC.sl_inv (show RC I _ (.sl sz xs) from hx) with ⟨A, c, _, hn, _⟩ | ⟨b, off, c, get, hv, hc, hM, hs, hI, hR⟩
  · rw [hn] at h1; simp at h1; omega
  · have hlen : cs.length = sz := hs _ _ hcs
    have hnl : n.toNat < xs.length := by omega
    refine ⟨.pointer (some ⟨b, off + n.toNat * sz, none⟩), ?_, .ptr b (off + n.toNat * sz) cs (get n.toNat) (fun j hj => hI _ j hnl (by omega)) (fun j c hj => hR _ j _ c hcs hj)⟩
    have hel : P.elem t = e' := by simp [Program.elem, hd]
    have hd' : P.underlying t = some (.slice (P.elem t)) := by rw [hel]; exact hd
    have hcond : 0 ≤ n ∧ n < ((xs.length : Nat) : Int) := ⟨h0, h1⟩
    simp only [execOp, ho, hv, eval_v h hi]
    rw [Sem.run_bind, run_indexAt_slice w t _ _ _ k n hd', if_pos hcond, hel, run_sizeOf (hX.facts he') w]
    have : i'.size = sz := hsz.symm
    simp [this, Addr.add_lit]


theorem row_len {e sz : Nat} {xs : List El} {v : Value} (h : RO I ι w v (.row e sz xs)) : (∃ A c, v = .slice A xs.length c) ∧ xs.length ≤ lim ∧ (0 < xs.length → ∃ B c, v = .slice (some ⟨B, 0, none⟩) xs.length c) := by
  obtain ⟨vals, h1, _, _, h4⟩ := h
  rcases h1.2 with ⟨rfl, hn⟩ | ⟨g, cap, cur, rfl, _⟩
  · exact ⟨⟨none, 0, by rw [hn]⟩, h4, fun q => by omega⟩
  · exact ⟨⟨_, cap, rfl⟩, h4, fun _ => ⟨g, cap, rfl⟩⟩

theorem nrow_len {e sz q e' sz' m : Nat} {hole : List (Nat × Nat)} {xs : List El} {v : Value} (h : RO I ι w v (.nrow e sz q e' sz' m hole xs)) : (∃ A c, v = .slice A xs.length c) ∧ xs.length ≤ lim ∧ (0 < xs.length → ∃ B c, v = .slice (some ⟨B, 0, none⟩) xs.length c) := by
  obtain ⟨⟨vals, h1, _, h4, _⟩, _⟩ := h
  rcases h1.2 with ⟨rfl, hn⟩ | ⟨g, cap, cur, rfl, _⟩
  · exact ⟨⟨none, 0, by rw [hn]⟩, h4, fun q => by omega⟩
  · exact ⟨⟨_, cap, rfl⟩, h4, fun _ => ⟨g, cap, rfl⟩⟩

theorem gives_indexAt (hX : TabOk P X) (h : St E fr hp I ι a w) {t e' sz' by' : Nat} {zero : List ZK} {x i : Operand} (ho : o.op = .indexAddr t x i)
    (e : tiOf X t = some ⟨.slice e', sz', by', zero⟩) {k : IntKind} {n : Int} (hi : opv fr i = .t (.v (.c (.v (.int k n))))) {id sz len : Nat} (hy : opv fr x = .t (.v (.rt id))) (hv0 : 0 < len → ∃ B c, ι id = .slice (some ⟨B, 0, none⟩) len c) {i' : TI} (he' : tiOf X e' = some i')
    (hsz : sz = i'.size) (h0 : 0 ≤ n) (h1 : n < (len : Int)) : Gives P I ι a w o (.t (.v (.el sz id n.toNat 0))) := by
  have hx := opv_sound h x
  rw [hy] at hx
  obtain ⟨_, _, hk⟩ := hX.facts e
  have hd := kOk_slice hk
  obtain ⟨B, c, hv⟩ := hv0 (by omega)
  have hvx : a.eval x = ι id := hx.1
  rw [hv] at hvx
  have hel : P.elem t = e' := by simp [Program.elem, hd]
  have hd' : P.underlying t = some (.slice (P.elem t)) := by rw [hel]; exact hd
  have hcond : 0 ≤ n ∧ n < ((len : Nat) : Int) := ⟨h0, h1⟩
  refine ⟨.pointer (some ⟨B, n.toNat * sz, none⟩), ?_, B, _, c, hv, by simp⟩
  simp only [execOp, ho, hvx, eval_v h hi]
  rw [Sem.run_bind, run_indexAt_slice w t _ _ _ k n hd', if_pos hcond, hel, run_sizeOf (hX.facts he') w]
  simp [hsz, Addr.add_lit]
theorem gives_indexOwn (hX : TabOk P X) (h : St E fr hp I ι a w) {t e' sz' by' : Nat} {zero : List ZK} {x i : Operand} (ho : o.op = .indexAddr t x i)
    (e : tiOf X t = some ⟨.slice e', sz', by', zero⟩) {k : IntKind} {n : Int} (hi : opv fr i = .t (.v (.c (.v (.int k n))))) {id sz : Nat} {xs : List El} (hy : opv fr x = .t (.v (.rt id))) (hg : getO hp id = some (.row e' sz xs)) {i' : TI} (he' : tiOf X e' = some i')
    (hsz : sz = i'.size) (h0 : 0 ≤ n) (h1 : n < (xs.length : Int)) : Gives P I ι a w o (.t (.v (.el sz id n.toNat 0))) := by
  have hx := opv_sound h x
  rw [hy] at hx
  obtain ⟨_, _, hk⟩ := hX.facts e
  have hd := kOk_slice hk
  obtain ⟨B, c, hv⟩ := (row_len (h.rel.obj _ _ hg)).2.2 (by omega)
  have hvx : a.eval x = ι id := hx.1
  rw [hv] at hvx
  have hel : P.elem t = e' := by simp [Program.elem, hd]
  have hd' : P.underlying t = some (.slice (P.elem t)) := by rw [hel]; exact hd
  have hcond : 0 ≤ n ∧ n < ((xs.length : Nat) : Int) := ⟨h0, h1⟩
  refine ⟨.pointer (some ⟨B, n.toNat * sz, none⟩), ?_, B, _, c, hv, by simp⟩
  simp only [execOp, ho, hvx, eval_v h hi]
  rw [Sem.run_bind, run_indexAt_slice w t _ _ _ k n hd', if_pos hcond, hel, run_sizeOf (hX.facts he') w]
  simp [hsz, Addr.add_lit]

theorem sliced_some {B lo n cap sz : Nat} (hn : 0 < n) (hc : lo + n ≤ cap) : sliced (some ⟨B, 0, none⟩) lo (lo + n) cap sz = .slice (some ⟨B, lo * sz, none⟩) n (cap - lo) := by
  have : ¬ cap = lo := by omega
  simp [sliced, this, Addr.add_lit]

theorem gives_indexSub (hX : TabOk P X) (h : St E fr hp I ι a w) {t e' sz' by' : Nat} {zero : List ZK} {x i : Operand} (ho : o.op = .indexAddr t x i)
    (e : tiOf X t = some ⟨.slice e', sz', by', zero⟩) {k : IntKind} {n : Int} (hi : opv fr i = .t (.v (.c (.v (.int k n))))) {id sz lo m : Nat} (hy : opv fr x = .t (.v (.sub sz id lo m))) {e2 sz2 : Nat} {xs : List El} (hg : getO hp id = some (.row e2 sz2 xs)) {i' : TI} (he' : tiOf X e' = some i')
    (hsz : sz = i'.size) (h0 : 0 ≤ n) (h1 : n < (m : Int)) : Gives P I ι a w o (.t (.v (.el sz id (lo + n.toNat) 0))) := by
  have hx := opv_sound h x
  rw [hy] at hx
  obtain ⟨_, _, hk⟩ := hX.facts e
  have hd := kOk_slice hk
  obtain ⟨A, len, cap, hv1, hv2, hv3⟩ := hx
  have hob := h.rel.obj _ _ hg
  obtain ⟨vals, q1, _, _, _⟩ := hob
  have hm : 0 < m := by omega
  obtain ⟨B, hA, hcap⟩ : ∃ B, A = some ⟨B, 0, none⟩ ∧ lo + m ≤ cap := by
    rcases q1.2 with ⟨q, _⟩ | ⟨g, cap', cur, q, _, _, hnc, _⟩
    · rw [hv1] at q; simp at q; omega
    · rw [hv1] at q; simp at q; exact ⟨g, q.1, by omega⟩
  subst hA
  rw [sliced_some hm hcap] at hv3
  have hel : P.elem t = e' := by simp [Program.elem, hd]
  have hd' : P.underlying t = some (.slice (P.elem t)) := by rw [hel]; exact hd
  have hcond : 0 ≤ n ∧ n < ((m : Nat) : Int) := ⟨h0, h1⟩
  refine ⟨.pointer (some ⟨B, lo * sz + n.toNat * sz, none⟩), ?_, B, len, cap, hv1, by rw [Nat.add_mul]; simp⟩
  simp only [execOp, ho, hv3, eval_v h hi]
  rw [Sem.run_bind, run_indexAt_slice w t _ _ _ k n hd', if_pos hcond, hel, run_sizeOf (hX.facts he') w]
  simp [hsz, Addr.add_lit]

theorem bt_at (s : ByteArray) (n : Int) (h0 : 0 ≤ n) (h1 : n < (s.size : Int)) : (if 0 ≤ n then s[n.toNat]? else none) = some (s[n.toNat]'(by omega)) := by
  rw [if_pos h0]
  exact getElem?_pos s n.toNat (by omega)

theorem gives_index (hX : TabOk P X) (h : St E fr hp I ι a w) {t sz' by' : Nat} {zero : List ZK} {x i : Operand} (ho : o.op = .index t x i)
    (e : tiOf X t = some ⟨.str, sz', by', zero⟩) {k : IntKind} {n : Int} (hi : opv fr i = .t (.v (.c (.v (.int k n))))) {s : ByteArray} (hy : opv fr x = .t (.v (.c (.v (.string s)))))
    (h0 : 0 ≤ n) (h1 : n < (s.size : Int)) : Gives P I ι a w o (.c (.v (.int .u8 (bt s n)))) := by
  obtain ⟨_, _, hk⟩ := hX.facts e
  have hd := kOk_str hk
  refine ⟨_, ?_, RC.v _ rfl rfl⟩
  simp only [execOp, ho, eval_v h hi, eval_v h hy]
  have hb : bt s n = ((s[n.toNat]'(by omega)).toNat : Int) := by unfold bt; rw [dif_pos (by omega)]
  simp [Instr.index, asIntOf, run_underlying hd, bt_at s n h0 h1, hb]

theorem intOp_sound {op : BinOp} {k : IntKind} {m n : Int} {v : Value} {φ : Prop} (hi : intOp op k m n = some (v, φ)) (hφ : φ) (t : TypeId) (w : World) :
    (binOp op t (.int k m) (.int k n)).run P w = .ok v w ∧ v.oneCell' = true ∧ okV v = true := by
  unfold intOp at hi
  split at hi <;> cases hi
  all_goals exact ⟨by simp [binOp, Op.intArith, Op.intCmp, Op.intDiv, hφ], rfl, rfl⟩

theorem strOp_sound {op : BinOp} {m n : ByteArray} {v : Value} {φ : Prop} (hi : strOp op m n = some (v, φ)) (hφ : φ) (t : TypeId) (w : World) :
    (binOp op t (.string m) (.string n)).run P w = .ok v w ∧ v.oneCell' = true ∧ okV v = true := by
  unfold strOp at hi
  split at hi <;> cases hi
  · have hl : lim = 1099511627776 := rfl
    refine ⟨?_, rfl, by simp only [okV, ByteArray.size_append]; exact Nat.ble_eq_true_of_le hφ⟩
    simp only [binOp]
    exact run_string_add_sum w m n (by omega)
  all_goals exact ⟨by simp [binOp, Op.stringOp], rfl, rfl⟩

theorem gives_binOp (h : St E fr hp I ι a w) {op : BinOp} {t yt : TypeId} {x y : Operand} (ho : o.op = .binOp op t x y yt) {u u' v : Value} (hx : opv fr x = .t (.v (.c (.v u)))) (hy : opv fr y = .t (.v (.c (.v u'))))
    (hg : ∀ w, (eqGuard op t x y u u').run P w = .ok () w) (hr : ∀ w, (binOp op t u u').run P w = .ok v w) (h1 : v.oneCell' = true) (h2 : okV v = true) : Gives P I ι a w o (.c (.v v)) := by
  refine ⟨v, ?_, RC.v _ h1 h2⟩
  simp only [execOp, ho, eval_v h hx, eval_v h hy]
  rw [Sem.run_bind, Sem.run_bind, hg]
  simp [hr]

theorem gives_not (h : St E fr hp I ι a w) {t : TypeId} {x : Operand} (ho : o.op = .unOp .not t x) {b : Bool} (hx : opv fr x = .t (.v (.c (.v (.bool b))))) : Gives P I ι a w o (.c (.v (.bool (!b)))) := by
  refine ⟨_, ?_, RC.v _ rfl rfl⟩
  simp [execOp, ho, eval_v h hx, Op.unary]

theorem gives_convert (hX : TabOk P X) (h : St E fr hp I ι a w) {s t : TypeId} {x : Operand} (ho : o.op = .convert s t x) {i : TI} (es : tiOf X s = some i) {k k' : IntKind} {sz' by' : Nat} {zero : List ZK} (et : tiOf X t = some ⟨.int k, sz', by', zero⟩)
    {n : Int} (hx : opv fr x = .t (.v (.c (.v (.int k' n))))) : Gives P I ι a w o (.c (.v (.int k (k.wrap n)))) := by
  obtain ⟨_, _, hk⟩ := hX.facts et
  have hd := kOk_int hk
  obtain ⟨d, hd2, _⟩ := kOk_agg (hX.facts es).k
  refine ⟨_, ?_, RC.v _ rfl rfl⟩
  have hik : P.intKind t = k := by simp [Program.intKind, hd]
  simp only [execOp, ho, eval_v h hx]
  rw [Sem.run_bind, run_convert_int w s t k' n (by simp [hd2]) (by rw [hik]; exact hd), hik]
  rfl



theorem shOp_sound {op : BinOp} {k k' : IntKind} {m n : Int} {v : Value} {φ : Prop} (hi : shOp op k m n = some (v, φ)) (hφ : φ) (t : TypeId) (w : World) :
    (binOp op t (.int k m) (.int k' n)).run P w = .ok v w ∧ v.oneCell' = true ∧ okV v = true := by
  unfold shOp at hi
  split at hi <;> cases hi
  · exact ⟨by simp only [binOp, shift_shl_any k k' m n hφ]; rfl, rfl, rfl⟩
  · exact ⟨by simp only [binOp, shift_shr_any k k' m n hφ]; rfl, rfl, rfl⟩

theorem part_at {t : Nat} {cs : Array Value} {i : Nat} {v : Value} (hd : ∃ d, P.underlying t = some d ∧ aggD d = false) (hv : cs[i]? = some v) (w : World) : (part t cs i).run P w = .ok v w := by
  obtain ⟨d, hd, ha⟩ := hd
  unfold part
  have hagg : (isAgg t).run P w = .ok false w := by
    unfold isAgg
    rw [Sem.run_bind, run_underlying hd w]
    cases d <;> simp_all [aggD]
  rw [Sem.run_bind, hagg]
  simp [hv]
theorem eqFs_sound (w : World) : ∀ (fs : List Field) (i : Nat) (xs ys : List CV) (us vs : List Value) (e : Bool), eqFs P fs i xs ys = some e → All2 (RK I ι) us xs → All2 (RK I ι) vs ys →
    ∀ (U V : Array Value), (∀ (j : Nat) (u : Value), us[j]? = some u → U[i + j]? = some u) → (∀ (j : Nat) (u : Value), vs[j]? = some u → V[i + j]? = some u) → (Op.eqFields 9999 U V fs).run P w = .ok e w
  | [], i, xs, ys, us, vs, e, h, hx, hy, U, V, hU, hV => by
    cases xs with
    | nil => cases ys with
      | nil => simp [eqFs] at h; subst h; simp [Op.eqFields]
      | cons y ys => simp [eqFs] at h
    | cons x xs => cases ys <;> simp [eqFs] at h
  | f :: fs, i, xs, ys, us, vs, e, h, hx, hy, U, V, hU, hV => by
    cases hx with
    | nil => simp [eqFs] at h
    | @cons u x us xs h1 t1 =>
      cases hy with
      | nil => simp [eqFs] at h
      | @cons v y vs ys h2 t2 =>
        simp only [eqFs] at h
        cases hb : f.offset == i && f.name != "_" with
        | false => rw [hb] at h; cases h
        | true =>
          rw [hb] at h
          simp only [cond_true] at h
          simp only [Bool.and_eq_true, beq_iff_eq, bne_iff_ne] at hb
          obtain ⟨ho, hn⟩ := hb
          have hU0 := hU 0 u rfl
          have hV0 := hV 0 v rfl
          simp only [Nat.add_zero] at hU0 hV0
          have ih := fun r hr => eqFs_sound w fs (i + 1) xs ys us vs r hr t1 t2 U V (fun j u hj => by have := hU (j + 1) u (by simpa using hj); rw [← this]; congr 1; omega) (fun j u hj => by have := hV (j + 1) u (by simpa using hj); rw [← this]; congr 1; omega)
          have step : ∀ (d : TypeDesc) (b r : Bool), P.underlying f.type = some d → aggD d = false → (Op.equalIn 9999 f.type u v).run P w = .ok b w → (Op.eqFields 9999 U V fs).run P w = .ok r w → (Op.eqFields 9999 U V (f :: fs)).run P w = .ok (b && r) w := fun d b r hd ha hq hr => by
            simp only [Op.eqFields, if_pos hn, ho]
            rw [Sem.run_bind, part_at ⟨d, hd, ha⟩ hU0 w]
            simp only [Result.andThen_ok]
            rw [Sem.run_bind, part_at ⟨d, hd, ha⟩ hV0 w]
            simp only [Result.andThen_ok]
            rw [Sem.run_bind, hq]
            simp only [Result.andThen_ok]
            cases b
            · simp
            · simpa using hr
          split at h
          · rename_i k0 k a k' b r hd hr
            cases hk : decide (k = k') with
            | false => rw [hk] at h; cases h
            | true =>
              rw [hk] at h
              simp at h; subst h
              have hkk : k = k' := of_decide_eq_true hk
              subst hkk
              have e1 : u = .int k a := by have h' : RC I u (.v (.int k a)) := h1.1; cases h'; rfl
              have e2 : v = .int k b := by have h' : RC I v (.v (.int k b)) := h2.1; cases h'; rfl
              subst e1; subst e2
              exact step _ _ _ hd rfl (run_equalIn_int w 9998 f.type k k0 a b hd) (ih r hr)
          · rename_i a b r hd hr
            simp at h; subst h
            have e1 : u = .string a := by have h' : RC I u (.v (.string a)) := h1.1; cases h'; rfl
            have e2 : v = .string b := by have h' : RC I v (.v (.string b)) := h2.1; cases h'; rfl
            subst e1; subst e2
            exact step _ _ _ hd rfl (run_equalIn_string w 9998 f.type a b hd) (ih r hr)
          · rename_i a b r hd hr
            simp at h; subst h
            have e1 : u = .bool a := by have h' : RC I u (.v (.bool a)) := h1.1; cases h'; rfl
            have e2 : v = .bool b := by have h' : RC I v (.v (.bool b)) := h2.1; cases h'; rfl
            subst e1; subst e2
            exact step _ _ _ hd rfl (run_equalIn_bool' w 9998 f.type a b hd) (ih r hr)
          · cases h
theorem gives_eqSt (h : St E fr hp I ι a w) {op : BinOp} {t yt : TypeId} {x y : Operand} (ho : o.op = .binOp op t x y yt) {xs ys : List CV} (hx : opv fr x = .t (.agg xs)) (hy : opv fr y = .t (.agg ys)) {e : Bool} (he : eqSt P t xs ys = some e) :
    (op = .eql → Gives P I ι a w o (.c (.v (.bool e)))) ∧ (op = .neq → Gives P I ι a w o (.c (.v (.bool (!e))))) := by
  have h1 := opv_sound h x
  have h2 := opv_sound h y
  rw [hx] at h1
  rw [hy] at h2
  obtain ⟨us, hu, hR1⟩ := h1
  obtain ⟨vs, hv, hR2⟩ := h2
  unfold eqSt at he
  split at he
  · rename_i fs hd
    cases hb : !P.stoodInHeld t && !P.eqGuardType P.depth t with
    | false => rw [hb] at he; cases he
    | true =>
      rw [hb] at he
      simp only [cond_true] at he
      simp only [Bool.and_eq_true, Bool.not_eq_true'] at hb
      have hfo : P.fieldsOf t = fs := by simp [Program.fieldsOf, hd]
      have hrun := eqFs_sound w fs.toList 0 xs ys us vs e he hR1 hR2 us.toArray vs.toArray (fun j u hj => by simpa using hj) (fun j u hj => by simpa using hj)
      have heq : (Op.equalIn 10000 t (.agg us.toArray) (.agg vs.toArray)).run P w = .ok e w := by
        rw [show (10000 : Nat) = 9999 + 1 from rfl, run_equalIn_struct w 9999 t _ _ (by rw [hfo]; exact hd) hb.1, hfo]
        exact hrun
      refine ⟨fun q => ?_, fun q => ?_⟩
      · subst q
        refine ⟨_, ?_, RC.v (.bool e) rfl rfl⟩
        simp only [execOp, ho, hu, hv]
        rw [Sem.run_bind, Sem.run_bind, run_eqGuard_agg w _ t x y _ _ hb.2]
        simp only [Result.andThen_ok]
        rw [run_eql_struct, heq]
        rfl
      · subst q
        refine ⟨_, ?_, RC.v (.bool (!e)) rfl rfl⟩
        simp only [execOp, ho, hu, hv]
        rw [Sem.run_bind, Sem.run_bind, run_eqGuard_agg w _ t x y _ _ hb.2]
        simp only [Result.andThen_ok]
        rw [run_neq_struct, heq]
        rfl
  · cases he

/-! ### Calls -/
theorem asTs_sound (h : St E fr hp I ι a w) : ∀ {xs : List Operand} {l : List TV}, asTs fr xs = some l → All2 (RT I ι) (xs.map a.eval) l
  | [], l, e => by simp [asTs] at e; subst e; exact .nil
  | x :: r, l, e => by
    have hx := opv_sound h x
    simp only [asTs] at e
    cases ex : opv fr x with
    | t y =>
      rw [ex] at e hx
      cases e2 : asTs fr r with
      | none => simp [e2] at e
      | some l2 => simp [e2] at e; subst e; exact .cons hx (asTs_sound h e2)
    | tup l => rw [ex] at e; simp at e

theorem capsOf_sound {vs : List Value} : ∀ {l : List TV} {caps : List Cap}, All2 (RT I ι) vs l → capsOf l = some caps → All2 (RCap I ι) vs caps := by
  intro l caps h
  induction h generalizing caps with
  | nil => intro e; simp [capsOf] at e; subst e; exact .nil
  | @cons v y vs l h1 _ ih =>
    intro e
    unfold capsOf at e
    split at e
    · rename_i heq; cases heq
    · rename_i x r heq
      cases heq
      split at e
      · rename_i l2 e2
        simp at e; subst e
        exact .cons h1 (ih e2)
      · cases e
    · rename_i id r heq
      cases heq
      split at e
      · rename_i l2 e2
        simp at e; subst e
        exact .cons h1 (ih e2)
      · cases e
    · cases e
theorem allC_sound {vs : List Value} : ∀ {caps : List Cap} {cs : List C}, All2 (RCap I ι) vs caps → allC caps = some cs → RCs I vs cs := by
  intro caps cs h
  induction h generalizing cs with
  | nil => intro e; simp [allC] at e; subst e; exact .nil
  | @cons v y vs l h1 _ ih =>
    intro e
    unfold allC at e
    split at e
    · rename_i heq; cases heq
    · rename_i x r heq
      cases heq
      split at e
      · rename_i l2 e2
        simp at e; subst e
        exact .cons h1 (ih e2)
      · cases e
    · cases e
theorem fnOf_sound {f : FuncId} {vs : List Value} {caps : List Cap} (h : All2 (RCap I ι) vs caps) : RV I ι (.func (.func f) #[] vs.toArray) (fnOf f caps) := by
  unfold fnOf
  split
  · rename_i cs hc
    have hR := allC_sound h hc
    exact RC.fn f vs cs hR.len fun i x c hx hc => by
      obtain ⟨c', h1, h2⟩ := hR.at' i x hx
      rw [hc] at h1; cases h1; exact h2
  · exact ⟨vs, rfl, h⟩
theorem gives_makeFunc (h : St E fr hp I ι a w) {f : FuncId} {first caps : Array Operand} (ho : o.op = .makeFunc (.func f) first caps) (hf : first.toList = []) {l : List TV} (hl : asTs fr caps.toList = some l) {cs : List Cap} (hc : capsOf l = some cs) :
    Gives P I ι a w o (fnOf f cs) := by
  have hR := capsOf_sound (asTs_sound h hl) hc
  have hf' : first = #[] := by simpa using hf
  refine ⟨.func (.func f) #[] (caps.toList.map a.eval).toArray, ?_, fnOf_sound hR⟩
  have : caps.map a.eval = (caps.toList.map a.eval).toArray := by apply Array.ext'; simp
  simp [execOp, ho, Instr.makeFunc, hf', this]

theorem calleeOf_sound {v : Value} {x : AV} (h : RV I ι v x) {k : FuncId} {caps : List TV} (he : calleeOf x = some (k, caps)) : ∃ vs : List Value, v = .func (.func k) #[] vs.toArray ∧ All2 (RT I ι) vs caps := by
  unfold calleeOf at he
  split at he
  · rename_i f cs
    simp at he; obtain ⟨rfl, rfl⟩ := he
    have h' : RC I v (.fn f cs) := h
    cases h' with
    | fn _ vs _ hl hR =>
      refine ⟨vs, rfl, All2.of (by simpa using hl) fun i x y hx hy => ?_⟩
      rw [List.getElem?_map] at hy
      cases hcap : cs[i]? with
      | none => simp [hcap] at hy
      | some q => simp [hcap] at hy; subst hy; exact hR i x q hx hcap
  · rename_i f caps'
    simp at he; obtain ⟨rfl, rfl⟩ := he
    obtain ⟨vs, h1, h2⟩ := h
    refine ⟨vs, h1, h2.map_ fun a b hr => ?_⟩
    cases b with
    | c x => exact hr
    | own id => exact hr
  · cases he

theorem isD1_ment {x : CV} (h : isD1 x = true) : ment x = [] := by cases x <;> first | rfl | cases h
theorem isDT_ment {x : TV} (h : isDT x = true) : mentT x = [] := by
  cases x with
  | v x => exact isD1_ment h
  | agg l =>
    simp only [mentT, List.flatMap_eq_nil_iff]
    exact fun x hx => isD1_ment (List.all_eq_true.1 h x hx)
theorem isDA_ment {x : AV} (h : isDA x = true) : mentA x = [] := by
  cases x with
  | t x => exact isDT_ment h
  | tup l =>
    simp only [mentA, List.flatMap_eq_nil_iff]
    exact fun x hx => isDT_ment (List.all_eq_true.1 h x hx)

theorem run_callFunc {k : FuncId} {fn : Func} (hfn : P.funcs[k]? = some fn) (hname : (fn.name == "runtime.NumGoroutine") = false) (hbody : fn.body.isNone = false) (args : Array Value) (w : World) :
    (callFunc k args).run P w = .ok (.enter k args) w := by
  unfold callFunc
  rw [Sem.run_bind]
  have : (program.run P w : Result Program) = .ok P w := rfl
  rw [this]
  simp only [Result.andThen_ok, hfn, hname, hbody, Bool.false_eq_true, if_false]
  rfl


/-- The operation is the call. -/
theorem run_callValue (h : St E fr hp I ι a w) {c : Call} (ho : o.op = .call c) {f : Operand} (hc : c.callee = .value f) {k : FuncId} {caps args : List TV} (hf : calleeOf (opv fr f) = some (k, caps)) (ha : asTs fr c.args.toList = some args) (hcal : callable P k) :
    ∃ vs : List Value, (execOp a.eval o).run P w = .ok (.enter k vs.toArray) w ∧ All2 (RT I ι) vs (args ++ caps) := by
  obtain ⟨fn, hfn, hname, hbody⟩ := hcal
  obtain ⟨vs, hv, hR⟩ := calleeOf_sound (opv_sound h f) hf
  refine ⟨c.args.toList.map a.eval ++ vs, ?_, (asTs_sound h ha).append hR⟩
  have hmap : c.args.map a.eval ++ vs.toArray = (c.args.toList.map a.eval ++ vs).toArray := by
    apply Array.ext'
    simp
  simp only [execOp, ho, resolve, hc, hv, Deferred.ofValue]
  rw [Sem.run_bind]
  simp only [Sem.run_pure, Result.andThen_ok, invoke, Array.empty_append]
  rw [run_callFunc hfn hname hbody, hmap]
theorem Ext.imp {L L' : Nat → Prop} {I' : Im} {w' : World} (h : Ext L I w I' w') (k : ∀ B, L B → L' B) : Ext L' I w I' w' :=
  ⟨⟨h.below.os, h.below.tape, h.below.output, h.below.size, fun b hb hn => h.below.block b hb fun q => hn (k b q)⟩, h.le, fun b o v e => (h.new b o v e).imp id (Or.imp id (k b)), h.agr⟩
theorem wp_call (h : St E fr hp I ι a w) {c : Call} (ho : o.op = .call c) {f : Operand} (hc : c.callee = .value f) {k : FuncId} {caps args : List TV} (hf : calleeOf (opv fr f) = some (k, caps)) (ha : asTs fr c.args.toList = some args) {r : AV}
    (hs : Spec P k (args ++ caps) [] r []) (hr : isDA r = true) {next : Act → World → Prop} {Q : Exit → Act → World → Prop}
    (hK : ∀ v I' w', Ext (fun _ => False) I w I' w' → RV I' ι v r → next (a.put o.dst v) w') : o.wp P a w next Q := by
  obtain ⟨vs, hrun, hR⟩ := run_callValue h ho hc hf ha hs.1
  have hC := hs.2 I ι w vs h.agr hR ⟨fun _ _ q => (by cases q), fun _ _ q => (by cases q), fun _ _ _ _ q => (by cases q)⟩
  unfold Oper.wp
  rw [hrun, Oper.upon_enter]
  refine hC.mono fun e w' hE => ?_
  obtain ⟨v, I', ι', rfl, hx, hv, _⟩ := hE
  exact hK v I' w' (hx.imp fun B ⟨id, ob, q, _⟩ => by cases q) (hv.cong (Im.le_refl I') fun id hid => by rw [isDA_ment hr] at hid; cases hid)

theorem RC.cut {A : Option Addr} {c sz l h s : Nat} {xs : List El} {n : Nat} (hx : RC I (.slice A n c) (.sl sz xs)) (hl : l ≤ h) (hh : h ≤ xs.length) (hs : s = sz) :
    n = xs.length ∧ h ≤ c ∧ RC I (sliced A l h c s) (.sl sz ((xs.take h).drop l)) := by
  subst hs
  rcases RC.sl_inv hx with ⟨A', c', hv, hn, h0⟩ | ⟨b, off, c', get, hv, hc, hM, hs', hI, hR⟩
  · subst hn
    simp at hv
    obtain ⟨rfl, rfl, rfl⟩ := hv
    simp at hh
    obtain rfl : h = 0 := by omega
    obtain rfl : l = 0 := by omega
    refine ⟨rfl, Nat.zero_le _, ?_⟩
    simp only [sliced, Nat.sub_zero, List.take_nil, List.drop_nil]
    refine .emp _ _ _ fun q => h0 ?_
    split at q
    · exact q
    · cases A with
      | none => rfl
      | some _ => cases q
  · simp at hv
    obtain ⟨rfl, rfl, rfl⟩ := hv
    refine ⟨rfl, by omega, ?_⟩
    have hlen : ((xs.take h).drop l).length = h - l := by simp; omega
    by_cases e : h = l
    · subst e
      have : (xs.take h).drop h = [] := by apply List.eq_nil_of_length_eq_zero; omega
      rw [this]
      simp only [sliced, Nat.sub_self]
      exact .emp _ _ _ (fun q => by split at q <;> cases q)
    · have hne : ¬ c = l := by omega
      simp only [sliced, if_neg hne, Option.map_some, Addr.add_lit]
      rw [← hlen]
      refine .sl b (off + l * s) (c - l) s _ (fun i j => get (l + i) j) (by omega) (by omega) (fun i e he => ?_) (fun i j hi hj => ?_) (fun i j e x he hx => ?_)
      · rw [List.getElem?_drop, List.getElem?_take] at he
        split at he
        · exact hs' _ _ he
        · cases he
      · have := hI (l + i) j (by omega) hj
        rw [← this]
        congr 1
        rw [Nat.add_mul]; omega
      · rw [List.getElem?_drop, List.getElem?_take] at he
        split at he
        · exact hR _ j e x he hx
        · cases he

theorem run_slice_gen {t e' : Nat} (hd : P.underlying t = some (.slice e')) {i' : TI} (hf : RowFacts P e' i') (A : Option Addr) (n c : Nat) (lo hi : Option Value) (l h : Nat)
    (hlo : (lo = none ∧ l = 0) ∨ ∃ k, lo = some (.int k (l : Int))) (hhi : (hi = none ∧ h = n) ∨ ∃ k, hi = some (.int k (h : Int))) (hlh : l ≤ h) (hc : h ≤ c) (w : World) :
    (Instr.sliceAt t (.slice A n c) lo hi none).run P w = .ok (sliced A l h c i'.size) w := by
  have hel : P.elem t = e' := by simp [Program.elem, hd]
  have hd' : P.underlying t = some (.slice (P.elem t)) := by rw [hel]; exact hd
  rw [run_sliceAt_slice w t _ _ _ _ hd']
  rcases hlo with ⟨rfl, rfl⟩ | ⟨k, rfl⟩ <;> rcases hhi with ⟨rfl, rfl⟩ | ⟨k', rfl⟩
  · rw [run_slice_all w t A _ c hd', hel, run_sizeOf hf w]; rfl
  · rw [run_slice_h w t A n c hd' k' (h : Int) (by omega) (by omega), hel, run_sizeOf hf w]; simp
  · rw [run_slice_l w t A _ c hd' k (l : Int) (by omega) (by omega), hel, run_sizeOf hf w]; simp
  · rw [run_slice_lh w t A n c hd' k k' (l : Int) (h : Int) (by omega) (by omega) (by omega), hel, run_sizeOf hf w]; simp

theorem gives_slice (hX : TabOk P X) (h : St E fr hp I ι a w) {t e' sz' by' : Nat} {zero : List ZK} {x : Operand} {lo hi : Option Operand} (ho : o.op = .slice t x lo hi none)
    (e : tiOf X t = some ⟨.slice e', sz', by', zero⟩) {i' : TI} (he' : tiOf X e' = some i') {sz : Nat} {xs : List El} (hy : opv fr x = .t (.v (.c (.sl sz xs)))) (hsz : sz = i'.size) {l m : Nat}
    (hlo : (lo = none ∧ l = 0) ∨ ∃ k, lo.map a.eval = some (.int k (l : Int))) (hhi : (hi = none ∧ m = xs.length) ∨ ∃ k, hi.map a.eval = some (.int k (m : Int))) (h1 : l ≤ m) (h2 : m ≤ xs.length) : Gives P I ι a w o (.t (.v (.c (.sl sz ((xs.take m).drop l))))) := by
  have hx := opv_sound h x
  rw [hy] at hx
  obtain ⟨_, _, hk⟩ := hX.facts e
  have hd := kOk_slice hk
  obtain ⟨A, n, c, hv⟩ : ∃ A n c, a.eval x = .slice A n c := by
    rcases RC.sl_inv (show RC I _ (.sl sz xs) from hx) with ⟨A, c, hv, _⟩ | ⟨b, off, c, _, hv, _⟩ <;> exact ⟨_, _, _, hv⟩
  rw [hv] at hx
  obtain ⟨rfl, hc, hR⟩ := RC.cut (show RC I _ (.sl sz xs) from hx) h1 h2 (s := i'.size) hsz.symm
  refine ⟨_, ?_, hR⟩
  simp only [execOp, ho, hv, Option.map_none]
  rw [Sem.run_bind, run_slice_gen hd (hX.facts he') A _ c _ _ l m (hlo.imp (fun ⟨q, r⟩ => ⟨by rw [q]; rfl, r⟩) id) (hhi.imp (fun ⟨q, r⟩ => ⟨by rw [q]; rfl, r⟩) id) h1 hc w]
  rfl

theorem gives_sliceNil (hX : TabOk P X) (h : St E fr hp I ι a w) {t e' sz' by' : Nat} {zero : List ZK} {x : Operand} {lo hi : Option Operand} (ho : o.op = .slice t x lo hi none)
    (e : tiOf X t = some ⟨.slice e', sz', by', zero⟩) {i' : TI} (he' : tiOf X e' = some i') (hy : opv fr x = .t (.v (.c .nil)))
    (hlo : (lo = none ∧ (0 : Nat) = 0) ∨ ∃ k, lo.map a.eval = some (.int k ((0 : Nat) : Int))) (hhi : (hi = none ∧ (0 : Nat) = 0) ∨ ∃ k, hi.map a.eval = some (.int k ((0 : Nat) : Int))) : Gives P I ι a w o (.c .nil) := by
  have hx := opv_sound h x
  rw [hy] at hx
  obtain ⟨_, _, hk⟩ := hX.facts e
  have hd := kOk_slice hk
  have hv : a.eval x = .slice none 0 0 := by
    have hx' : RC I (a.eval x) .nil := hx
    generalize a.eval x = q at hx'
    cases hx'; rfl
  refine ⟨.slice none 0 0, ?_, RC.nil⟩
  simp only [execOp, ho, hv, Option.map_none]
  rw [Sem.run_bind, run_slice_gen hd (hX.facts he') none 0 0 _ _ 0 0 (hlo.imp (fun ⟨q, r⟩ => ⟨by rw [q]; rfl, r⟩) id) (hhi.imp (fun ⟨q, r⟩ => ⟨by rw [q]; rfl, r⟩) id) (Nat.le_refl _) (Nat.le_refl _) w]
  rfl

theorem gives_sliceStr (hX : TabOk P X) (h : St E fr hp I ι a w) {t sz' by' : Nat} {zero : List ZK} {x : Operand} {lo hi : Option Operand} (ho : o.op = .slice t x lo hi none)
    (e : tiOf X t = some ⟨.str, sz', by', zero⟩) {s : ByteArray} (hy : opv fr x = .t (.v (.c (.v (.string s))))) {l m : Nat}
    (hlo : (lo = none ∧ l = 0) ∨ ∃ k, lo.map a.eval = some (.int k (l : Int))) (hhi : (hi = none ∧ m = s.size) ∨ ∃ k, hi.map a.eval = some (.int k (m : Int))) (h1 : l ≤ m) (h2 : m ≤ s.size) : Gives P I ι a w o (.c (.v (.string (s.extract l m)))) := by
  obtain ⟨_, _, hk⟩ := hX.facts e
  have hd := kOk_str hk
  have hx := opv_sound h x
  rw [hy] at hx
  have hsz : okV (.string s) = true := by
    have hx' : RC I (a.eval x) (.v (.string s)) := hx
    generalize a.eval x = u at hx'
    cases hx'; assumption
  refine ⟨_, ?_, RC.v _ rfl (by
    simp only [okV] at hsz ⊢
    have := Nat.le_of_ble_eq_true hsz
    refine Nat.ble_eq_true_of_le ?_
    rw [ByteArray.size_extract]; omega)⟩
  simp only [execOp, ho, eval_v h hy, Option.map_none]
  have hsb : (Instr.sliceBounds false s.size s.size (lo.map a.eval) (hi.map a.eval) none).run P w = .ok (l, m, s.size) w := by
    rcases hlo with ⟨rfl, rfl⟩ | ⟨k, hk⟩ <;> rcases hhi with ⟨rfl, rfl⟩ | ⟨k', hk'⟩
    · simp [Instr.sliceBounds]
    · simp [Instr.sliceBounds, hk', Instr.sliceBound, asIntOf, h2]
    · simp [Instr.sliceBounds, hk, Instr.sliceBound, asIntOf, h1, h2]
    · simp [Instr.sliceBounds, hk, hk', Instr.sliceBound, asIntOf, h1, h2]
  rw [Sem.run_bind, run_sliceAt_string w t _ _ _ _ hd]
  simp [Instr.slice, run_underlying hd, hsb]


theorem boundQ_lo (h : St E fr hp I ι a w) {lo : Option Operand} {l : Int} (hl : boundQ fr 0 lo = some l) (h0 : 0 ≤ l) : (lo = none ∧ l.toNat = 0) ∨ ∃ k, lo.map a.eval = some (.int k (l.toNat : Int)) := by
  unfold boundQ at hl
  split at hl
  · simp at hl; exact .inl ⟨rfl, by omega⟩
  · rename_i y
    split at hl
    · rename_i k l' hy
      simp at hl; subst hl
      refine .inr ⟨k, ?_⟩
      have : ((l'.toNat : Nat) : Int) = l' := by omega
      simp [eval_v h hy, this]
    · cases hl
theorem boundQ_hi (h : St E fr hp I ι a w) {n : Nat} {hi : Option Operand} {m : Int} (hl : boundQ fr n hi = some m) (h0 : 0 ≤ m) : (hi = none ∧ m.toNat = n) ∨ ∃ k, hi.map a.eval = some (.int k (m.toNat : Int)) := by
  unfold boundQ at hl
  split at hl
  · simp at hl; exact .inl ⟨rfl, by omega⟩
  · rename_i y
    split at hl
    · rename_i k l' hy
      simp at hl; subst hl
      refine .inr ⟨k, ?_⟩
      have : ((l'.toNat : Nat) : Int) = l' := by omega
      simp [eval_v h hy, this]
    · cases hl

theorem gives_sliceOwn (hX : TabOk P X) (h : St E fr hp I ι a w) {t e' sz' by' : Nat} {zero : List ZK} {x : Operand} {lo hi : Option Operand} (ho : o.op = .slice t x lo hi none)
    (e : tiOf X t = some ⟨.slice e', sz', by', zero⟩) {i' : TI} (he' : tiOf X e' = some i') {id : Nat} (hy : opv fr x = .t (.v (.rt id))) {e2 sz n : Nat} {vals : List Value} (q1 : w.ownsRow 0 e2 sz (ι id) n vals) {l m : Nat}
    (hlo : (lo = none ∧ l = 0) ∨ ∃ k, lo.map a.eval = some (.int k (l : Int))) (hhi : (hi = none ∧ m = n) ∨ ∃ k, hi.map a.eval = some (.int k (m : Int))) (h1 : l ≤ m) (h2 : m ≤ n) : Gives P I ι a w o (.t (.v (.sub i'.size id l (m - l)))) := by
  have hx := opv_sound h x
  rw [hy] at hx
  obtain ⟨_, _, hk⟩ := hX.facts e
  have hd := kOk_slice hk
  obtain ⟨A, c, hv, hc⟩ : ∃ A c, ι id = .slice A n c ∧ m ≤ c := by
    rcases q1.2 with ⟨q, hn⟩ | ⟨g, cap', cur, q, _, _, hnc, _⟩
    · exact ⟨none, 0, by rw [hn]; exact q, by omega⟩
    · exact ⟨_, cap', q, by omega⟩
  have hvx : a.eval x = ι id := hx.1
  rw [hv] at hvx
  refine ⟨_, ?_, A, n, c, hv, by omega, rfl⟩
  simp only [execOp, ho, hvx, Option.map_none]
  rw [Sem.run_bind, run_slice_gen hd (hX.facts he') A _ c _ _ l m (hlo.imp (fun ⟨q, r⟩ => ⟨by rw [q]; rfl, r⟩) (fun q => q)) (hhi.imp (fun ⟨q, r⟩ => ⟨by rw [q]; rfl, r⟩) (fun q => q)) h1 hc w]
  have : l + (m - l) = m := by omega
  rw [this]
  rfl

theorem gives_extract (h : St E fr hp I ι a w) {x : Operand} {i : Nat} (ho : o.op = .extract x i) {l : List TV} (hx : opv fr x = .tup l) {y : TV} (hy : l[i]? = some y) : Gives P I ι a w o (.t y) := by
  have hv := opv_sound h x
  rw [hx] at hv
  obtain ⟨vs, h1, h2⟩ := hv
  obtain ⟨v, hv, hR⟩ := h2.at i y hy
  refine ⟨v, ?_, hR⟩
  simp only [execOp, ho, h1, Instr.extract]
  have : (vs.toArray)[i]? = some v := by simpa using hv
  simp [this]

theorem gives_len {c : Call} {x : Operand} {t : TypeId} (ho : o.op = .call c) (hc : c.callee = .builtin .len) (ha : c.args.toList = [x]) (ht : c.argTypes.toList = [t]) {n : Nat}
    (hrun : ∀ ty w, (Builtin.len_ #[t] ty #[a.eval x]).run P w = .ok (.int .i64 (n : Int)) w) : Gives P I ι a w o (.c (.v (.int .i64 (n : Int)))) := by
  refine ⟨_, ?_, RC.v _ rfl rfl⟩
  have h1 : c.args = #[x] := by rw [← Array.toArray_toList (xs := c.args), ha]
  have h2 : c.argTypes = #[t] := by rw [← Array.toArray_toList (xs := c.argTypes), ht]
  simp only [execOp, ho, resolve, hc, h1, h2]
  rw [Sem.run_bind]
  simp only [Sem.run_pure, Result.andThen_ok, invoke, builtin]
  rw [Sem.run_bind]
  have h3 : (#[x] : Array Operand).map a.eval = #[a.eval x] := by simp
  rw [h3, hrun]
  rfl
theorem gives_sliceData (h : St E fr hp I ι a w) {c : Call} {x : Operand} (ho : o.op = .call c) (hc : c.callee = .builtin .unsafeSliceData) (ha : c.args.toList = [x]) {id e sz : Nat} {xs : List El} (hx : opv fr x = .t (.v (.rt id))) (hg : getO hp id = some (.row e sz xs)) (h0 : 0 < xs.length) :
    Gives P I ι a w o (.t (.v (.el sz id 0 0))) := by
  have hxv := opv_sound h x
  rw [hx] at hxv
  obtain ⟨hxe, _⟩ := hxv
  obtain ⟨_, _, hs⟩ := row_len (h.rel.obj _ _ hg)
  obtain ⟨B, cp, hv⟩ := hs h0
  have hcp : cp ≠ 0 := by
    obtain ⟨vals, q1, _⟩ := h.rel.obj _ _ hg
    rcases q1.2 with ⟨r, hn⟩ | ⟨g, cap, cur, r, _, _, hnc, _⟩
    · omega
    · rw [hv] at r
      simp at r
      omega
  refine ⟨.pointer (some ⟨B, 0, none⟩), ?_, B, xs.length, cp, hv, by simp⟩
  have h1 : c.args = #[x] := by rw [← Array.toArray_toList (xs := c.args), ha]
  simp only [execOp, ho, resolve, hc, h1]
  rw [Sem.run_bind]
  simp only [Sem.run_pure, Result.andThen_ok, invoke, builtin]
  rw [Sem.run_bind]
  have h3 : (#[x] : Array Operand).map a.eval = #[a.eval x] := by simp
  rw [h3, hxe, hv, Lib.run_unsafeSliceData_row w _ _ _ _ _ hcp]
  rfl
theorem eval_nil (h : St E fr hp I ι a w) {x : Operand} (hx : opv fr x = .t (.v (.c .nil))) : a.eval x = .slice none 0 0 := by
  have h1 := opv_sound h x
  rw [hx] at h1
  have h2 : RC I (a.eval x) .nil := h1
  generalize a.eval x = q at h2
  cases h2; rfl
theorem gives_cap {c : Call} {x : Operand} {t : TypeId} (ho : o.op = .call c) (hc : c.callee = .builtin .cap) (ha : c.args.toList = [x]) (ht : c.argTypes.toList = [t]) {n : Nat}
    (hrun : ∀ ty w, (Builtin.cap_ #[t] ty #[a.eval x]).run P w = .ok (.int .i64 (n : Int)) w) : Gives P I ι a w o (.c (.v (.int .i64 (n : Int)))) := by
  refine ⟨_, ?_, RC.v _ rfl rfl⟩
  have h1 : c.args = #[x] := by rw [← Array.toArray_toList (xs := c.args), ha]
  have h2 : c.argTypes = #[t] := by rw [← Array.toArray_toList (xs := c.argTypes), ht]
  simp only [execOp, ho, resolve, hc, h1, h2]
  rw [Sem.run_bind]
  simp only [Sem.run_pure, Result.andThen_ok, invoke, builtin]
  rw [Sem.run_bind]
  have h3 : (#[x] : Array Operand).map a.eval = #[a.eval x] := by simp
  rw [h3, hrun]
  rfl
theorem gives_nilEq (hX : TabOk P X) {op : BinOp} {t yt : TypeId} {x y : Operand} (ho : o.op = .binOp op t x y yt) {e' sz' by' : Nat} {zero : List ZK} (e : tiOf X t = some ⟨.slice e', sz', by', zero⟩) {A : Option Addr} {n c : Nat} (hx : a.eval x = .slice A n c) (hy : a.eval y = .slice none 0 0)
    {b : Bool} (hb : op = .eql ∧ b = A.isNone ∨ op = .neq ∧ b = !A.isNone) : Gives P I ι a w o (.c (.v (.bool b))) := by
  obtain ⟨_, _, hk⟩ := hX.facts e
  have hd := kOk_slice hk
  refine ⟨.bool b, ?_, RC.v _ rfl rfl⟩
  simp only [execOp, ho, hx, hy]
  rw [Sem.run_bind, Sem.run_bind, eqGuard_at_slice]
  have hq := fun w => Lib.run_equalIn_slice_nil (P := P) w 9999 t e' A n c 0 0 hd
  rcases hb with ⟨rfl, rfl⟩ | ⟨rfl, rfl⟩ <;> simp [binOp, Op.equal, Op.maxDepth, hq]
theorem gives_mn {c : Call} {x y : Operand} {mi : Bool} (ho : o.op = .call c) (hc : c.callee = .builtin (bif mi then .min else .max)) (ha : c.args.toList = [x, y]) {k k' : IntKind} {m n : Int} (hx : a.eval x = .int k m) (hy : a.eval y = .int k' n) : Gives P I ι a w o (.c (.v (.int k (bif mi then mn m n else mx m n)))) := by
  refine ⟨_, ?_, RC.v _ rfl rfl⟩
  have h1 : c.args = #[x, y] := by rw [← Array.toArray_toList (xs := c.args), ha]
  simp only [execOp, ho, resolve, hc, h1]
  rw [Sem.run_bind]
  simp only [Sem.run_pure, Result.andThen_ok, invoke]
  have h3 : (#[x, y] : Array Operand).map a.eval = #[.int k m, .int k' n] := by simp [hx, hy]
  rw [h3]
  cases mi <;> rfl
theorem run_len_sl (hX : TabOk P X) {t e' sz' by' : Nat} {zero : List ZK} (e : tiOf X t = some ⟨.slice e', sz', by', zero⟩) (A : Option Addr) (n c : Nat) : ∀ ty w, (Builtin.len_ #[t] ty #[.slice A n c]).run P w = .ok (.int .i64 (n : Int)) w := fun ty w => by
  obtain ⟨_, _, hk⟩ := hX.facts e
  simp [Builtin.len_, run_underlying (kOk_slice hk), goInt]
theorem run_len_str (hX : TabOk P X) {t sz' by' : Nat} {zero : List ZK} (e : tiOf X t = some ⟨.str, sz', by', zero⟩) (s : ByteArray) : ∀ ty w, (Builtin.len_ #[t] ty #[.string s]).run P w = .ok (.int .i64 (s.size : Int)) w := fun ty w => by
  obtain ⟨_, _, hk⟩ := hX.facts e
  simp [Builtin.len_, run_underlying (kOk_str hk), goInt]


theorem run_equal_bool {t : TypeId} (hd : P.underlying t = some .bool) (m n : Bool) (w : World) : (Op.equal t (.bool m) (.bool n)).run P w = .ok (m == n) w := by
  show (Op.equalIn (9999 + 1) t (.bool m) (.bool n)).run P w = _
  unfold Op.equalIn
  rw [Sem.run_bind, run_underlying hd w]
  rfl
theorem run_eql_bool {t : TypeId} (hd : P.underlying t = some .bool) (m n : Bool) (w : World) : (binOp .eql t (.bool m) (.bool n)).run P w = .ok (.bool (m == n)) w := by
  show ((do pure (.bool (← Op.equal t (.bool m) (.bool n))) : Sem Value)).run P w = _
  rw [Sem.run_bind, run_equal_bool hd]
  rfl
theorem run_neq_bool {t : TypeId} (hd : P.underlying t = some .bool) (m n : Bool) (w : World) : (binOp .neq t (.bool m) (.bool n)).run P w = .ok (.bool (!(m == n))) w := by
  show ((do pure (.bool (!(← Op.equal t (.bool m) (.bool n)))) : Sem Value)).run P w = _
  rw [Sem.run_bind, run_equal_bool hd]
  rfl


/-! ### Maps -/
theorem allV_sound : ∀ {l : List CV} {us vs : List Value}, All2 (RK I ι) vs l → allV l = some us → vs = us
  | _, us, _, .nil, e => by simp [allV] at e; exact e.symm
  | _, us, _, .cons (a := v) (b := x) (l := l) (m := m) h t, e => by
    unfold allV at e
    split at e
    · rename_i heq; cases heq
    · rename_i y r heq
      cases heq
      split at e
      · rename_i l2 e2
        simp at e; subst e
        rw [allV_sound t e2]
        congr 1
        have := h.1
        have h' : RC I v (.v y) := this
        cases h'; rfl
      · cases e
    · cases e
theorem keyVal_sound {v u : Value} {x : AV} (h : RV I ι v x) (he : keyVal x = some u) : v = u := by
  unfold keyVal at he
  split at he
  · simp at he; subst he
    exact RV.v_inv h
  · split at he
    · rename_i vs e
      simp at he; subst he
      obtain ⟨ws, h1, h2⟩ := h
      rw [h1, allV_sound h2 e]
    · cases he
  · cases he
theorem allV_ok : ∀ {l : List CV} {us vs : List Value}, All2 (RK I ι) vs l → allV l = some us → us.all okV = true
  | _, us, _, .nil, e => by simp [allV] at e; subst e; rfl
  | _, us, _, .cons (a := v) (b := x) (l := l) (m := m) h t, e => by
    unfold allV at e
    split at e
    · rename_i heq; cases heq
    · rename_i y r heq
      cases heq
      split at e
      · rename_i l2 e2
        simp at e; subst e
        have h' : RC I v (.v y) := h.1
        cases h' with
        | v _ _ hw => simp only [List.all_cons, hw, allV_ok t e2, Bool.and_self]
      · cases e
    · cases e
theorem keyVal_ok {v u : Value} {x : AV} (h : RV I ι v x) (he : keyVal x = some u) : okKV u = true := by
  unfold keyVal at he
  split at he
  · simp at he; subst he
    rename_i y
    have h' : RC I v (.v y) := h
    cases h' with
    | v _ h1 hw => cases v <;> first | exact hw | cases h1
  · split at he
    · rename_i vs e
      simp at he; subst he
      obtain ⟨ws, h1, h2⟩ := h
      simpa [okKV] using allV_ok h2 e
    · cases he
  · cases he
theorem dvT_sound {v : Value} {d : DV} (h : RD I v d) : RT I ι v (dvT d) := by
  cases d with
  | v x => exact h
  | agg l => obtain ⟨vs, h1, h2⟩ := h; exact ⟨vs, h1, h2.asK ι⟩
theorem cells_nonagg {v : Value} (h : isAggV v = false) : v.cells = #[v] := by cases v <;> first | rfl | cases h
theorem zeroT_sound (hX : TabOk P X) {t : Nat} {z : TV} (he : zeroT X t = some z) (w : World) : ∃ v, (zeroValue t).run P w = .ok v w ∧ RT I ι v z := by
  unfold zeroT at he
  split at he
  · rename_i i e
    obtain ⟨⟨j, hj, _, _, zv, hz, hz2, _, hz4⟩, _, hk⟩ := hX.facts e
    have hzc := zero_cells hz2 I
    refine ⟨zv, by simp [zeroValue, typeInfo, hj, hz], ?_⟩
    have hagg := isAggT_eq e
    split at he
    · rename_i l ha
      simp at he; subst he
      rw [← hagg, ha] at hz4
      cases zv <;> first | cases hz4 | skip
      rename_i cs
      have := RCs.asK hzc ι
      rw [List.map_map] at this
      exact ⟨cs.toList, by simp, this⟩
    · rename_i z' ha hzl
      simp at he; subst he
      rw [← hagg, ha] at hz4
      rw [cells_nonagg hz4, hzl] at hzc
      simp only [List.map_cons, List.map_nil] at hzc
      cases hzc with
      | cons h1 _ => exact h1
    · cases he
  · cases he

theorem look_some {es : List (Value × DV)} {k : Value} {d : DV} (h : look es k = some d) : (k, d) ∈ es := by
  classical
  unfold look at h
  rw [Option.map_eq_some_iff] at h
  obtain ⟨q, hq, rfl⟩ := h
  have h1 := List.mem_of_find?_eq_some hq
  have h2 := List.find?_some hq
  simp at h2
  subst h2
  exact h1
theorem look_none {es : List (Value × DV)} {k : Value} (h : look es k = none) : ∀ q ∈ es, q.1 ≠ k := by
  classical
  unfold look at h
  rw [Option.map_eq_none_iff, List.find?_eq_none] at h
  intro q hq e
  exact h q hq (by simp [e])
theorem map_ents {ents : List MapEntry} {es : List (Value × DV)} (h : All2 (fun (en : MapEntry) (q : Value × DV) => en.key = q.1 ∧ RD I en.val q.2) ents es) : ents.map (·.key) = es.map (·.1) := by
  induction h with
  | nil => rfl
  | cons h1 _ ih => simp [ih, h1.1]
theorem nodup_key {es : List (Value × DV)} (h : (es.map (·.1)).Nodup) {p q : Value × DV} (hp : p ∈ es) (hq : q ∈ es) (e : p.1 = q.1) : p = q := by
  induction es with
  | nil => cases hp
  | cons x r ih =>
    simp only [List.map_cons, List.nodup_cons] at h
    rcases List.mem_cons.1 hp with rfl | hp'
    · rcases List.mem_cons.1 hq with rfl | hq'
      · rfl
      · exact (h.1 (by rw [e]; exact List.mem_map.2 ⟨q, hq', rfl⟩)).elim
    · rcases List.mem_cons.1 hq with rfl | hq'
      · exact (h.1 (by rw [← e]; exact List.mem_map.2 ⟨p, hp', rfl⟩)).elim
      · exact ih h.2 hp' hq'

/-- A key is looked for. -/
theorem find_keyR {R : MapEntry → DV → Prop} {k : Nat} (K : Maps.Keyed P k) {ents : Array MapEntry} {es : List (Value × DV)} (hR : All2 (fun (en : MapEntry) (q : Value × DV) => en.key = q.1 ∧ R en q.2) ents.toList es) (hn : (es.map (·.1)).Nodup) (hall : ∀ q ∈ es, keys P k q.1) {x : Value} (hx : keys P k x) (w : World) :
    (look es x = none ∧ (Instr.findKey k x ents.toList).run P w = .ok none w) ∨
    ∃ (j : Nat) (en : MapEntry) (d : DV), look es x = some d ∧ (Instr.findKey k x ents.toList).run P w = .ok (some (j, en.val)) w ∧ ents.toList[j]? = some en ∧ en.key = x ∧ R en d ∧ es[j]? = some (x, d) := by
  obtain ⟨lx, hlx⟩ := hx
  have hall' : ∀ en ∈ ents.toList, ∃ l, keyOf P k en.key = some l := fun en hen => by
    obtain ⟨i, hi⟩ := List.mem_iff_getElem?.1 hen
    obtain ⟨q, hq, hr⟩ := hR.at' i en hi
    rw [hr.1]; exact hall q (List.mem_of_getElem? hq)
  rcases K.find w hlx ents.toList hall' with ⟨h1, h2⟩ | ⟨j, en, h1, h2, h3⟩
  · left
    refine ⟨?_, h1⟩
    cases hl : look es x with
    | none => rfl
    | some d =>
      obtain ⟨i, hi⟩ := List.mem_iff_getElem?.1 (look_some hl)
      obtain ⟨en, hen, hr⟩ := hR.at i _ hi
      exact (h2 en (List.mem_of_getElem? hen) hr.1).elim
  · right
    obtain ⟨q, hq, hr⟩ := hR.at' j en h2
    have hqx : q.1 = x := by rw [← hr.1, h3]
    cases hl : look es x with
    | none => exact (look_none hl q (List.mem_of_getElem? hq) hqx).elim
    | some d =>
      have : q = (x, d) := nodup_key hn (List.mem_of_getElem? hq) (look_some hl) hqx
      subst this
      exact ⟨j, en, d, rfl, h1, h2, h3, hr.2, hq⟩
theorem find_key {k : Nat} (K : Maps.Keyed P k) {ents : Array MapEntry} {es : List (Value × DV)} (hR : All2 (fun (en : MapEntry) (q : Value × DV) => en.key = q.1 ∧ RD I en.val q.2) ents.toList es) (hn : (es.map (·.1)).Nodup) (hall : ∀ q ∈ es, keys P k q.1) {x : Value} (hx : keys P k x) (w : World) :
    (look es x = none ∧ (Instr.findKey k x ents.toList).run P w = .ok none w) ∨
    ∃ (j : Nat) (en : MapEntry) (d : DV), look es x = some d ∧ (Instr.findKey k x ents.toList).run P w = .ok (some (j, en.val)) w ∧ ents.toList[j]? = some en ∧ en.key = x ∧ RD I en.val d ∧ es[j]? = some (x, d) :=
  find_keyR (R := fun en d => RD I en.val d) K hR hn hall hx w

theorem gives_lookup (hX : TabOk P X) (h : St E fr hp I ι a w) {t k e sz' by' : Nat} {zero : List ZK} {m x : Operand} {ok : Bool} (ho : o.op = .lookup t m x ok)
    (et : tiOf X t = some ⟨.map k e, sz', by', zero⟩) {kv : Value} (hkv : keyVal (opv fr x) = some kv) {id : Nat} (hm : opv fr m = .t (.v (.rt id))) {kp : Value → Prop} {es : List (Value × DV)} (hg : getO hp id = some (.map kp es))
    (K : Maps.Keyed P k) (hkp : kp = keys P k) (hk : keys P k kv) : (∀ d, look es kv = some d → Gives P I ι a w o (lookR ok (dvT d) true)) ∧ (look es kv = none → ∀ z, zeroT X e = some z → Gives P I ι a w o (lookR ok z false)) := by
  subst hkp
  obtain ⟨_, _, hkk⟩ := hX.facts et
  have hd := kOk_map hkk
  have hxv := keyVal_sound (opv_sound h x) hkv
  have hmv := opv_sound h m
  rw [hm] at hmv
  obtain ⟨B, ents, clock, h1, h2, h3, h4, h5⟩ := h.rel.obj _ _ hg
  have hmv' : a.eval m = .map (some B) := hmv.1.trans h1
  obtain ⟨lk, hlk⟩ := hk
  have hck := fun em => K.check w em hlk
  have hgo : (getObj B).run P w = .ok (.map ents clock) w := by simp [getObj, Sem.run, h2]
  have hrun1 : ∀ (j : Nat) (v : Value), (Instr.findKey k kv ents.toList).run P w = .ok (some (j, v)) w → (Instr.lookup t (.map (some B)) kv ok).run P w = .ok (if ok = true then .tuple #[v, .bool true] else v) w := fun j v hf => by
    unfold Instr.lookup
    rw [Sem.run_bind, run_underlying hd w]
    simp only [Result.andThen_ok, Sem.run_bind, hgo, hck, hf, Sem.run_pure]
  have hrun2 : ∀ (v : Value), (Instr.findKey k kv ents.toList).run P w = .ok none w → (zeroValue e).run P w = .ok v w → (Instr.lookup t (.map (some B)) kv ok).run P w = .ok (if ok = true then .tuple #[v, .bool false] else v) w := fun v hf hz => by
    unfold Instr.lookup
    rw [Sem.run_bind, run_underlying hd w]
    simp only [Result.andThen_ok, Sem.run_bind, hgo, hck, hf, hz, Sem.run_pure]
  have hfin : ∀ (v : Value) (b : Bool) (y : TV), (Instr.lookup t (.map (some B)) kv ok).run P w = .ok (if ok = true then .tuple #[v, .bool b] else v) w → RT I ι v y → Gives P I ι a w o (lookR ok y b) := fun v b y hr hy => by
    refine ⟨(if ok = true then .tuple #[v, .bool b] else v), ?_, ?_⟩
    · simp only [execOp, ho, hmv', hxv]
      rw [Sem.run_bind, hr]
      rfl
    · cases ok with
      | true => exact ⟨[v, .bool b], rfl, .cons hy (.cons (RC.v _ rfl rfl) .nil)⟩
      | false => exact hy
  refine ⟨fun d hd' => ?_, fun hn z hz => ?_⟩
  · rcases find_key K h3 h4 h5 ⟨lk, hlk⟩ w with ⟨q, _⟩ | ⟨j, en, d', q1, q2, q3, q4, q5, _⟩
    · rw [q] at hd'; cases hd'
    · rw [q1] at hd'; cases hd'
      exact hfin en.val true _ (hrun1 _ _ q2) (dvT_sound q5)
  · rcases find_key K h3 h4 h5 ⟨lk, hlk⟩ w with ⟨_, q⟩ | ⟨j, en, d', q1, _⟩
    · obtain ⟨zv, hz1, hz2⟩ := zeroT_sound (P := P) (I := I) (ι := ι) hX hz w
      exact hfin zv false _ (hrun2 _ q hz1) hz2
    · rw [hn] at q1; cases q1

theorem gives_lookupN (hX : TabOk P X) (h : St E fr hp I ι a w) {t k e sz' by' : Nat} {zero : List ZK} {m x : Operand} {ok : Bool} (ho : o.op = .lookup t m x ok)
    (et : tiOf X t = some ⟨.map k e, sz', by', zero⟩) {kv : Value} (hkv : keyVal (opv fr x) = some kv) {id : Nat} (hm : opv fr m = .t (.v (.rt id))) {kp : Value → Prop} {e2 sz2 : Nat} {hole : Option (Value × Nat)} {es : List (Value × DV)} (hg : getO hp id = some (.nmap kp e2 sz2 hole es))
    (K : Maps.Keyed P k) (hkp : kp = keys P k) (hk : keys P k kv) : (∀ d, hole = some (kv, d) → Gives P I ι a w o (lookR ok (.v (.rt d)) true)) ∧ (look es kv = none → ∀ z, zeroT X e = some z → Gives P I ι a w o (lookR ok z false)) := by
  subst hkp
  obtain ⟨_, _, hkk⟩ := hX.facts et
  have hd := kOk_map hkk
  have hxv := keyVal_sound (opv_sound h x) hkv
  have hmv := opv_sound h m
  rw [hm] at hmv
  obtain ⟨⟨B, ents, clock, h1, h2, h3, h4, h5, h6⟩, _⟩ := h.rel.obj _ _ hg
  have hmv' : a.eval m = .map (some B) := hmv.1.trans h1
  obtain ⟨lk, hlk⟩ := hk
  have hck := fun em => K.check w em hlk
  have hgo : (getObj B).run P w = .ok (.map ents clock) w := by simp [getObj, Sem.run, h2]
  have hrun1 : ∀ (j : Nat) (v : Value), (Instr.findKey k kv ents.toList).run P w = .ok (some (j, v)) w → (Instr.lookup t (.map (some B)) kv ok).run P w = .ok (if ok = true then .tuple #[v, .bool true] else v) w := fun j v hf => by
    unfold Instr.lookup
    rw [Sem.run_bind, run_underlying hd w]
    simp only [Result.andThen_ok, Sem.run_bind, hgo, hck, hf, Sem.run_pure]
  have hrun2 : ∀ (v : Value), (Instr.findKey k kv ents.toList).run P w = .ok none w → (zeroValue e).run P w = .ok v w → (Instr.lookup t (.map (some B)) kv ok).run P w = .ok (if ok = true then .tuple #[v, .bool false] else v) w := fun v hf hz => by
    unfold Instr.lookup
    rw [Sem.run_bind, run_underlying hd w]
    simp only [Result.andThen_ok, Sem.run_bind, hgo, hck, hf, hz, Sem.run_pure]
  have hfin : ∀ (v : Value) (b : Bool) (y : TV), (Instr.lookup t (.map (some B)) kv ok).run P w = .ok (if ok = true then .tuple #[v, .bool b] else v) w → RT I ι v y → Gives P I ι a w o (lookR ok y b) := fun v b y hr hy => by
    refine ⟨(if ok = true then .tuple #[v, .bool b] else v), ?_, ?_⟩
    · simp only [execOp, ho, hmv', hxv]
      rw [Sem.run_bind, hr]
      rfl
    · cases ok with
      | true => exact ⟨[v, .bool b], rfl, .cons hy (.cons (RC.v _ rfl rfl) .nil)⟩
      | false => exact hy
  refine ⟨fun d hd' => ?_, fun hn z hz => ?_⟩
  · obtain ⟨en0, hen0, hk0, hv0, hone⟩ := h6 kv d hd'
    rcases find_keyR (R := fun en d => (∀ d', hole ≠ some (en.key, d')) → ∃ ys, d = .v (.sl sz2 ys) ∧ RRow I w en.val e2 sz2 ys) K h3 h4 h5 ⟨lk, hlk⟩ w with ⟨q, _⟩ | ⟨j, en, d', q1, q2, q3, q4, q5, q6⟩
    · obtain ⟨i, hi⟩ := List.mem_iff_getElem?.1 hen0
      obtain ⟨p, hp, hr⟩ := h3.at' i en0 hi
      exact (look_none q p (List.mem_of_getElem? hp) (by rw [← hr.1, hk0])).elim
    · have he : en.val = ι d := by
        obtain ⟨i, hi⟩ := List.mem_iff_getElem?.1 hen0
        obtain ⟨p, hp, hr⟩ := h3.at' i en0 hi
        have hpk : p.1 = kv := by rw [← hr.1, hk0]
        have hp' : p = (kv, d') := nodup_key h4 (List.mem_of_getElem? hp) (List.mem_of_getElem? q6) hpk
        subst hp'
        have hij : i = j := by
          have hlt := (List.getElem?_eq_some_iff.1 hp).1
          have hlt2 := (List.getElem?_eq_some_iff.1 q6).1
          have e1 : (es.map (·.1))[i]'(by simpa using hlt) = kv := by simp [(List.getElem?_eq_some_iff.1 hp).2]
          have e2 : (es.map (·.1))[j]'(by simpa using hlt2) = kv := by simp [(List.getElem?_eq_some_iff.1 q6).2]
          have hpw := List.pairwise_iff_getElem.1 h4
          rcases Nat.lt_trichotomy i j with hl | hl | hl
          · exact (hpw i j (by simpa using hlt) (by simpa using hlt2) hl (by rw [e1, e2])).elim
          · exact hl
          · exact (hpw j i (by simpa using hlt2) (by simpa using hlt) hl (by rw [e1, e2])).elim
        subst hij
        rw [hi] at q3; cases q3
        exact hv0
      refine hfin en.val true _ (hrun1 _ _ q2) ⟨he, ?_⟩
      rw [he, ← hv0]; exact hone
  · rcases find_keyR (R := fun en d => (∀ d', hole ≠ some (en.key, d')) → ∃ ys, d = .v (.sl sz2 ys) ∧ RRow I w en.val e2 sz2 ys) K h3 h4 h5 ⟨lk, hlk⟩ w with ⟨_, q⟩ | ⟨j, en, d', q1, _⟩
    · obtain ⟨zv, hz1, hz2⟩ := zeroT_sound (P := P) (I := I) (ι := ι) hX hz w
      exact hfin zv false _ (hrun2 _ q hz1) hz2
    · rw [hn] at q1; cases q1

end
end Go.Proofs.Ytajmjfdopminbaa.Sym
