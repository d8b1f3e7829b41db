/- Sym: evalE tells what the making and writing operations do. Conditions: the table of types is the program's (TabOk). -/
import Derived.Test.YtlbndchfmdogeaaDoorSymh
set_option linter.unusedVariables false
set_option linter.unusedSimpArgs false
namespace Go.Proofs.YtlbndchfmdogeaaDoor.Sym
open Go Go.RowKit

section
variable {P : Program} {X : Tab} {E : Env} {w w' : World} {I : Im} {ι : Lo} {fr : Fr} {hp : Hp} {a : Act} {o : Oper}

/-- An immutable slice's cells, one behind the other. -/
theorem rows_at (hA : Agr I w) {v : Value} {sz : Nat} {ys : List El} (h : RC I v (.sl sz ys)) (hp : 0 < sz) : ∃ A c, v = .slice A ys.length c ∧ (ys ≠ [] → ∃ ad news, A = some ad ∧ At w ad news ∧ RCs I news ys.flatten) ∧ ∀ e ∈ ys, e.length = sz := by
  rcases RC.sl_inv h with ⟨A, c, hv, rfl, _⟩ | ⟨b, off, c, get, hv, hc, hM, hs, hI, hR⟩
  · exact ⟨A, c, hv, fun q => (q rfl).elim, fun e he => by cases he⟩
  · have hall : ∀ e ∈ ys, e.length = sz := fun e he => by
      obtain ⟨i, hi⟩ := List.mem_iff_getElem?.1 he
      exact hs i e hi
    have hlen := flat_len ys hall
    refine ⟨_, c, hv, fun _ => ⟨_, (List.range (ys.length * sz)).map fun q => get (q / sz) (q % sz), rfl, fun j u hj => ?_, All2.of (by simp [hlen]) fun q x y hx hy => ?_⟩, hall⟩
    · rw [Addr.add_lit]
      simp only [List.getElem?_map, Option.map_eq_some_iff] at hj
      obtain ⟨k, hk, rfl⟩ := hj
      have hjn : j < ys.length * sz := by
        have := (List.getElem?_eq_some_iff.1 hk).1; simpa using this
      have : k = j := by rw [List.getElem?_range hjn] at hk; simpa using hk.symm
      subst this
      have h1 : k / sz < ys.length := Nat.div_lt_of_lt_mul (by rw [Nat.mul_comm]; exact hjn)
      have h2 : k % sz < sz := Nat.mod_lt _ hp
      have := hA _ _ _ (hI (k / sz) (k % sz) h1 h2)
      rw [← this]
      congr 2
      have := Nat.div_add_mod k sz
      rw [Nat.mul_comm] at this
      omega
    · have hq : q < ys.length * sz := by
        have := (List.getElem?_eq_some_iff.1 hx).1; simpa using this
      rw [List.getElem?_map, List.getElem?_range hq] at hx
      simp at hx; subst hx
      rw [flat_get hp ys hall] at hy
      cases hyi : ys[q / sz]? with
      | none => rw [hyi] at hy; cases hy
      | some e => rw [hyi] at hy; exact hR _ _ e y hyi hy

theorem run_append_zero {base : Nat} (t ty e : TypeId) (i : TypeInfo) {size n : Nat} (ht : P.underlying t = some (.slice e)) (hi : P.info? e = some i) {v : Value} {xs : List Value} (hown : w.ownsRow base e size v n xs) (A : Option Addr) (c : Nat) :
    (Builtin.append_ #[t, t] ty #[v, .slice A 0 c]).run P w = .ok v w := by
  have hz : ∀ ad : Addr, (loadCells ad 0).run P w = .ok #[] w := fun ad => rfl
  rcases hown.2 with ⟨rfl, rfl⟩ | ⟨g, cap, cur, rfl, _, _, hnc, _⟩ <;> cases A <;>
    simp [Builtin.append_, run_underlying ht, sizeOf, typeInfo, hi, Builtin.lenOf, Builtin.firstCells, storeCells, hz, *]

theorem run_storeVar {t : Nat} {i : TI} (hX : TabOk P X) (e : tiOf X t = some i) {B q : Nat} {ty : Nat} {vs us : List Value} (hB : w.heap[B]? = some (.cells vs.toArray ty (0, 0))) {v : Value} (hv : v.cells = us.toArray) (hl : us.length = i.size) (hfit : q + us.length ≤ vs.length) (h1 : ∀ u ∈ us, u.oneCell' = true) :
    (storeVar t ⟨B, q, none⟩ v).run P w = .ok () (w.setRow B (vs.take q ++ us ++ vs.drop (q + us.length)).toArray) := by
  unfold storeVar
  rw [Sem.run_bind, run_sizeOf (hX.facts e) w]
  simp only [Result.andThen_ok, hv]
  have hsz : ¬ (us.toArray.size ≠ i.size) := by simp [hl]
  have hst := run_storeCells_at P B q ty us 0 vs.toArray w hB (by simpa using hfit) h1
  simp only [Nat.add_zero] at hst
  rw [if_neg hsz]
  simp only [hst]


theorem ownBlock_eq {v : Value} {A : Option Addr} {n c : Nat} (h : v = .slice A n c) : v.ownBlock = blockOf v := by
  subst h; cases A <;> rfl
theorem own_slice {e sz n : Nat} {v : Value} {l : List Value} (h : w.ownsRow 0 e sz v n l) : ∃ A c, v = .slice A n c := by
  rcases h.2 with ⟨rfl, rfl⟩ | ⟨g, cap, cur, rfl, _⟩
  · exact ⟨_, _, rfl⟩
  · exact ⟨_, _, rfl⟩

/-- What append leaves. -/
theorem run_appendOwn (hX : TabOk P X) {t e sz' by' : Nat} {zero : List ZK} (et : tiOf X t = some ⟨.slice e, sz', by', zero⟩) {i : TI} (ee : tiOf X e = some i) {v : Value} {vals : List Value} {n : Nat} (h : w.ownsRow 0 e i.size v n vals)
    {u : Value} {ys : List El} {A : Option Addr} {c : Nat} (hu : u = .slice A ys.length c) (hy : ys ≠ [] → ∃ ad news, A = some ad ∧ At w ad news ∧ RCs I news ys.flatten) (hys : ∀ e' ∈ ys, e'.length = i.size)
    (hlim : n + ys.length ≤ lim) (hby : i.bytes ≤ 128) (ty : TypeId) :
    ∃ v' w' news, (Builtin.append_ #[t, t] ty #[v, u]).run P w = .ok v' w' ∧ w'.ownsRow 0 e i.size v' (n + ys.length) (vals ++ news) ∧ RCs I news ys.flatten ∧ w.grownBy w' v.ownBlock ∧ (v'.ownBlock = v.ownBlock ∨ v'.ownBlock = some w.heap.size) := by
  obtain ⟨_, _, hk⟩ := hX.facts et
  have hd := kOk_slice hk
  obtain ⟨⟨j, hj, hj1, hj2, zv, hz, hz2, hz3, _⟩, hpos, _⟩ := hX.facts ee
  by_cases hne : ys = []
  · subst hne
    subst hu
    exact ⟨v, w, [], run_append_zero t ty e j hd hj h A c, by simpa using h, .nil, World.grownBy.refl w _, .inl rfl⟩
  · obtain ⟨ad, news, rfl, hat, hR⟩ := hy hne
    subst hu
    have hlen : news.length = ys.length * i.size := by rw [hR.len, flat_len ys hys]
    have hb : (n + ys.length) * i.bytes ≤ 140737488355328 := by
      have h1 : (n + ys.length) * i.bytes ≤ (n + ys.length) * 128 := Nat.mul_le_mul_left _ hby
      have : lim = 1099511627776 := rfl
      omega
    obtain ⟨v', w', hr, ho, hg, _, hat'⟩ := run_append_own_at (P := P) w 0 t ty e j zv i.size i.bytes hd hj hz hj1 hj2 (by
        have hl : zv.cells.toList.length = i.zero.length := by simpa using congrArg List.length hz2
        rw [← hz3, ← hl]; simp) hpos v n vals h ad ys.length c news hlen hat hR.one (lim_max hlim) hb (Nat.zero_le _)
    exact ⟨v', w', news, hr, ho, hR, hg, hat'⟩

theorem srcOf_sound (h : St E fr hp I ι a w) {v : Value} {x : AV} (hx : RV I ι v x) {sz : Nat} (hp0 : 0 < sz) {ys : List El} (he : srcOf hp sz x = some ys) :
    ∃ A c, v = .slice A ys.length c ∧ (ys ≠ [] → ∃ ad news, A = some ad ∧ At w ad news ∧ RCs I news ys.flatten) ∧ ∀ e ∈ ys, e.length = sz := by
  unfold srcOf at he
  split at he
  · simp at he; subst he
    have hx' : RC I v .nil := hx
    cases hx'
    exact ⟨none, 0, rfl, fun q => (q rfl).elim, fun e he => by cases he⟩
  · rename_i sz' zs
    cases hs : sz' == sz with
    | false => rw [hs] at he; cases he
    | true =>
      rw [hs] at he; simp at he hs; subst he; subst hs
      exact rows_at h.agr hx hp0
  · rename_i sz' zs
    cases hs : sz' == sz with
    | false => rw [hs] at he; cases he
    | true =>
      rw [hs] at he; simp at he hs; subst he; subst hs
      exact rows_at h.agr hx.1 hp0
  · rename_i id
    split at he
    · rename_i e sz' zs hg
      cases hs : sz' == sz with
      | false => rw [hs] at he; cases he
      | true =>
        rw [hs] at he; simp at he hs; subst he; subst hs
        have hob := h.rel.obj _ _ hg
        obtain ⟨vals, h1, h2, h3⟩ := row_at hob
        obtain ⟨⟨A, c, hv⟩, _, hsome⟩ := row_len hob
        have hvx : v = ι id := hx.1
        refine ⟨A, c, hvx.trans hv, fun hne => ?_, h2⟩
        obtain ⟨B, c', hv'⟩ := hsome (List.length_pos_iff.2 hne)
        have := hv.symm.trans hv'
        simp at this
        exact ⟨_, vals, this.1, h3 B _ _ hv', h1⟩
    · cases he
  · cases he

theorem St.append (hX : TabOk P X) (h : St E fr hp I ι a w) {c : Call} {s y : Operand} {t : TypeId} (ho : o.op = .call c) (hc : c.callee = .builtin .append) (ha : c.args.toList = [s, y]) (ht : c.argTypes.toList = [t, t])
    {e sz' by' : Nat} {zero : List ZK} (et : tiOf X t = some ⟨.slice e, sz', by', zero⟩) {i : TI} (ee : tiOf X e = some i) {xs ys xs' : List El} {hp1 : Hp} (hs : dstOf hp e i.size (opv fr s) = some (xs, hp1)) (hy : srcOf hp i.size (opv fr y) = some ys)
    (hby : i.bytes ≤ 128) {d : Nat} (hd : fresh E.k d fr hp = true) (hxs : xs' = xs ++ ys) (hlim : xs.length + ys.length ≤ lim) :
    ∃ v w', (execOp a.eval o).run P w = .ok (.value v) w' ∧ St E fr (setO hp1 d (.row e i.size xs')) I (upd ι d v) a w' ∧ RV I (upd ι d v) v (.t (.v (.rt d))) := by
  have hpos := (hX.facts ee).pos
  obtain ⟨A, cc, hu, hnews, hys⟩ := srcOf_sound h (opv_sound h y) hpos hy
  obtain ⟨hd1, hd2⟩ := fresh_spec hd
  -- the slice that is appended to
  have hdst : ∃ vals, w.ownsRow 0 e i.size (a.eval s) xs.length vals ∧ (∀ x ∈ xs, x.length = i.size) ∧ RCs I vals xs.flatten ∧ St E fr hp1 I ι a w ∧ freshB d fr hp1 = true ∧
      ∀ B, blockOf (a.eval s) = some B → (E.w0.heap.size ≤ B ∨ E.L B) ∧ B < w.heap.size ∧ (∀ o, I B o = none) ∧ ∀ id ob, getO hp1 id = some ob → ¬ owns w (ι id) ob B := by
    have hx := opv_sound h s
    unfold dstOf at hs
    split at hs
    · rename_i hsv
      simp at hs; obtain ⟨rfl, rfl⟩ := hs
      rw [hsv] at hx
      have hx' : RC I (a.eval s) .nil := hx
      have hv : a.eval s = .slice none 0 0 := by
        generalize a.eval s = q at hx'
        cases hx'; rfl
      rw [hv]
      exact ⟨[], World.ownsRow_nil _ _ _ _, fun x hx => (by cases hx), .nil, h, hd1, fun B hB => by cases hB⟩
    · rename_i id hsv
      split at hs
      · rename_i e' sz2 zs hg
        cases hq : e' == e && sz2 == i.size with
        | false => rw [hq] at hs; cases hs
        | true =>
          rw [hq] at hs; simp at hs
          simp only [Bool.and_eq_true, beq_iff_eq] at hq
          obtain ⟨rfl, rfl⟩ := hs
          obtain ⟨rfl, rfl⟩ := hq
          rw [hsv] at hx
          have hvx : a.eval s = ι id := hx.1
          rw [hvx]
          obtain ⟨vals, q1, q2, q3, q4⟩ := h.rel.obj _ _ hg
          refine ⟨vals, q1, q2, q3, h.del id, ?_, fun B hB => ?_⟩
          · simp only [freshB, Bool.and_eq_true, List.all_eq_true] at hd1 ⊢
            refine ⟨hd1.1, fun p hp' => hd1.2 p ?_⟩
            clear hg hd1 h hu hnews hys hy hd
            induction hp with
            | nil => simp [delO] at hp'
            | cons p0 r ih =>
              obtain ⟨k0, x0⟩ := p0
              simp only [delO] at hp'
              cases hk : k0 == id with
              | true => rw [hk] at hp'; simp at hp'; exact List.mem_cons_of_mem _ (ih hp')
              | false =>
                rw [hk] at hp'; simp at hp'
                rcases hp' with rfl | hp'
                · simp
                · exact List.mem_cons_of_mem _ (ih hp')
          · obtain ⟨o1, o2, o3⟩ := h.rel.own id _ hg B (.inl hB)
            refine ⟨o1, o2, o3, fun id' ob hg' hB' => ?_⟩
            rw [getO_delO] at hg'
            split at hg'
            · cases hg'
            · rename_i hne
              exact hne (h.rel.inj id' id ob _ hg' hg B hB' (.inl hB))
      · cases hs
    · cases hs
  obtain ⟨vals, q1, q2, q3, h1, hd1', hblk⟩ := hdst
  obtain ⟨A0, c0, hform⟩ := own_slice q1
  have hob := ownBlock_eq hform
  have hrunA := fun ty => run_appendOwn (I := I) hX et ee q1 hu hnews hys hlim hby ty
  obtain ⟨v', w', news, hr, hown, hR, hg, hat⟩ := hrunA o.type
  have hrun : (execOp a.eval o).run P w = .ok (.value v') w' := by
    have h1 : c.args = #[s, y] := by rw [← Array.toArray_toList (xs := c.args), ha]
    have h2 : c.argTypes = #[t, t] := by rw [← Array.toArray_toList (xs := c.argTypes), ht]
    simp only [execOp, ho, resolve, hc, h1, h2]
    rw [Sem.run_bind]
    simp only [Sem.run_pure, Result.andThen_ok, invoke, builtin]
    rw [Sem.run_bind]
    have h3 : (#[s, y] : Array Operand).map a.eval = #[a.eval s, a.eval y] := by simp
    rw [h3, hr]
    rfl
  obtain ⟨A1, c1, hform'⟩ := own_slice hown
  have hob' := ownBlock_eq hform'
  refine ⟨v', w', hrun, ?_, (upd_same ι d v').symm, by rw [hform']; rfl⟩
  have hagr : Agr I w' := h.agr.step fun B ⟨o', ho'⟩ => by
    have hlt : B < w.heap.size := by
      rcases Nat.lt_or_ge B w.heap.size with q | q
      · exact q
      · exact (ho' (h.agr.free q o')).elim
    refine hg.block B hlt fun q => ?_
    rw [hob] at q
    exact ho' ((hblk B q.symm).2.2.1 o')
  have hx : Ext (fun B => blockOf (a.eval s) = some B) I w I w' := ⟨⟨hg.os, hg.tape, hg.output, hg.size, fun k hk hnk => hg.block k hk (by rw [hob]; exact fun q => hnk q.symm)⟩, Im.le_refl I, fun _ _ _ e => .inl e, hagr⟩
  refine h1.step hx (fun B hB => (hblk B hB).1) (fun id hid => upd_ne ι v' (show id ≠ d by omega)) ?_
  refine h1.rel.new hd1' hg.size (fun id ob hgo B hB => ?_) ?_ (fun B hB => ?_) rfl
  · have hne : blockOf (a.eval s) ≠ some B := fun q => (hblk B q).2.2.2 id ob hgo hB
    have hlt := (h1.rel.own id ob hgo B hB).2.1
    refine ⟨hg.block B hlt (by rw [hob]; exact fun q => hne q.symm), fun q => ?_⟩
    rcases hat with r | r
    · rw [hob, hob', q] at r; exact hne r.symm
    · rw [hob', q] at r; simp at r; omega
  · subst hxs
    refine ⟨vals ++ news, by simpa using hown, fun x hx => ?_, by simpa using q3.append hR, by simpa using hlim⟩
    rcases List.mem_append.1 hx with hx | hx
    · exact q2 x hx
    · exact hys x hx
  · rcases hat with r | r
    · rw [hob, hob', hB] at r
      obtain ⟨o1, o2, o3, _⟩ := hblk B r.symm
      exact ⟨o1, Nat.lt_of_lt_of_le o2 hg.size, o3⟩
    · rw [hob', hB] at r; simp at r; subst r
      refine ⟨.inl h.below.size, ?_, h.agr.free (Nat.le_refl _)⟩
      rcases hown.2 with ⟨q, _⟩ | ⟨g, cap, cur, q, _, hgg, _⟩
      · rw [q] at hB; cases hB
      · rw [q] at hB; simp [blockOf] at hB; subst hB
        exact (Array.getElem?_eq_some_iff.1 hgg).1

/-! ### Stores -/
theorem run_store {t : TypeId} {x y : Operand} (ho : o.op = .store t x y) {ad : Addr} (hx : a.eval x = .pointer (some ad)) (hr : (storeVar t ad (a.eval y)).run P w = .ok () w') : (execOp a.eval o).run P w = .ok .skip w' := by
  simp only [execOp, ho, hx, Instr.storeAt, Instr.sureAddr]
  simp [hr]

/-- A variable's cells are written. -/
theorem St.storeCells (hX : TabOk P X) (h : St E fr hp I ι a w) {t : TypeId} {x y : Operand} (ho : o.op = .store t x y) {i : TI} (e : tiOf X t = some i) {cs : List CV} (hc : cellsOf (opv fr y) = some cs) (hu : noU cs = true) {id q : Nat} (hx : opv fr x = .t (.v (.ptr id q))) {ty : Nat} {l : List CV}
    (hg : getO hp id = some (.cells ty l)) (hlen : cs.length = i.size) (hle : q + cs.length ≤ l.length) : ∃ w', (execOp a.eval o).run P w = .ok .skip w' ∧ St E fr (setO hp id (.cells ty (splice l q cs))) I ι a w' := by
  obtain ⟨us, hus, hR⟩ := cellsOf_sound (opv_sound h y) hc (noU_spec hu)
  have hxv := opv_sound h x
  rw [hx] at hxv
  obtain ⟨B, h1, h2⟩ := hxv
  obtain ⟨B', vs, h3, h4, h5⟩ := h.rel.obj _ _ hg
  have h3' := h1.symm.trans h3
  simp at h3'; subst h3'
  have hl : us.length = cs.length := hR.len
  have hvl : vs.length = l.length := h5.len
  have hrun := run_storeVar (w := w) hX e h4 hus (by omega) (by omega : q + us.length ≤ vs.length) (fun u hu' => by
    obtain ⟨j, hj⟩ := List.mem_iff_getElem?.1 hu'
    obtain ⟨c, _, hr⟩ := hR.at' j u hj
    exact hr.2)
  refine ⟨_, run_store ho h2 hrun, ?_⟩
  have hnew := setRow_heap w B vs.toArray (vs.take q ++ us ++ vs.drop (q + us.length)).toArray ty (0, 0) h4
  refine h.set hg (by rw [h1]; rfl) rfl rfl rfl (by simp) (fun B' hne => setRow_other w B B' _ hne) ⟨B, _, h1, hnew, ?_⟩
  unfold splice
  rw [hl]
  exact ((h5.take q).append hR).append (h5.drop _)

theorem All2.spl {α β : Type} {R : α → β → Prop} {l x : List α} {m y : List β} (h : All2 R l m) (k : All2 R x y) (q : Nat) : All2 R (Sym.spl l q x) (Sym.spl m q y) := by
  unfold Sym.spl
  rw [k.len]
  exact ((h.take q).append k).append (h.drop _)

/-- An own slice's cells are written. -/
theorem St.storeEl (hX : TabOk P X) (h : St E fr hp I ι a w) {t : TypeId} {x y : Operand} (ho : o.op = .store t x y) {i : TI} (e : tiOf X t = some i) {cs : List CV} {ds : List C} (hc : cellsOf (opv fr y) = some cs) (hds : allD cs = some ds) {sz id n q : Nat} (hx : opv fr x = .t (.v (.el sz id n q))) {ty : Nat} {xs : List El}
    (hg : getO hp id = some (.row ty sz xs)) (hlen : cs.length = i.size) (hle : q + cs.length ≤ sz) {el : El} (hel : xs[n]? = some el) : ∃ w', (execOp a.eval o).run P w = .ok .skip w' ∧ St E fr (setO hp id (.row ty sz (xs.set n (spl el q ds)))) I ι a w' := by
  have hnu : cs ≠ [.u] := fun e => by subst e; cases hds
  obtain ⟨us, hus, hR⟩ := cellsOf_sound (opv_sound h y) hc hnu
  have hRd := allD_sound hR hds
  have hxv := opv_sound h x
  rw [hx] at hxv
  obtain ⟨B, len, cap, h1, h2⟩ := hxv
  obtain ⟨vals, q1, q2, q3, q4⟩ := h.rel.obj _ _ hg
  rcases q1.2 with ⟨r, _⟩ | ⟨g, cap', cur, r, hb0, hgg, hnc, hcm, hcs, htake⟩
  · rw [h1] at r; cases r
  · rw [h1] at r
    simp at r
    obtain ⟨rfl, rfl, rfl⟩ := r
    have hl : us.length = cs.length := hR.len
    have hdl : us.length = ds.length := hRd.len
    have hil : n < xs.length := (List.getElem?_eq_some_iff.1 hel).1
    have hpos : n * sz + q + us.length ≤ xs.length * sz := by
      have : (n + 1) * sz ≤ xs.length * sz := Nat.mul_le_mul_right _ hil
      rw [Nat.succ_mul] at this
      omega
    have hcap : xs.length * sz ≤ cap * sz := Nat.mul_le_mul_right _ hnc
    have hcl : cur.toList.length = cur.size := by simp
    have hgg' : w.heap[B]? = some (.cells cur.toList.toArray ty (0, 0)) := by simpa using hgg
    have hrun := run_storeVar (w := w) hX e hgg' hus (by omega) (by omega : n * sz + q + us.length ≤ cur.toList.length) (fun u hu' => by
      obtain ⟨j, hj⟩ := List.mem_iff_getElem?.1 hu'
      obtain ⟨c, _, hr⟩ := hR.at' j u hj
      exact hr.2)
    refine ⟨_, run_store ho h2 hrun, ?_⟩
    have hnew := setRow_heap w B cur (cur.toList.take (n * sz + q) ++ us ++ cur.toList.drop (n * sz + q + us.length)).toArray ty (0, 0) hgg
    refine h.set hg (by rw [h1]; rfl) rfl rfl rfl (by simp) (fun B' hne => setRow_other w B B' _ hne) ⟨Sym.spl vals (n * sz + q) us, ⟨?_, .inr ⟨B, cap, _, by rw [h1]; simp, Nat.zero_le _, hnew, by simpa using hnc, hcm, ?_, ?_⟩⟩, fun x hx => ?_, ?_, by simpa using q4⟩
    · rw [spl_len _ _ _ (by rw [q1.1]; exact hpos), q1.1]; simp
    · have := spl_len cur.toList (n * sz + q) us (by omega)
      simp only [List.size_toArray]
      unfold Sym.spl at this
      rw [this, hcl, hcs]
    · simp only [List.length_set]
      have hsp : cur.toList.take (n * sz + q) ++ us ++ cur.toList.drop (n * sz + q + us.length) = Sym.spl (cur.toList.take (xs.length * sz)) (n * sz + q) us ++ cur.toList.drop (xs.length * sz) := by
        rw [← spl_left _ _ _ _ (by rw [List.length_take]; omega), List.take_append_drop]
        rfl
      rw [hsp, htake]
      have hl2 : (Sym.spl vals (n * sz + q) us).length = xs.length * sz := by rw [spl_len _ _ _ (by rw [q1.1]; exact hpos), q1.1]
      rw [← hl2]
      exact List.take_left
    · rcases List.mem_or_eq_of_mem_set hx with hx | rfl
      · exact q2 x hx
      · rw [spl_len _ _ _ (by rw [q2 el (List.mem_of_getElem? hel)]; omega)]
        exact q2 el (List.mem_of_getElem? hel)
    · rw [flat_set xs n el q2 hel (by omega)]
      exact All2.spl q3 hRd _

end
end Go.Proofs.YtlbndchfmdogeaaDoor.Sym
