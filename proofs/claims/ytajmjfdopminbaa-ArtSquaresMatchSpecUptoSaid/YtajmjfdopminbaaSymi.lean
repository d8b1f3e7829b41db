/- Sym: evalE tells what the making and writing operations do. Conditions: the table of types is the program's (TabOk). -/
import Derived.Test.YtajmjfdopminbaaSymh
set_option linter.unusedVariables false
set_option linter.unusedSimpArgs false
namespace Go.Proofs.Ytajmjfdopminbaa.Sym
open Go Go.RowKit

section
variable {P : Program} {X : Tab} {E : Env} {w w' : World} {I : Im} {ι : Lo} {fr : Fr} {hp : Hp} {a : Act} {o : Oper}

/-- An immutable slice's cells, one behind the other. -/
theorem rows_at (hA : Agr I w) {v : Value} {sz : Nat} {ys : List El} (h : RC I v (.sl sz ys)) (hp : 0 < sz) : ∃ A c, v = .slice A ys.length c ∧ (ys ≠ [] → ∃ ad news, A = some ad ∧ At w ad news ∧ RCs I news ys.flatten) ∧ ∀ e ∈ ys, e.length = sz := by
  rcases RC.sl_inv h with ⟨A, c, hv, rfl, _⟩ | ⟨b, off, c, get, hv, hc, hM, hs, hI, hR⟩
  · exact ⟨A, c, hv, fun q => (q rfl).elim, fun e he => by cases he⟩
  · have hall : ∀ e ∈ ys, e.length = sz := fun e he => by
      obtain ⟨i, hi⟩ := List.mem_iff_getElem?.1 he
      exact hs i e hi
    have hlen := flat_len ys hall
    refine ⟨_, c, hv, fun _ => ⟨_, (List.range (ys.length * sz)).map fun q => get (q / sz) (q % sz), rfl, fun j u hj => ?_, All2.of (by simp [hlen]) fun q x y hx hy => ?_⟩, hall⟩
    · rw [Addr.add_lit]
      simp only [List.getElem?_map, Option.map_eq_some_iff] at hj
      obtain ⟨k, hk, rfl⟩ := hj
      have hjn : j < ys.length * sz := by
        have := (List.getElem?_eq_some_iff.1 hk).1; simpa using this
      have : k = j := by rw [List.getElem?_range hjn] at hk; simpa using hk.symm
      subst this
      have h1 : k / sz < ys.length := Nat.div_lt_of_lt_mul (by rw [Nat.mul_comm]; exact hjn)
      have h2 : k % sz < sz := Nat.mod_lt _ hp
      have := hA _ _ _ (hI (k / sz) (k % sz) h1 h2)
      rw [← this]
      congr 2
      have := Nat.div_add_mod k sz
      rw [Nat.mul_comm] at this
      omega
    · have hq : q < ys.length * sz := by
        have := (List.getElem?_eq_some_iff.1 hx).1; simpa using this
      rw [List.getElem?_map, List.getElem?_range hq] at hx
      simp at hx; subst hx
      rw [flat_get hp ys hall] at hy
      cases hyi : ys[q / sz]? with
      | none => rw [hyi] at hy; cases hy
      | some e => rw [hyi] at hy; exact hR _ _ e y hyi hy

theorem run_append_zero {base : Nat} (t ty e : TypeId) (i : TypeInfo) {size n : Nat} (ht : P.underlying t = some (.slice e)) (hi : P.info? e = some i) {v : Value} {xs : List Value} (hown : w.ownsRow base e size v n xs) (A : Option Addr) (c : Nat) :
    (Builtin.append_ #[t, t] ty #[v, .slice A 0 c]).run P w = .ok v w := by
  have hz : ∀ ad : Addr, (loadCells ad 0).run P w = .ok #[] w := fun ad => rfl
  rcases hown.2 with ⟨rfl, rfl⟩ | ⟨g, cap, cur, rfl, _, _, hnc, _⟩ <;> cases A <;>
    simp [Builtin.append_, run_underlying ht, sizeOf, typeInfo, hi, Builtin.lenOf, Builtin.firstCells, storeCells, hz, *]

theorem run_storeVar {t : Nat} {i : TI} (hX : TabOk P X) (e : tiOf X t = some i) {B q : Nat} {ty : Nat} {vs us : List Value} (hB : w.heap[B]? = some (.cells vs.toArray ty (0, 0))) {v : Value} (hv : v.cells = us.toArray) (hl : us.length = i.size) (hfit : q + us.length ≤ vs.length) (h1 : ∀ u ∈ us, u.oneCell' = true) :
    (storeVar t ⟨B, q, none⟩ v).run P w = .ok () (w.setRow B (vs.take q ++ us ++ vs.drop (q + us.length)).toArray) := by
  unfold storeVar
  rw [Sem.run_bind, run_sizeOf (hX.facts e) w]
  simp only [Result.andThen_ok, hv]
  have hsz : ¬ (us.toArray.size ≠ i.size) := by simp [hl]
  have hst := run_storeCells_at P B q ty us 0 vs.toArray w hB (by simpa using hfit) h1
  simp only [Nat.add_zero] at hst
  rw [if_neg hsz]
  simp only [hst]


theorem ownBlock_eq {v : Value} {A : Option Addr} {n c : Nat} (h : v = .slice A n c) : v.ownBlock = blockOf v := by
  subst h; cases A <;> rfl
theorem own_slice {e sz n : Nat} {v : Value} {l : List Value} (h : w.ownsRow 0 e sz v n l) : ∃ A c, v = .slice A n c := by
  rcases h.2 with ⟨rfl, rfl⟩ | ⟨g, cap, cur, rfl, _⟩
  · exact ⟨_, _, rfl⟩
  · exact ⟨_, _, rfl⟩

/-- What append leaves. -/
theorem run_appendOwn (hX : TabOk P X) {t e sz' by' : Nat} {zero : List ZK} (et : tiOf X t = some ⟨.slice e, sz', by', zero⟩) {i : TI} (ee : tiOf X e = some i) {v : Value} {vals : List Value} {n : Nat} (h : w.ownsRow 0 e i.size v n vals)
    {u : Value} {ys : List El} {A : Option Addr} {c : Nat} (hu : u = .slice A ys.length c) (hy : ys ≠ [] → ∃ ad news, A = some ad ∧ At w ad news ∧ RCs I news ys.flatten) (hys : ∀ e' ∈ ys, e'.length = i.size)
    (hlim : n + ys.length ≤ lim) (hby : i.bytes ≤ 128) (ty : TypeId) :
    ∃ v' w' news, (Builtin.append_ #[t, t] ty #[v, u]).run P w = .ok v' w' ∧ w'.ownsRow 0 e i.size v' (n + ys.length) (vals ++ news) ∧ RCs I news ys.flatten ∧ w.grownBy w' v.ownBlock ∧ (v'.ownBlock = v.ownBlock ∨ v'.ownBlock = some w.heap.size) := by
  obtain ⟨_, _, hk⟩ := hX.facts et
  have hd := kOk_slice hk
  obtain ⟨⟨j, hj, hj1, hj2, zv, hz, hz2, hz3, _⟩, hpos, _⟩ := hX.facts ee
  by_cases hne : ys = []
  · subst hne
    subst hu
    exact ⟨v, w, [], run_append_zero t ty e j hd hj h A c, by simpa using h, .nil, World.grownBy.refl w _, .inl rfl⟩
  · obtain ⟨ad, news, rfl, hat, hR⟩ := hy hne
    subst hu
    have hlen : news.length = ys.length * i.size := by rw [hR.len, flat_len ys hys]
    have hb : (n + ys.length) * i.bytes ≤ 140737488355328 := by
      have h1 : (n + ys.length) * i.bytes ≤ (n + ys.length) * 128 := Nat.mul_le_mul_left _ hby
      have : lim = 1099511627776 := rfl
      omega
    obtain ⟨v', w', hr, ho, hg, _, hat'⟩ := run_append_own_at (P := P) w 0 t ty e j zv i.size i.bytes hd hj hz hj1 hj2 (by
        have hl : zv.cells.toList.length = i.zero.length := by simpa using congrArg List.length hz2
        rw [← hz3, ← hl]; simp) hpos v n vals h ad ys.length c news hlen hat hR.one (lim_max hlim) hb (Nat.zero_le _)
    exact ⟨v', w', news, hr, ho, hR, hg, hat'⟩

theorem srcOf_sound (h : St E fr hp I ι a w) {v : Value} {x : AV} (hx : RV I ι v x) {sz : Nat} (hp0 : 0 < sz) {ys : List El} (he : srcOf hp sz x = some ys) :
    ∃ A c, v = .slice A ys.length c ∧ (ys ≠ [] → ∃ ad news, A = some ad ∧ At w ad news ∧ RCs I news ys.flatten) ∧ ∀ e ∈ ys, e.length = sz := by
  unfold srcOf at he
  split at he
  · simp at he; subst he
    have hx' : RC I v .nil := hx
    cases hx'
    exact ⟨none, 0, rfl, fun q => (q rfl).elim, fun e he => by cases he⟩
  · rename_i sz' zs
    cases hs : sz' == sz with
    | false => rw [hs] at he; cases he
    | true =>
      rw [hs] at he; simp at he hs; subst he; subst hs
      exact rows_at h.agr hx hp0
  · rename_i sz' zs
    cases hs : sz' == sz with
    | false => rw [hs] at he; cases he
    | true =>
      rw [hs] at he; simp at he hs; subst he; subst hs
      exact rows_at h.agr hx.1 hp0
  · rename_i id
    split at he
    · rename_i e sz' zs hg
      cases hs : sz' == sz with
      | false => rw [hs] at he; cases he
      | true =>
        rw [hs] at he; simp at he hs; subst he; subst hs
        have hob := h.rel.obj _ _ hg
        obtain ⟨vals, h1, h2, h3⟩ := row_at hob
        obtain ⟨⟨A, c, hv⟩, _, hsome⟩ := row_len hob
        have hvx : v = ι id := hx.1
        refine ⟨A, c, hvx.trans hv, fun hne => ?_, h2⟩
        obtain ⟨B, c', hv'⟩ := hsome (List.length_pos_iff.2 hne)
        have := hv.symm.trans hv'
        simp at this
        exact ⟨_, vals, this.1, h3 B _ _ hv', h1⟩
    · cases he
  · cases he

theorem St.append0 (hX : TabOk P X) (h : St E fr hp I ι a w) {s : Operand} {e : Nat} {i : TI} (ee : tiOf X e = some i) {xs ys xs' : List El} {hp1 : Hp} (hs : dstOf hp e i.size (opv fr s) = some (xs, hp1)) (hys : ∀ e' ∈ ys, e'.length = i.size)
    (hrunA : ∀ vals, w.ownsRow 0 e i.size (a.eval s) xs.length vals → ∃ v' w' news, (execOp a.eval o).run P w = .ok (.value v') w' ∧ w'.ownsRow 0 e i.size v' (xs.length + ys.length) (vals ++ news) ∧ RCs I news ys.flatten ∧ w.grownBy w' (a.eval s).ownBlock ∧ (v'.ownBlock = (a.eval s).ownBlock ∨ v'.ownBlock = some w.heap.size)) {d : Nat} (hd : fresh E.k d fr hp = true) (hxs : xs' = xs ++ ys) (hlim : xs.length + ys.length ≤ lim) :
    ∃ v w', (execOp a.eval o).run P w = .ok (.value v) w' ∧ St E fr (setO hp1 d (.row e i.size xs')) I (upd ι d v) a w' ∧ RV I (upd ι d v) v (.t (.v (.rt d))) := by
  have hpos := (hX.facts ee).pos
  obtain ⟨hd1, hd2⟩ := fresh_spec hd
  -- the slice that is appended to
  have hdst : ∃ vals, w.ownsRow 0 e i.size (a.eval s) xs.length vals ∧ (∀ x ∈ xs, x.length = i.size) ∧ RCs I vals xs.flatten ∧ St E fr hp1 I ι a w ∧ freshB d fr hp1 = true ∧
      ∀ B, blockOf (a.eval s) = some B → (E.w0.heap.size ≤ B ∨ E.L B) ∧ B < w.heap.size ∧ (∀ o, I B o = none) ∧ ∀ id ob, getO hp1 id = some ob → ¬ owns w (ι id) ob B := by
    have hx := opv_sound h s
    unfold dstOf at hs
    split at hs
    · rename_i hsv
      simp at hs; obtain ⟨rfl, rfl⟩ := hs
      rw [hsv] at hx
      have hx' : RC I (a.eval s) .nil := hx
      have hv : a.eval s = .slice none 0 0 := by
        generalize a.eval s = q at hx'
        cases hx'; rfl
      rw [hv]
      exact ⟨[], World.ownsRow_nil _ _ _ _, fun x hx => (by cases hx), .nil, h, hd1, fun B hB => by cases hB⟩
    · rename_i id hsv
      split at hs
      · rename_i e' sz2 zs hg
        cases hq : e' == e && sz2 == i.size with
        | false => rw [hq] at hs; cases hs
        | true =>
          rw [hq] at hs; simp at hs
          simp only [Bool.and_eq_true, beq_iff_eq] at hq
          obtain ⟨rfl, rfl⟩ := hs
          obtain ⟨rfl, rfl⟩ := hq
          rw [hsv] at hx
          have hvx : a.eval s = ι id := hx.1
          rw [hvx]
          obtain ⟨vals, q1, q2, q3, q4⟩ := h.rel.obj _ _ hg
          refine ⟨vals, q1, q2, q3, h.del id, ?_, fun B hB => ?_⟩
          · simp only [freshB, Bool.and_eq_true, List.all_eq_true] at hd1 ⊢
            refine ⟨hd1.1, fun p hp' => hd1.2 p ?_⟩
            clear hg hd1 h hrunA hys hd
            induction hp with
            | nil => simp [delO] at hp'
            | cons p0 r ih =>
              obtain ⟨k0, x0⟩ := p0
              simp only [delO] at hp'
              cases hk : k0 == id with
              | true => rw [hk] at hp'; simp at hp'; exact List.mem_cons_of_mem _ (ih hp')
              | false =>
                rw [hk] at hp'; simp at hp'
                rcases hp' with rfl | hp'
                · simp
                · exact List.mem_cons_of_mem _ (ih hp')
          · obtain ⟨o1, o2, o3⟩ := h.rel.own id _ hg B (.inl hB)
            refine ⟨o1, o2, o3, fun id' ob hg' hB' => ?_⟩
            rw [getO_delO] at hg'
            split at hg'
            · cases hg'
            · rename_i hne
              exact hne (h.rel.inj id' id ob _ hg' hg B hB' (.inl hB))
      · cases hs
    · cases hs
  obtain ⟨vals, q1, q2, q3, h1, hd1', hblk⟩ := hdst
  obtain ⟨A0, c0, hform⟩ := own_slice q1
  have hob := ownBlock_eq hform
  obtain ⟨v', w', news, hrun, hown, hR, hg, hat⟩ := hrunA vals q1
  obtain ⟨A1, c1, hform'⟩ := own_slice hown
  have hob' := ownBlock_eq hform'
  refine ⟨v', w', hrun, ?_, (upd_same ι d v').symm, by rw [hform']; rfl⟩
  have hagr : Agr I w' := h.agr.step fun B ⟨o', ho'⟩ => by
    have hlt : B < w.heap.size := by
      rcases Nat.lt_or_ge B w.heap.size with q | q
      · exact q
      · exact (ho' (h.agr.free q o')).elim
    refine hg.block B hlt fun q => ?_
    rw [hob] at q
    exact ho' ((hblk B q.symm).2.2.1 o')
  have hx : Ext (fun B => blockOf (a.eval s) = some B) I w I w' := ⟨⟨hg.os, hg.tape, hg.output, hg.size, fun k hk hnk => hg.block k hk (by rw [hob]; exact fun q => hnk q.symm)⟩, Im.le_refl I, fun _ _ _ e => .inl e, hagr⟩
  refine h1.step hx (fun B hB => (hblk B hB).1) (fun id hid => upd_ne ι v' (show id ≠ d by omega)) ?_
  refine h1.rel.new hd1' hg.size (fun id ob hgo B hB => ?_) ?_ (fun B hB => ?_) rfl
  · have hne : blockOf (a.eval s) ≠ some B := fun q => (hblk B q).2.2.2 id ob hgo hB
    have hlt := (h1.rel.own id ob hgo B hB).2.1
    refine ⟨hg.block B hlt (by rw [hob]; exact fun q => hne q.symm), fun q => ?_⟩
    rcases hat with r | r
    · rw [hob, hob', q] at r; exact hne r.symm
    · rw [hob', q] at r; simp at r; omega
  · subst hxs
    refine ⟨vals ++ news, by simpa using hown, fun x hx => ?_, by simpa using q3.append hR, by simpa using hlim⟩
    rcases List.mem_append.1 hx with hx | hx
    · exact q2 x hx
    · exact hys x hx
  · rcases hat with r | r
    · rw [hob, hob', hB] at r
      obtain ⟨o1, o2, o3, _⟩ := hblk B r.symm
      exact ⟨o1, Nat.lt_of_lt_of_le o2 hg.size, o3⟩
    · rw [hob', hB] at r; simp at r; subst r
      refine ⟨.inl h.below.size, ?_, h.agr.free (Nat.le_refl _)⟩
      rcases hown.2 with ⟨q, _⟩ | ⟨g, cap, cur, q, _, hgg, _⟩
      · rw [q] at hB; cases hB
      · rw [q] at hB; simp [blockOf] at hB; subst hB
        exact (Array.getElem?_eq_some_iff.1 hgg).1

/-! ### Stores -/
theorem St.append (hX : TabOk P X) (h : St E fr hp I ι a w) {c : Call} {s y : Operand} {t : TypeId} (ho : o.op = .call c) (hc : c.callee = .builtin .append) (ha : c.args.toList = [s, y]) (ht : c.argTypes.toList = [t, t])
    {e sz' by' : Nat} {zero : List ZK} (et : tiOf X t = some ⟨.slice e, sz', by', zero⟩) {i : TI} (ee : tiOf X e = some i) {xs ys xs' : List El} {hp1 : Hp} (hs : dstOf hp e i.size (opv fr s) = some (xs, hp1)) (hy : srcOf hp i.size (opv fr y) = some ys)
    (hby : i.bytes ≤ 128) {d : Nat} (hd : fresh E.k d fr hp = true) (hxs : xs' = xs ++ ys) (hlim : xs.length + ys.length ≤ lim) :
    ∃ v w', (execOp a.eval o).run P w = .ok (.value v) w' ∧ St E fr (setO hp1 d (.row e i.size xs')) I (upd ι d v) a w' ∧ RV I (upd ι d v) v (.t (.v (.rt d))) := by
  have hpos := (hX.facts ee).pos
  obtain ⟨A, cc, hu, hnews, hys⟩ := srcOf_sound h (opv_sound h y) hpos hy
  refine h.append0 hX ee hs hys (fun vals q1 => ?_) hd hxs hlim
  obtain ⟨v', w', news, hr, hown, hR, hg, hat⟩ := run_appendOwn (I := I) hX et ee q1 hu hnews hys hlim hby o.type
  refine ⟨v', w', news, ?_, hown, hR, hg, hat⟩
  have h1 : c.args = #[s, y] := by rw [← Array.toArray_toList (xs := c.args), ha]
  have h2 : c.argTypes = #[t, t] := by rw [← Array.toArray_toList (xs := c.argTypes), ht]
  simp only [execOp, ho, resolve, hc, h1, h2]
  rw [Sem.run_bind]
  simp only [Sem.run_pure, Result.andThen_ok, invoke, builtin]
  rw [Sem.run_bind]
  have h3 : (#[s, y] : Array Operand).map a.eval = #[a.eval s, a.eval y] := by simp
  rw [h3, hr]
  rfl
/-- append of a string's bytes: where the slice lies then. -/
theorem run_append_str_at {t u ty e : TypeId} {i : TypeInfo} (ht : P.underlying t = some (.slice e)) (hu : P.underlying u = some .string) (hi : P.info? e = some i) (hz : i.zero = some (.int .u8 0)) (hsize : i.size = 1) (hby : i.bytes = 1)
    {v : Value} {n : Nat} {xs : List Value} (hown : w.ownsRow 0 e 1 v n xs) (s : ByteArray) (hl : n + s.size ≤ lim) :
    ∃ v' w', (Builtin.append_ #[t, u] ty #[v, .string s]).run P w = .ok v' w' ∧ w'.ownsRow 0 e 1 v' (n + s.size) (xs ++ Lib.strCells s) ∧ w.grownBy w' v.ownBlock ∧ (v'.ownBlock = v.ownBlock ∨ v'.ownBlock = some w.heap.size) := by
  have hlim : lim = 1099511627776 := rfl
  obtain ⟨v', w', r1, r2, r3, _⟩ := Lib.run_append_own_string (P := P) w 0 t u ty e i ht hu hi hz hsize hby v n xs hown s (lim_max hl) (by omega) (Nat.zero_le _)
  refine ⟨v', w', r1, r2, r3, ?_⟩
  rcases hown.2 with ⟨rfl, rfl⟩ | ⟨g, cap, cur, rfl, hbg, hg, hnc, hcm, hcs, htake⟩
  · by_cases hm : s.size = 0
    · left
      rcases r2.2 with ⟨rfl, _⟩ | ⟨g, cap, cur, rfl, _, hg, _, _, _, _⟩
      · rfl
      · exfalso
        have hf := Lib.run_firstCells_string (P := P) w 1 s
        rw [hm] at hf
        have hr : (Builtin.append_ #[t, u] ty #[.slice none 0 0, .string s]).run P w = .ok (.slice none 0 0) w := by
          simp [Builtin.append_, run_underlying ht, run_underlying hu, sizeOf, typeInfo, hi, hsize, Builtin.lenOf, hm, hf]
        rw [hr] at r1
        cases r1
    · right
      have hr := run_append_nil_string (P := P) w t u ty e i (.int .u8 0) ht hu hi hz s (by omega) (by omega) (by rw [hby]; omega)
      rw [hr] at r1
      cases r1
      rfl
  · by_cases hroom : n + s.size ≤ cap
    · left
      have hr := Lib.run_append_room_string (P := P) w t u ty e i ht hu hi hsize g n cap cur hg s hroom (by omega)
      rw [hr] at r1
      cases r1
      rfl
    · right
      have hxl : xs.length = n := by simpa using hown.1
      have holds : ∀ j u, xs[j]? = some u → w.cell? ((⟨g, 0, none⟩ : Addr).add j) = some u := hown.cells (g := g) rfl
      have hr := Lib.run_append_grow_string (P := P) w t u ty e i (.int .u8 0) ht hu hi hz ⟨g, 0, none⟩ n cap xs (by rw [hsize]; simpa using hxl) holds s (by omega) (by omega) (by rw [hby]; exact growslice_fits (by omega) (by omega))
      rw [hr] at r1
      cases r1
      rfl
theorem zeroU8 {k : TK} {l : List ZK} (h : isU8 k l = true) {z : Value} (h1 : z.cells.toList.map zkOf = l.map some) (h2 : isAggV z = aggK k) : z = .int .u8 0 := by
  unfold isU8 at h
  split at h
  · have h3 : isAggV z = false := h2
    cases z with
    | agg cs => cases h3
    | int k n =>
      simp [Value.cells, zkOf] at h1
      obtain ⟨rfl, rfl⟩ := h1
      rfl
    | bool b => simp [Value.cells, zkOf] at h1
    | string s => simp [Value.cells, zkOf] at h1
    | _ =>
      exfalso
      have h4 : [zkOf _] = [some (ZK.int .u8)] := h1
      simp only [List.cons.injEq, and_true] at h4
      unfold zkOf at h4
      split at h4 <;> first | (rename_i q; cases q; done) | simp at h4
  · cases h
theorem strE_cells {I : Im} (s : ByteArray) : RCs I (Lib.strCells s) (strE s).flatten := by
  unfold Lib.strCells strE
  generalize s.data.toList = l
  induction l with
  | nil => exact .nil
  | cons c l ih => exact .cons (.v _ rfl rfl) ih
theorem St.appendS (hX : TabOk P X) (h : St E fr hp I ι a w) {c : Call} {s y : Operand} {t u : TypeId} (ho : o.op = .call c) (hc : c.callee = .builtin .append) (ha : c.args.toList = [s, y]) (ht : c.argTypes.toList = [t, u])
    {e sz' by' su bu : Nat} {zero zu : List ZK} (et : tiOf X t = some ⟨.slice e, sz', by', zero⟩) (eu : tiOf X u = some ⟨.str, su, bu, zu⟩) {i : TI} (ee : tiOf X e = some i) (h1 : i.size = 1) (h2 : i.bytes = 1) (h3 : isU8 i.k i.zero = true) {xs xs' : List El} {hp1 : Hp} (hs : dstOf hp e i.size (opv fr s) = some (xs, hp1)) {b : ByteArray} (hy : opv fr y = .t (.v (.c (.v (.string b)))))
    {d : Nat} (hd : fresh E.k d fr hp = true) (hxs : xs' = xs ++ strE b) (hlim : xs.length + b.size ≤ lim) :
    ∃ v w', (execOp a.eval o).run P w = .ok (.value v) w' ∧ St E fr (setO hp1 d (.row e i.size xs')) I (upd ι d v) a w' ∧ RV I (upd ι d v) v (.t (.v (.rt d))) := by
  have hlen : (strE b).length = b.size := by
    unfold strE
    rw [List.length_map, Array.length_toList]
    rfl
  have hey : a.eval y = .string b := by
    have := opv_sound h y
    rw [hy] at this
    have : RC I (a.eval y) (.v (.string b)) := this
    generalize a.eval y = q at this
    cases this; rfl
  refine h.append0 hX ee hs (fun x hx => ?_) (fun vals q1 => ?_) hd hxs (by rw [hlen]; exact hlim)
  · obtain ⟨c, _, rfl⟩ := List.mem_map.1 hx
    rw [h1]; rfl
  · obtain ⟨_, _, hk⟩ := hX.facts et
    have hdt := kOk_slice hk
    have hdu : P.underlying u = some .string := kOk_str (hX.facts eu).k
    obtain ⟨⟨j, hj, hj1, hj2, zv, hz, hz2, hz3, hz4⟩, _, _⟩ := hX.facts ee
    have hzv := zeroU8 h3 hz2 hz4
    rw [h1] at q1
    obtain ⟨v', w', hr, r2, r3, r4⟩ := run_append_str_at (ty := o.type) hdt hdu hj (by rw [hz, hzv]) (by omega) (by omega) q1 b hlim
    refine ⟨v', w', Lib.strCells b, ?_, by rw [hlen, h1]; exact r2, strE_cells b, r3, r4⟩
    have e1 : c.args = #[s, y] := by rw [← Array.toArray_toList (xs := c.args), ha]
    have e2 : c.argTypes = #[t, u] := by rw [← Array.toArray_toList (xs := c.argTypes), ht]
    simp only [execOp, ho, resolve, hc, e1, e2]
    rw [Sem.run_bind]
    simp only [Sem.run_pure, Result.andThen_ok, invoke, builtin]
    rw [Sem.run_bind]
    have e3 : (#[s, y] : Array Operand).map a.eval = #[a.eval s, a.eval y] := by simp
    rw [e3, hey, hr]
    rfl

theorem run_store {t : TypeId} {x y : Operand} (ho : o.op = .store t x y) {ad : Addr} (hx : a.eval x = .pointer (some ad)) (hr : (storeVar t ad (a.eval y)).run P w = .ok () w') : (execOp a.eval o).run P w = .ok .skip w' := by
  simp only [execOp, ho, hx, Instr.storeAt, Instr.sureAddr]
  simp [hr]

/-- A variable's cells are written. -/
theorem St.storeCells (hX : TabOk P X) (h : St E fr hp I ι a w) {t : TypeId} {x y : Operand} (ho : o.op = .store t x y) {i : TI} (e : tiOf X t = some i) {cs : List CV} (hc : cellsOf (opv fr y) = some cs) (hu : noU cs = true) {id q : Nat} (hx : opv fr x = .t (.v (.ptr id q))) {ty : Nat} {l : List CV}
    (hg : getO hp id = some (.cells ty l)) (hlen : cs.length = i.size) (hle : q + cs.length ≤ l.length) : ∃ w', (execOp a.eval o).run P w = .ok .skip w' ∧ St E fr (setO hp id (.cells ty (splice l q cs))) I ι a w' := by
  obtain ⟨us, hus, hR⟩ := cellsOf_sound (opv_sound h y) hc (noU_spec hu)
  have hxv := opv_sound h x
  rw [hx] at hxv
  obtain ⟨B, h1, h2⟩ := hxv
  obtain ⟨B', vs, h3, h4, h5⟩ := h.rel.obj _ _ hg
  have h3' := h1.symm.trans h3
  simp at h3'; subst h3'
  have hl : us.length = cs.length := hR.len
  have hvl : vs.length = l.length := h5.len
  have hrun := run_storeVar (w := w) hX e h4 hus (by omega) (by omega : q + us.length ≤ vs.length) (fun u hu' => by
    obtain ⟨j, hj⟩ := List.mem_iff_getElem?.1 hu'
    obtain ⟨c, _, hr⟩ := hR.at' j u hj
    exact hr.2)
  refine ⟨_, run_store ho h2 hrun, ?_⟩
  have hnew := setRow_heap w B vs.toArray (vs.take q ++ us ++ vs.drop (q + us.length)).toArray ty (0, 0) h4
  refine h.set hg (by rw [h1]; rfl) rfl rfl rfl (by simp) (fun B' hne => setRow_other w B B' _ hne) ⟨B, _, h1, hnew, ?_⟩
  unfold splice
  rw [hl]
  exact ((h5.take q).append hR).append (h5.drop _)

theorem All2.spl {α β : Type} {R : α → β → Prop} {l x : List α} {m y : List β} (h : All2 R l m) (k : All2 R x y) (q : Nat) : All2 R (Sym.spl l q x) (Sym.spl m q y) := by
  unfold Sym.spl
  rw [k.len]
  exact ((h.take q).append k).append (h.drop _)

/-- An own slice's cells are written. -/
theorem St.storeEl (hX : TabOk P X) (h : St E fr hp I ι a w) {t : TypeId} {x y : Operand} (ho : o.op = .store t x y) {i : TI} (e : tiOf X t = some i) {cs : List CV} {ds : List C} (hc : cellsOf (opv fr y) = some cs) {zs : List Nat} (hds0 : (allD cs).map (toSl zs) = some ds) {sz id n q : Nat} (hx : opv fr x = .t (.v (.el sz id n q))) {ty : Nat} {xs : List El}
    (hg : getO hp id = some (.row ty sz xs)) (hlen : cs.length = i.size) (hle : q + cs.length ≤ sz) {el : El} (hel : xs[n]? = some el) : ∃ w', (execOp a.eval o).run P w = .ok .skip w' ∧ St E fr (setO hp id (.row ty sz (xs.set n (spl el q ds)))) I ι a w' := by
  obtain ⟨ds0, hds, hds1⟩ := Option.map_eq_some_iff.1 hds0
  have hnu : cs ≠ [.u] := fun e => by subst e; cases hds
  obtain ⟨us, hus, hR⟩ := cellsOf_sound (opv_sound h y) hc hnu
  have hRd := toSl_sound (l := zs) (allD_sound hR hds)
  rw [hds1] at hRd
  have hxv := opv_sound h x
  rw [hx] at hxv
  obtain ⟨B, len, cap, h1, h2⟩ := hxv
  obtain ⟨vals, q1, q2, q3, q4⟩ := h.rel.obj _ _ hg
  rcases q1.2 with ⟨r, _⟩ | ⟨g, cap', cur, r, hb0, hgg, hnc, hcm, hcs, htake⟩
  · rw [h1] at r; cases r
  · rw [h1] at r
    simp at r
    obtain ⟨rfl, rfl, rfl⟩ := r
    have hl : us.length = cs.length := hR.len
    have hdl : us.length = ds.length := hRd.len
    have hil : n < xs.length := (List.getElem?_eq_some_iff.1 hel).1
    have hpos : n * sz + q + us.length ≤ xs.length * sz := by
      have : (n + 1) * sz ≤ xs.length * sz := Nat.mul_le_mul_right _ hil
      rw [Nat.succ_mul] at this
      omega
    have hcap : xs.length * sz ≤ cap * sz := Nat.mul_le_mul_right _ hnc
    have hcl : cur.toList.length = cur.size := by simp
    have hgg' : w.heap[B]? = some (.cells cur.toList.toArray ty (0, 0)) := by simpa using hgg
    have hrun := run_storeVar (w := w) hX e hgg' hus (by omega) (by omega : n * sz + q + us.length ≤ cur.toList.length) (fun u hu' => by
      obtain ⟨j, hj⟩ := List.mem_iff_getElem?.1 hu'
      obtain ⟨c, _, hr⟩ := hR.at' j u hj
      exact hr.2)
    refine ⟨_, run_store ho h2 hrun, ?_⟩
    have hnew := setRow_heap w B cur (cur.toList.take (n * sz + q) ++ us ++ cur.toList.drop (n * sz + q + us.length)).toArray ty (0, 0) hgg
    refine h.set hg (by rw [h1]; rfl) rfl rfl rfl (by simp) (fun B' hne => setRow_other w B B' _ hne) ⟨Sym.spl vals (n * sz + q) us, ⟨?_, .inr ⟨B, cap, _, by rw [h1]; simp, Nat.zero_le _, hnew, by simpa using hnc, hcm, ?_, ?_⟩⟩, fun x hx => ?_, ?_, by simpa using q4⟩
    · rw [spl_len _ _ _ (by rw [q1.1]; exact hpos), q1.1]; simp
    · have := spl_len cur.toList (n * sz + q) us (by omega)
      simp only [List.size_toArray]
      unfold Sym.spl at this
      rw [this, hcl, hcs]
    · simp only [List.length_set]
      have hsp : cur.toList.take (n * sz + q) ++ us ++ cur.toList.drop (n * sz + q + us.length) = Sym.spl (cur.toList.take (xs.length * sz)) (n * sz + q) us ++ cur.toList.drop (xs.length * sz) := by
        rw [← spl_left _ _ _ _ (by rw [List.length_take]; omega), List.take_append_drop]
        rfl
      rw [hsp, htake]
      have hl2 : (Sym.spl vals (n * sz + q) us).length = xs.length * sz := by rw [spl_len _ _ _ (by rw [q1.1]; exact hpos), q1.1]
      rw [← hl2]
      exact List.take_left
    · rcases List.mem_or_eq_of_mem_set hx with hx | rfl
      · exact q2 x hx
      · rw [spl_len _ _ _ (by rw [q2 el (List.mem_of_getElem? hel)]; omega)]
        exact q2 el (List.mem_of_getElem? hel)
    · rw [flat_set xs n el q2 hel (by omega)]
      exact All2.spl q3 hRd _

theorem spl_get {α : Type} {l x : List α} {q : Nat} (h : q + x.length ≤ l.length) (k : Nat) : (Sym.spl l q x)[k]? = if q ≤ k ∧ k < q + x.length then x[k - q]? else l[k]? := by
  unfold Sym.spl
  have hl : (l.take q).length = q := by rw [List.length_take]; omega
  by_cases h1 : k < q
  · rw [if_neg (by omega), List.append_assoc, List.getElem?_append_left (by omega), List.getElem?_take, if_pos h1]
  · by_cases h2 : k < q + x.length
    · rw [if_pos ⟨by omega, h2⟩, List.append_assoc, List.getElem?_append_right (by omega), hl, List.getElem?_append_left (by omega)]
    · rw [if_neg (by omega), List.append_assoc, List.getElem?_append_right (by omega), hl, List.getElem?_append_right (by omega), List.getElem?_drop]
      congr 1; omega
theorem ij_eq {sz i j n r : Nat} (hj : j < sz) (hr : r < sz) (h : i * sz + j = n * sz + r) : i = n ∧ j = r := by
  have h1 : (i * sz + j) / sz = i := by rw [Nat.mul_comm, Nat.mul_add_div (by omega), Nat.div_eq_of_lt hj, Nat.add_zero]
  have h2 : (n * sz + r) / sz = n := by rw [Nat.mul_comm, Nat.mul_add_div (by omega), Nat.div_eq_of_lt hr, Nat.add_zero]
  have : i = n := by rw [← h1, h, h2]
  subst this
  exact ⟨rfl, by omega⟩
/-- A cell of an element is within those written, or not. -/
theorem spl_ij {us news : List Value} {sz len n q : Nat} (hu : us.length = len * sz) (hn : n < len) (hq : q + news.length ≤ sz) {i j : Nat} (hj : j < sz) : (Sym.spl us (n * sz + q) news)[i * sz + j]? = if i = n ∧ q ≤ j ∧ j < q + news.length then news[j - q]? else us[i * sz + j]? := by
  have hle : n * sz + q + news.length ≤ us.length := by
    rw [hu]
    have : (n + 1) * sz ≤ len * sz := Nat.mul_le_mul_right _ hn
    rw [Nat.succ_mul] at this; omega
  rw [spl_get hle]
  by_cases h : i = n ∧ q ≤ j ∧ j < q + news.length
  · obtain ⟨rfl, h1, h2⟩ := h
    rw [if_pos (show i * sz + q ≤ i * sz + j ∧ i * sz + j < i * sz + q + news.length by omega), if_pos (show i = i ∧ q ≤ j ∧ j < q + news.length from ⟨rfl, h1, h2⟩)]
    congr 1; omega
  · rw [if_neg (show ¬ (n * sz + q ≤ i * sz + j ∧ i * sz + j < n * sz + q + news.length) from ?_), if_neg h]
    rintro ⟨h1, h2⟩
    have e : i * sz + j = n * sz + (i * sz + j - n * sz) := by omega
    obtain ⟨e1, e2⟩ := ij_eq hj (r := i * sz + j - n * sz) (by omega) e
    exact h ⟨e1, by omega, by omega⟩

/-- Cells of a slice of own slices are written. -/
theorem St.nwrite (hX : TabOk P X) (h : St E fr hp I ι a w) {t : TypeId} {x y : Operand} (ho : o.op = .store t x y) {i : TI} (e : tiOf X t = some i) {news : List Value} (hus : (a.eval y).cells = news.toArray) (hone : ∀ u ∈ news, u.oneCell' = true) (hlen : news.length = i.size)
    {sz id n q : Nat} (hx : opv fr x = .t (.v (.el sz id n q))) {ty len : Nat} {us : List Value} (q1 : w.ownsRow 0 ty sz (ι id) len us) (hn : n < len) (hle : q + news.length ≤ sz) :
    ∃ B c w', ι id = .slice (some ⟨B, 0, none⟩) len c ∧ (execOp a.eval o).run P w = .ok .skip w' ∧ w'.ownsRow 0 ty sz (ι id) len (Sym.spl us (n * sz + q) news) ∧ w'.os = w.os ∧ w'.tape = w.tape ∧ w'.output = w.output ∧ w'.heap.size = w.heap.size ∧ ∀ B', B' ≠ B → w'.heap[B']? = w.heap[B']? := by
  have hxv := opv_sound h x
  rw [hx] at hxv
  obtain ⟨B, len0, cap, h1, h2⟩ := hxv
  rcases q1.2 with ⟨r, _⟩ | ⟨g, cap', cur, r, hb0, hgg, hnc, hcm, hcs, htake⟩
  · rw [h1] at r; cases r
  · rw [h1] at r
    simp at r
    obtain ⟨rfl, rfl, rfl⟩ := r
    have hpos : n * sz + q + news.length ≤ len0 * sz := by
      have : (n + 1) * sz ≤ len0 * sz := Nat.mul_le_mul_right _ hn
      rw [Nat.succ_mul] at this; omega
    have hcap : len0 * sz ≤ cap * sz := Nat.mul_le_mul_right _ hnc
    have hcl : cur.toList.length = cur.size := by simp
    have hgg' : w.heap[B]? = some (.cells cur.toList.toArray ty (0, 0)) := by simpa using hgg
    have hrun := run_storeVar (w := w) hX e hgg' hus (by omega) (by omega : n * sz + q + news.length ≤ cur.toList.length) hone
    have hnew := setRow_heap w B cur (cur.toList.take (n * sz + q) ++ news ++ cur.toList.drop (n * sz + q + news.length)).toArray ty (0, 0) hgg
    refine ⟨B, cap, _, h1, run_store ho h2 hrun, ⟨?_, .inr ⟨B, cap, _, h1, Nat.zero_le _, hnew, hnc, hcm, ?_, ?_⟩⟩, rfl, rfl, rfl, by simp, fun B' hne => setRow_other w B B' _ hne⟩
    · rw [spl_len _ _ _ (by rw [q1.1]; exact hpos), q1.1]
    · have := spl_len cur.toList (n * sz + q) news (by omega)
      simp only [List.size_toArray]
      unfold Sym.spl at this
      rw [this, hcl, hcs]
    · have hsp : cur.toList.take (n * sz + q) ++ news ++ cur.toList.drop (n * sz + q + news.length) = Sym.spl (cur.toList.take (len0 * sz)) (n * sz + q) news ++ cur.toList.drop (len0 * sz) := by
        rw [← spl_left _ _ _ _ (by rw [List.length_take]; omega), List.take_append_drop]
        rfl
      rw [hsp, htake]
      have hl2 : (Sym.spl us (n * sz + q) news).length = len0 * sz := by rw [spl_len _ _ _ (by rw [q1.1]; exact hpos), q1.1]
      rw [← hl2]
      exact List.take_left
theorem inner_at {ty sz p e2 sz2 m : Nat} {hole : List (Nat × Nat)} {xs : List El} {us : List Value} {v : Value} (h : w.ownsRow 0 ty sz v xs.length us) (hm : m ≤ xs.length) (hp : p < sz) (i : Nat) (u : Value) : inner w v (.nrow ty sz p e2 sz2 m hole xs) i u ↔ i < m ∧ (∀ d, (i, d) ∉ hole) ∧ us[i * sz + p]? = some u := by
  refine ⟨fun ⟨h1, h2, g, len, cap, h3, h4⟩ => ⟨h1, h2, ?_⟩, fun ⟨h1, h2, h3⟩ => ?_⟩
  · have hlt : i * sz + p < us.length := by
      rw [h.1]
      have : (i + 1) * sz ≤ xs.length * sz := Nat.mul_le_mul_right _ (by omega)
      rw [Nat.succ_mul] at this; omega
    have := h.cells (g := g) (by rw [h3]; rfl) (i * sz + p) _ (List.getElem?_eq_getElem hlt)
    rw [Addr.add_lit, Nat.zero_add] at this
    rw [List.getElem?_eq_getElem hlt, ← this, h4]
  · obtain ⟨g, cap, h4, h5⟩ := RO.cell (e := ty) (sz := sz) (q := p) (e' := e2) (sz' := sz2) (m := m) (hole := hole) h h3
    exact ⟨h1, h2, g, _, cap, h4, h5⟩
/-- A slice of own slices is told anew when some of its cells have been written. -/
theorem St.nset (h : St E fr hp I ι a w) {id ty sz p e2 sz2 m m' : Nat} {hole hole' : List (Nat × Nat)} {xs xs' : List El} {B c : Nat} (hg : getO hp id = some (.nrow ty sz p e2 sz2 m hole xs)) (hv : ι id = .slice (some ⟨B, 0, none⟩) xs.length c) {us us' : List Value} (q1 : w.ownsRow 0 ty sz (ι id) xs.length us) (q2 : w'.ownsRow 0 ty sz (ι id) xs.length us')
    (h3 : w'.os = w.os) (h4 : w'.tape = w.tape) (h5 : w'.output = w.output) (h6 : w'.heap.size = w.heap.size) (h7 : ∀ B', B' ≠ B → w'.heap[B']? = w.heap[B']?) (hm' : m' ≤ xs.length) (hl : xs'.length = xs.length) (hs : ∀ x ∈ xs', x.length = sz) (hone : ∀ u ∈ us', u.oneCell' = true)
    (hin : ∀ i u, i < m' → (∀ d, (i, d) ∉ hole') → us'[i * sz + p]? = some u → i < m ∧ (∀ d, (i, d) ∉ hole) ∧ us[i * sz + p]? = some u ∧ (xs'[i]?).bind (·[p]?) = (xs[i]?).bind (·[p]?))
    (hcell : ∀ i j x c u, xs'[i]? = some x → x[j]? = some c → us'[i * sz + j]? = some u → ¬ (j = p ∧ i < m') → RC I u c) (hh : ∀ i d, (i, d) ∈ hole' → i < m' ∧ us'[i * sz + p]? = some (ι d)) : St E fr (setO hp id (.nrow ty sz p e2 sz2 m' hole' xs')) I ι a w' := by
  obtain ⟨⟨us0, k1, k2, k3, k4, k5, k6, k7, k8, k9⟩, ko⟩ := h.rel.obj _ _ hg
  have hus : us0 = us := by
    have e1 : ∀ k u, us0[k]? = some u → us[k]? = some u := fun k u hu => by
      have hlt : k < us.length := by rw [q1.1, ← k1.1]; exact (List.getElem?_eq_some_iff.1 hu).1
      have a1 := k1.cells (g := B) (by rw [hv]; rfl) k u hu
      have a2 := q1.cells (g := B) (by rw [hv]; rfl) k _ (List.getElem?_eq_getElem hlt)
      rw [a1] at a2
      rw [List.getElem?_eq_getElem hlt]; exact a2.symm
    refine List.ext_getElem? fun k => ?_
    by_cases hk : k < us0.length
    · rw [List.getElem?_eq_getElem hk]; exact (e1 k _ (List.getElem?_eq_getElem hk)).symm
    · rw [List.getElem?_eq_none (by omega), List.getElem?_eq_none (by rw [q1.1, ← k1.1]; omega)]
  subst hus
  have q2' : w'.ownsRow 0 ty sz (ι id) xs'.length us' := by rw [hl]; exact q2
  have hback : ∀ i u, inner w' (ι id) (.nrow ty sz p e2 sz2 m' hole' xs') i u → inner w (ι id) (.nrow ty sz p e2 sz2 m hole xs) i u := fun i u hi => by
    obtain ⟨a1, a2, a3⟩ := (inner_at q2' (by rw [hl]; exact hm') k5 i u).1 hi
    obtain ⟨b0, b1, b2, _⟩ := hin i u a1 a2 a3
    exact (inner_at k1 k4 k5 i u).2 ⟨b0, b1, b2⟩
  refine h.set' hg (by rw [hv]; rfl) h3 h4 h5 h6 h7 ⟨⟨us', q2', hs, by rw [hl]; exact k3, by rw [hl]; exact hm', k5, hone, hcell, fun i x u hi hd hx hu => ?_, hh⟩, ⟨fun i u B' hi => ko.base i u B' (hback i u hi), fun i j u u' B' hi hj => ko.each i j u u' B' (hback i u hi) (hback j u' hj)⟩⟩ fun B' hB => hB.imp (fun q => q) fun ⟨i, u, hi, hb⟩ => ⟨i, u, hback i u hi, hb⟩
  obtain ⟨b0, b1, b2, b3⟩ := hin i u hi hd hu
  rw [hx] at b3
  cases hx0 : xs[i]? with
  | none =>
    have := (List.getElem?_eq_some_iff.1 hx).1
    rw [hl] at this
    rw [List.getElem?_eq_getElem this] at hx0; cases hx0
  | some x0 =>
    rw [hx0] at b3
    obtain ⟨ys, c1, c2⟩ := k8 i x0 u b0 b1 hx0 b2
    refine ⟨ys, by rw [← c1]; exact b3, c2.cong (Im.le_refl _) fun B' hB' => h7 B' fun e => ?_⟩
    exact ko.base i u B ((inner_at k1 k4 k5 i u).2 ⟨b0, b1, b2⟩) (e ▸ hB') (by rw [hv]; rfl)
theorem St.nstoreD (hX : TabOk P X) (h : St E fr hp I ι a w) {t : TypeId} {x y : Operand} (ho : o.op = .store t x y) {i : TI} (e : tiOf X t = some i) {cs : List CV} {ds : List C} (hc : cellsOf (opv fr y) = some cs) {zs : List Nat} (hds0 : (allD cs).map (toSl zs) = some ds) {sz id n q : Nat} (hx : opv fr x = .t (.v (.el sz id n q))) {ty p e2 sz2 m : Nat} {hole : List (Nat × Nat)} {xs : List El}
    (hg : getO hp id = some (.nrow ty sz p e2 sz2 m hole xs)) (hlen : cs.length = i.size) (hle : q + cs.length ≤ sz) (hpq : p < q ∨ q + cs.length ≤ p) {el : El} (hel : xs[n]? = some el) : ∃ w', (execOp a.eval o).run P w = .ok .skip w' ∧ St E fr (setO hp id (.nrow ty sz p e2 sz2 m hole (xs.set n (Sym.spl el q ds)))) I ι a w' := by
  obtain ⟨ds0, hds, hds1⟩ := Option.map_eq_some_iff.1 hds0
  have hnu : cs ≠ [.u] := fun e => by subst e; cases hds
  obtain ⟨news, hus, hR⟩ := cellsOf_sound (opv_sound h y) hc hnu
  have hRd := toSl_sound (l := zs) (allD_sound hR hds)
  rw [hds1] at hRd
  have hnl : news.length = cs.length := hR.len
  have hdl : news.length = ds.length := hRd.len
  have hn : n < xs.length := (List.getElem?_eq_some_iff.1 hel).1
  obtain ⟨⟨us, k1, k2, k3, k4, k5, k6, k7, k8, k9⟩, ko⟩ := h.rel.obj _ _ hg
  have hell : el.length = sz := k2 el (List.mem_of_getElem? hel)
  obtain ⟨B, c, w', hv, hrun, q2, h3, h4, h5, h6, h7⟩ := h.nwrite hX ho e hus (fun u hu => hRd.one u hu) (by omega) hx k1 hn (by omega)
  have hij : ∀ i j, j < sz → (Sym.spl us (n * sz + q) news)[i * sz + j]? = if i = n ∧ q ≤ j ∧ j < q + news.length then news[j - q]? else us[i * sz + j]? := fun i j hj => spl_ij k1.1 hn (by omega) hj
  have hsl : (Sym.spl el q ds).length = sz := by rw [spl_len _ _ _ (by omega), hell]
  refine ⟨w', hrun, h.nset hg hv k1 q2 h3 h4 h5 h6 h7 k4 (by simp) (fun x hx => ?_) (fun u hu => ?_) (fun i u hi hd hu => ?_) (fun i j x c u hx hc hu hnot => ?_) fun i d hd => ?_⟩
  · rcases List.mem_or_eq_of_mem_set hx with hx | rfl
    · exact k2 x hx
    · exact hsl
  · unfold Sym.spl at hu
    rcases List.mem_append.1 hu with hu | hu
    · rcases List.mem_append.1 hu with hu | hu
      · exact k6 u (List.mem_of_mem_take hu)
      · exact hRd.one u hu
    · exact k6 u (List.mem_of_mem_drop hu)
  · rw [hij i p k5, if_neg (by omega)] at hu
    refine ⟨hi, hd, hu, ?_⟩
    by_cases e1 : i = n
    · subst e1
      rw [List.getElem?_set_self hn, hel]
      show (Sym.spl el q ds)[p]? = el[p]?
      rw [spl_get (by omega), if_neg (by omega)]
    · rw [List.getElem?_set_ne (fun e => e1 e.symm)]
  · have hj : j < sz := by
      have h1 := (List.getElem?_eq_some_iff.1 hc).1
      have h2 : x.length = sz := by
        rcases List.mem_or_eq_of_mem_set (List.mem_of_getElem? hx) with hx | rfl
        · exact k2 x hx
        · exact hsl
      omega
    rw [hij i j hj] at hu
    by_cases e1 : i = n
    · subst e1
      rw [List.getElem?_set_self hn] at hx; cases hx
      rw [spl_get (by omega)] at hc
      by_cases e2 : q ≤ j ∧ j < q + news.length
      · rw [if_pos ⟨rfl, e2.1, e2.2⟩] at hu
        rw [if_pos (by omega)] at hc
        obtain ⟨u', hu', hr⟩ := hRd.at _ _ hc
        rw [hu] at hu'; cases hu'; exact hr
      · rw [if_neg (fun q => e2 q.2)] at hu
        rw [if_neg (by omega)] at hc
        exact k7 _ j el c u hel hc hu hnot
    · rw [if_neg (fun q => e1 q.1)] at hu
      rw [List.getElem?_set_ne (fun e => e1 e.symm)] at hx
      exact k7 i j x c u hx hc hu hnot
  · obtain ⟨a1, a2⟩ := k9 i d hd
    exact ⟨a1, by rw [hij i p k5, if_neg (by omega)]; exact a2⟩
theorem St.nstoreH (hX : TabOk P X) (h : St E fr hp I ι a w) {t : TypeId} {x y : Operand} (ho : o.op = .store t x y) {i : TI} (e : tiOf X t = some i) {d : Nat} (hc : cellsOf (opv fr y) = some [.rt d]) {sz id n : Nat} {ty p e2 sz2 m d0 : Nat} {hole : List (Nat × Nat)} {xs : List El} (hx : opv fr x = .t (.v (.el sz id n p)))
    (hg : getO hp id = some (.nrow ty sz p e2 sz2 m hole xs)) (hj : holeOf hole d0 = some n) (hni : notIn (dropD hole d0) n) (hlen : i.size = 1) : ∃ w', (execOp a.eval o).run P w = .ok .skip w' ∧ St E fr (setO hp id (.nrow ty sz p e2 sz2 m ((n, d) :: dropD hole d0) xs)) I ι a w' := by
  obtain ⟨news, hus, hR⟩ := cellsOf_sound (opv_sound h y) hc (by simp)
  obtain ⟨⟨us, k1, k2, k3, k4, k5, k6, k7, k8, k9⟩, ko⟩ := h.rel.obj _ _ hg
  obtain ⟨hnm, hu0⟩ := k9 n d0 (holeOf_mem hj)
  have hn : n < xs.length := by omega
  obtain ⟨u, rfl, hud⟩ : ∃ u, news = [u] ∧ u = ι d ∧ u.oneCell' = true := by
    cases hR with
    | cons h1 h2 => cases h2; exact ⟨_, rfl, h1.1.1, h1.2⟩
  obtain ⟨rfl, hone⟩ := hud
  obtain ⟨B, c, w', hv, hrun, q2, h3, h4, h5, h6, h7⟩ := h.nwrite hX ho e hus (fun u hu => by simp at hu; subst hu; exact hone) (by simp [hlen]) hx k1 hn (by simp; omega)
  have hij : ∀ i j, j < sz → (Sym.spl us (n * sz + p) [ι d])[i * sz + j]? = if i = n ∧ p ≤ j ∧ j < p + 1 then [ι d][j - p]? else us[i * sz + j]? := fun i j hj => spl_ij k1.1 hn (by simp; omega) hj
  refine ⟨w', hrun, h.nset hg hv k1 q2 h3 h4 h5 h6 h7 k4 rfl k2 (fun u hu => ?_) (fun i u hi hd hu => ?_) (fun i j x c u hx hc hu hnot => ?_) fun i0 d' hd => ?_⟩
  · unfold Sym.spl at hu
    rcases List.mem_append.1 hu with hu | hu
    · rcases List.mem_append.1 hu with hu | hu
      · exact k6 u (List.mem_of_mem_take hu)
      · simp at hu; subst hu; exact hone
    · exact k6 u (List.mem_of_mem_drop hu)
  · have e1 : i ≠ n := fun e => hd d (by rw [e]; exact List.mem_cons_self ..)
    rw [hij i p k5, if_neg (fun q => e1 q.1)] at hu
    exact ⟨hi, fun d' e => (dropD_mem hj e).elim (fun q => hd d' (List.mem_cons_of_mem _ q)) e1, hu, rfl⟩
  · have hj : j < sz := by
      have h1 := (List.getElem?_eq_some_iff.1 hc).1
      have h2 : x.length = sz := k2 x (List.mem_of_getElem? hx)
      omega
    have e2 : ¬ (i = n ∧ p ≤ j ∧ j < p + 1) := fun ⟨e1, e2, e3⟩ => hnot ⟨by omega, by omega⟩
    rw [hij i j hj, if_neg e2] at hu
    exact k7 i j x c u hx hc hu hnot
  · rcases List.mem_cons.1 hd with hd | hd
    · cases hd
      refine ⟨hnm, ?_⟩
      rw [hij n p k5, if_pos ⟨rfl, Nat.le_refl _, Nat.lt_succ_self _⟩]
      simp
    · have e1 : i0 ≠ n := fun e => notIn_not hni d' (e ▸ hd)
      obtain ⟨a1, a2⟩ := k9 i0 d' (mem_dropD hd)
      exact ⟨a1, by rw [hij i0 p k5, if_neg (fun q => e1 q.1)]; exact a2⟩

/-- The next element's cell is given an own slice. -/
theorem St.nstoreX (hX : TabOk P X) (h : St E fr hp I ι a w) {t : TypeId} {x y : Operand} (ho : o.op = .store t x y) {i : TI} (e : tiOf X t = some i) {d : Nat} (hc : cellsOf (opv fr y) = some [.rt d]) {sz id n : Nat} {ty p e2 sz2 m : Nat} {hole : List (Nat × Nat)} {xs : List El} (hx : opv fr x = .t (.v (.el sz id n p)))
    (hg : getO hp id = some (.nrow ty sz p e2 sz2 m hole xs)) (hnm : n = m) (hn : n < xs.length) (hlen : i.size = 1) : ∃ w', (execOp a.eval o).run P w = .ok .skip w' ∧ St E fr (setO hp id (.nrow ty sz p e2 sz2 (m + 1) ((n, d) :: hole) xs)) I ι a w' := by
  obtain ⟨news, hus, hR⟩ := cellsOf_sound (opv_sound h y) hc (by simp)
  obtain ⟨⟨us, k1, k2, k3, k4, k5, k6, k7, k8, k9⟩, ko⟩ := h.rel.obj _ _ hg
  obtain ⟨u, rfl, hud⟩ : ∃ u, news = [u] ∧ u = ι d ∧ u.oneCell' = true := by
    cases hR with
    | cons h1 h2 => cases h2; exact ⟨_, rfl, h1.1.1, h1.2⟩
  obtain ⟨rfl, hone⟩ := hud
  obtain ⟨B, c, w', hv, hrun, q2, h3, h4, h5, h6, h7⟩ := h.nwrite hX ho e hus (fun u hu => by simp at hu; subst hu; exact hone) (by simp [hlen]) hx k1 hn (by simp; omega)
  have hij : ∀ i j, j < sz → (Sym.spl us (n * sz + p) [ι d])[i * sz + j]? = if i = n ∧ p ≤ j ∧ j < p + 1 then [ι d][j - p]? else us[i * sz + j]? := fun i j hj => spl_ij k1.1 hn (by simp; omega) hj
  refine ⟨w', hrun, h.nset (m' := m + 1) hg hv k1 q2 h3 h4 h5 h6 h7 (by omega) rfl k2 (fun u hu => ?_) (fun i u hi hd hu => ?_) (fun i j x c u hx hc hu hnot => ?_) fun i0 d' hd => ?_⟩
  · unfold Sym.spl at hu
    rcases List.mem_append.1 hu with hu | hu
    · rcases List.mem_append.1 hu with hu | hu
      · exact k6 u (List.mem_of_mem_take hu)
      · simp at hu; subst hu; exact hone
    · exact k6 u (List.mem_of_mem_drop hu)
  · have e1 : i ≠ n := fun e => hd d (by rw [e]; exact List.mem_cons_self ..)
    rw [hij i p k5, if_neg (fun q => e1 q.1)] at hu
    exact ⟨by omega, fun d' q => hd d' (List.mem_cons_of_mem _ q), hu, rfl⟩
  · have hj : j < sz := by
      have h1 := (List.getElem?_eq_some_iff.1 hc).1
      have h2 : x.length = sz := k2 x (List.mem_of_getElem? hx)
      omega
    have e2 : ¬ (i = n ∧ p ≤ j ∧ j < p + 1) := fun ⟨e1, e2, e3⟩ => hnot ⟨by omega, by omega⟩
    rw [hij i j hj, if_neg e2] at hu
    exact k7 i j x c u hx hc hu fun q => hnot ⟨q.1, by omega⟩
  · rcases List.mem_cons.1 hd with hd | hd
    · cases hd
      refine ⟨by omega, ?_⟩
      rw [hij n p k5, if_pos ⟨rfl, Nat.le_refl _, Nat.lt_succ_self _⟩]
      simp
    · obtain ⟨a1, a2⟩ := k9 i0 d' hd
      have e1 : i0 ≠ n := by omega
      exact ⟨by omega, by rw [hij i0 p k5, if_neg (fun q => e1 q.1)]; exact a2⟩

/-- To a slice of own slices some elements are appended. -/
theorem St.appendN (hX : TabOk P X) (h : St E fr hp I ι a w) {c : Call} {s y : Operand} {t : TypeId} (ho : o.op = .call c) (hc : c.callee = .builtin .append) (ha : c.args.toList = [s, y]) (ht : c.argTypes.toList = [t, t])
    {e sz' by' : Nat} {zero : List ZK} (et : tiOf X t = some ⟨.slice e, sz', by', zero⟩) {i : TI} (ee : tiOf X e = some i) {id p e2 sz2 m : Nat} {hole : List (Nat × Nat)} {xs ys : List El} (hs : opv fr s = .t (.v (.rt id))) (hg : getO hp id = some (.nrow e i.size p e2 sz2 m hole xs)) (hy : srcOf hp i.size (opv fr y) = some ys)
    (hby : i.bytes ≤ 128) {d : Nat} (hd : fresh E.k d fr hp = true) (hlim : xs.length + ys.length ≤ lim) :
    ∃ v w', (execOp a.eval o).run P w = .ok (.value v) w' ∧ St E fr (setO (delO hp id) d (.nrow e i.size p e2 sz2 m hole (xs ++ ys))) I (upd ι d v) a w' ∧ RV I (upd ι d v) v (.t (.v (.rt d))) := by
  have hpos := (hX.facts ee).pos
  obtain ⟨A, cc, hu, hnews, hys⟩ := srcOf_sound h (opv_sound h y) hpos hy
  obtain ⟨hd1, hd2⟩ := fresh_spec hd
  have hx := opv_sound h s
  rw [hs] at hx
  have hvx : a.eval s = ι id := hx.1
  have hRO := h.rel.obj _ _ hg
  obtain ⟨⟨us, k1, k2, k3, k4, k5, k6, k7, k8, k9⟩, ko⟩ := hRO
  obtain ⟨A0, c0, hform⟩ := own_slice k1
  have hob := ownBlock_eq hform
  have hfr := (freshB_ob hd1 hg)
  obtain ⟨v', w', news, hr, hown, hR, hgr, hat⟩ := run_appendOwn (I := I) hX et ee k1 hu hnews hys hlim hby o.type
  have hrun : (execOp a.eval o).run P w = .ok (.value v') w' := by
    have h1 : c.args = #[s, y] := by rw [← Array.toArray_toList (xs := c.args), ha]
    have h2 : c.argTypes = #[t, t] := by rw [← Array.toArray_toList (xs := c.argTypes), ht]
    simp only [execOp, ho, resolve, hc, h1, h2]
    rw [Sem.run_bind]
    simp only [Sem.run_pure, Result.andThen_ok, invoke, builtin]
    rw [Sem.run_bind]
    have h3 : (#[s, y] : Array Operand).map a.eval = #[ι id, a.eval y] := by simp [hvx]
    rw [h3, hr]
    rfl
  obtain ⟨A1, c1, hform'⟩ := own_slice hown
  have hob' := ownBlock_eq hform'
  have hown' : w'.ownsRow 0 e i.size v' (xs ++ ys).length (us ++ news) := by simpa using hown
  have hownId : ∀ B, owns w (ι id) (.nrow e i.size p e2 sz2 m hole xs) B → (E.w0.heap.size ≤ B ∨ E.L B) ∧ B < w.heap.size ∧ ∀ o, I B o = none := fun B hB => h.rel.own id _ hg B hB
  have hlt : ∀ i', i' < m → i' * i.size + p < us.length := fun i' hi' => by
    rw [k1.1]
    have : (i' + 1) * i.size ≤ xs.length * i.size := Nat.mul_le_mul_right _ (by omega)
    rw [Nat.succ_mul] at this; omega
  have hinner : ∀ j u, inner w' v' (.nrow e i.size p e2 sz2 m hole (xs ++ ys)) j u ↔ inner w (ι id) (.nrow e i.size p e2 sz2 m hole xs) j u := fun j u => by
    rw [inner_at hown' (by simp; omega) k5, inner_at k1 k4 k5]
    refine and_congr_right fun hj => and_congr Iff.rfl ?_
    rw [List.getElem?_append_left (hlt j hj)]
  have hkeepB : ∀ B, B < w.heap.size → blockOf (ι id) ≠ some B → w'.heap[B]? = w.heap[B]? := fun B h1 h2 => hgr.block B h1 (by rw [hob]; exact fun q => h2 q.symm)
  have hkeep : ∀ j u, inner w (ι id) (.nrow e i.size p e2 sz2 m hole xs) j u → ∀ B, blockOf u = some B → w'.heap[B]? = w.heap[B]? := fun j u hj B hB => hkeepB B (hownId B (.inr ⟨j, u, hj, hB⟩)).2.1 (ko.base j u B hj hB)
  have hnb : ∀ B, blockOf v' = some B → blockOf (ι id) = some B ∨ B = w.heap.size := fun B hB => by
    rcases hat with r | r
    · rw [hob, hob', hB] at r; exact .inl r.symm
    · rw [hob', hB] at r; simp at r; exact .inr r
  have hnown : ∀ B, owns w' v' (.nrow e i.size p e2 sz2 m hole (xs ++ ys)) B → owns w (ι id) (.nrow e i.size p e2 sz2 m hole xs) B ∨ B = w.heap.size := fun B hB => by
    rcases hB with hB | ⟨j, u, hj, hB⟩
    · exact (hnb B hB).imp .inl (fun q => q)
    · exact .inl (.inr ⟨j, u, (hinner j u).1 hj, hB⟩)
  refine ⟨v', w', hrun, ?_, (upd_same ι d v').symm, by rw [hform']; rfl⟩
  have hagr : Agr I w' := h.agr.step fun B ⟨o', ho'⟩ => by
    have hlt : B < w.heap.size := by
      rcases Nat.lt_or_ge B w.heap.size with q | q
      · exact q
      · exact (ho' (h.agr.free q o')).elim
    exact hkeepB B hlt fun q => ho' ((hownId B (.inl q)).2.2 o')
  have hx : Ext (fun B => blockOf (ι id) = some B) I w I w' := ⟨⟨hgr.os, hgr.tape, hgr.output, hgr.size, fun k hk hnk => hkeepB k hk hnk⟩, Im.le_refl I, fun _ _ _ e => .inl e, hagr⟩
  have hd1' : freshB d fr (delO hp id) = true := by
    simp only [freshB, Bool.and_eq_true, List.all_eq_true] at hd1 ⊢
    refine ⟨hd1.1, fun q hq => hd1.2 q ?_⟩
    have hmem : ∀ (l : Hp), q ∈ delO l id → q ∈ l := fun l => by
      induction l with
      | nil => intro hq; simp [delO] at hq
      | cons p0 r ih =>
        intro hq
        obtain ⟨k0, x0⟩ := p0
        simp only [delO] at hq
        cases hk : k0 == id with
        | true => rw [hk] at hq; simp at hq; exact List.mem_cons_of_mem _ (ih hq)
        | false =>
          rw [hk] at hq; simp at hq
          rcases hq with rfl | hq
          · simp
          · exact List.mem_cons_of_mem _ (ih hq)
    exact hmem hp hq
  have h1 := h.del id
  have hoth : ∀ j ob, getO (delO hp id) j = some ob → getO hp j = some ob ∧ j ≠ id := fun j ob hj => by
    rw [getO_delO] at hj
    split at hj
    · cases hj
    · rename_i hne; exact ⟨hj, hne⟩
  have hdis : ∀ j ob, getO (delO hp id) j = some ob → ∀ B, owns w (ι j) ob B → ¬ owns w (ι id) (.nrow e i.size p e2 sz2 m hole xs) B := fun j ob hj B h1 h2 => (hoth j ob hj).2 (h.rel.inj _ _ _ _ (hoth j ob hj).1 hg B h1 h2)
  refine h1.step hx (fun B hB => (hownId B (.inl hB)).1) (fun j hj => upd_ne ι v' (show j ≠ d by omega)) ?_
  refine h1.rel.new' hd1' hgr.size (fun j ob hj B hB => ?_) ?_ fun B hB => ?_
  · have hltB := (h1.rel.own j ob hj B hB).2.1
    refine ⟨hkeepB B hltB fun q => hdis j ob hj B hB (.inl q), fun q => ?_⟩
    rcases hnown B q with r | r
    · exact hdis j ob hj B hB r
    · omega
  · refine ⟨⟨us ++ news, hown', fun x hx => ?_, by simpa using hlim, by simp; omega, k5, fun u hu => ?_, fun i' j x c u hx hc hu hn => ?_, fun i' x u hi' hd' hx hu => ?_, fun i' d' hd' => ?_⟩, ⟨fun j u B hj hB hv => ?_, fun j1 j2 u1 u2 B a1 a2 => ko.each j1 j2 u1 u2 B ((hinner _ _).1 a1) ((hinner _ _).1 a2)⟩⟩
    · rcases List.mem_append.1 hx with hx | hx
      · exact k2 x hx
      · exact hys x hx
    · rcases List.mem_append.1 hu with hu | hu
      · exact k6 u hu
      · exact hR.one u hu
    · have hxl : x.length = i.size := by
        rcases List.mem_append.1 (List.mem_of_getElem? hx) with hx | hx
        · exact k2 x hx
        · exact hys x hx
      have hj : j < i.size := by rw [← hxl]; exact (List.getElem?_eq_some_iff.1 hc).1
      by_cases hil : i' < xs.length
      · have hpos' : i' * i.size + j < us.length := by
          rw [k1.1]
          have : (i' + 1) * i.size ≤ xs.length * i.size := Nat.mul_le_mul_right _ hil
          rw [Nat.succ_mul] at this; omega
        rw [List.getElem?_append_left hil] at hx
        rw [List.getElem?_append_left hpos'] at hu
        exact k7 i' j x c u hx hc hu hn
      · rw [List.getElem?_append_right (by omega)] at hx
        have e1 : i' * i.size + j = us.length + ((i' - xs.length) * i.size + j) := by
          rw [k1.1, ← Nat.add_assoc, ← Nat.add_mul]; congr 2; omega
        rw [List.getElem?_append_right (by omega), e1, Nat.add_sub_cancel_left] at hu
        have hfl : ys.flatten[(i' - xs.length) * i.size + j]? = some c := by
          rw [flat_get hpos ys hys]
          have h4 : ((i' - xs.length) * i.size + j) / i.size = i' - xs.length := by rw [Nat.mul_comm, Nat.mul_add_div hpos, Nat.div_eq_of_lt hj, Nat.add_zero]
          have h5 : ((i' - xs.length) * i.size + j) % i.size = j := by rw [Nat.mul_comm, Nat.mul_add_mod, Nat.mod_eq_of_lt hj]
          rw [h4, h5, hx]; exact hc
        obtain ⟨u', hu', hr'⟩ := hR.at _ _ hfl
        rw [hu] at hu'; cases hu'; exact hr'
    · rw [List.getElem?_append_left (by omega)] at hx
      rw [List.getElem?_append_left (hlt i' hi')] at hu
      obtain ⟨ys', c1, c2⟩ := k8 i' x u hi' hd' hx hu
      exact ⟨ys', c1, c2.cong (Im.le_refl _) fun B hB => hkeep i' u ((inner_at k1 k4 k5 i' u).2 ⟨hi', hd', hu⟩) B hB⟩
    · obtain ⟨b1, b2⟩ := k9 i' d' hd'
      have hne : d' ≠ d := fun e => hfr.2 (List.mem_map.2 ⟨(i', d'), hd', e⟩)
      rw [upd_ne ι v' hne, List.getElem?_append_left (hlt i' b1)]
      exact ⟨b1, b2⟩
    · have hj' := (hinner j u).1 hj
      rcases hnb B hv with r | r
      · exact ko.base j u B hj' hB r
      · have := (hownId B (.inr ⟨j, u, hj', hB⟩)).2.1; omega
  · rcases hnown B hB with r | r
    · obtain ⟨o1, o2, o3⟩ := hownId B r
      exact ⟨o1, Nat.lt_of_lt_of_le o2 hgr.size, o3⟩
    · subst r
      refine ⟨.inl h.below.size, ?_, h.agr.free (Nat.le_refl _)⟩
      rcases hB with hB | ⟨j, u, hj, hB⟩
      · rcases hown.2 with ⟨q, _⟩ | ⟨g, cap, cur, q, _, hgg, _⟩
        · rw [q] at hB; cases hB
        · rw [q] at hB; simp [blockOf] at hB; subst hB
          exact (Array.getElem?_eq_some_iff.1 hgg).1
      · have := (hownId _ (.inr ⟨j, u, (hinner j u).1 hj, hB⟩)).2.1; omega

/-- An own object is given up; its block is written. -/
theorem St.delW (h : St E fr hp I ι a w) {id B : Nat} {ob : Ob} (hg : getO hp id = some ob) (hB : owns w (ι id) ob B) (hos : w'.os = w.os) (htp : w'.tape = w.tape) (hout : w'.output = w.output) (hs : w'.heap.size = w.heap.size) (hk : ∀ B', B' ≠ B → w'.heap[B']? = w.heap[B']?) : St E fr (delO hp id) I ι a w' := by
  obtain ⟨o1, o2, o3⟩ := h.rel.own id ob hg B hB
  have hne : ∀ b o v, I b o = some v → b ≠ B := fun b o v hb e => by rw [e, o3] at hb; cases hb
  have hd := h.del id
  refine hd.step (L := fun B' => B' = B) ⟨⟨hos, htp, hout, by rw [hs]; exact Nat.le_refl _, fun k _ hn => hk k hn⟩, Im.le_refl _, fun b o v hb => .inl hb, fun b o v hb => ?_⟩ (fun B' e => by rw [e]; exact o1) (fun _ _ => rfl) (hd.rel.move (Im.le_refl _) (by rw [hs]; exact Nat.le_refl _) fun id' ob' hg' B' hB' => ⟨hk B' fun e => ?_, (hd.rel.own id' ob' hg' B' hB').2.2⟩)
  · rw [cell_cong (hk b (hne b o v hb))]; exact h.agr b o v hb
  · subst e
    rw [getO_delO] at hg'
    split at hg'
    · cases hg'
    · rename_i hne
      exact hne (h.rel.inj id' id ob' ob hg' hg B' hB' hB)
theorem strE_inj {I : Im} : ∀ {l : List UInt8} {vs : List Value}, RCs I vs (l.map fun c => [C.v (.int .u8 (c.toNat : Int))]).flatten → vs = l.map fun c => Value.int .u8 (c.toNat : Int)
  | [], vs, h => by
    have h : RCs I vs [] := h
    cases h; rfl
  | c :: l, vs, h => by
    have h : RCs I vs (C.v (.int .u8 (c.toNat : Int)) :: (l.map fun c => [C.v (.int .u8 (c.toNat : Int))]).flatten) := h
    cases h with
    | cons h1 h2 =>
      cases h1
      rw [strE_inj h2]; rfl
/-- unsafe.String of own bytes: they are given up. -/
theorem St.unsafeString (h : St E fr hp I ι a w) {c : Call} {p n : Operand} {pt it : TypeId} (ho : o.op = .call c) (hc : c.callee = .builtin .unsafeString) (ha : c.args.toList = [p, n]) (ht : c.argTypes.toList = [pt, it]) {id e : Nat} {xs : List El} {b : ByteArray} (hp' : opv fr p = .t (.v (.el 1 id 0 0))) {m : Int} (hn : opv fr n = .t (.v (.c (.v (.int .i64 m)))))
    (hg : getO hp id = some (.row e 1 xs)) (hP : P.underlying pt = some (.pointer e)) (hC : P.cellsOf e = 1) (hxs : xs = strE b) (hm : m = (xs.length : Int)) (h0 : 0 < xs.length) :
    ∃ w', (execOp a.eval o).run P w = .ok (.value (.string b)) w' ∧ St E fr (delO hp id) I ι a w' ∧ RC I (.string b) (.v (.string b)) := by
  have hlim : lim = 1099511627776 := rfl
  have hpv := opv_sound h p
  rw [hp'] at hpv
  obtain ⟨B, len, cp, hv, hpe⟩ := hpv
  have hnv := eval_v h hn
  obtain ⟨vals, q1, q2, q3, q4⟩ := h.rel.obj _ _ hg
  have hlen : xs.length = b.size := by rw [hxs]; unfold strE; rw [List.length_map, Array.length_toList]; rfl
  rcases q1.2 with ⟨r, _⟩ | ⟨g, cap, cur, r, hb0, hgg, hnc, hcm, hcs, htake⟩
  · rw [hv] at r; cases r
  rw [hv] at r
  simp at r
  obtain ⟨rfl, rfl, rfl⟩ := r
  have hvals : vals = b.data.toList.map fun c => Value.int .u8 (c.toNat : Int) := strE_inj (by rw [hxs] at q3; exact q3)
  have hl : b.data.toList.length = xs.length := by rw [hlen, Array.length_toList]; rfl
  have hrun : (Builtin.unsafeString_ #[pt, it] o.type #[.pointer (some ⟨B, 0, none⟩), .int .i64 (b.data.toList.length : Int)]).run P w = .ok (.string ⟨b.data.toList.toArray⟩) (w.freeze ⟨B, 0, none⟩ b.data.toList.length) :=
    Lib.run_unsafeString_row w pt it o.type e hP hC B cur.size (by simp [World.shape?, hgg]) b.data.toList (fun q => by rw [q] at hl; simp at hl; omega) (by omega) (by unfold maxLen at hcm; omega) fun j x hx => by
      refine q1.cells (g := B) (by rw [hv]; rfl) j _ ?_
      rw [hvals, List.getElem?_map, hx]; rfl
  have hbs : (⟨b.data.toList.toArray⟩ : ByteArray) = b := by rw [Array.toArray_toList]
  rw [hbs] at hrun
  have hok : okV (.string b) = true := by simp only [okV]; rw [Nat.ble_eq]; omega
  refine ⟨w.freeze ⟨B, 0, none⟩ b.data.toList.length, ?_, h.delW (B := B) hg (.inl (by rw [hv]; rfl)) ?_ ?_ ?_ ?_ fun B' hne => ?_, .v _ rfl hok⟩
  · have h1 : c.args = #[p, n] := by rw [← Array.toArray_toList (xs := c.args), ha]
    have h2 : c.argTypes = #[pt, it] := by rw [← Array.toArray_toList (xs := c.argTypes), ht]
    simp only [execOp, ho, resolve, hc, h1, h2]
    rw [Sem.run_bind]
    simp only [Sem.run_pure, Result.andThen_ok, invoke, builtin]
    rw [Sem.run_bind]
    have h3 : (#[p, n] : Array Operand).map a.eval = #[a.eval p, a.eval n] := by simp
    have h4 : a.eval p = .pointer (some ⟨B, 0, none⟩) := by rw [hpe]
    rw [h3, h4, hnv, hm, ← hl, hrun]
    rfl
  all_goals unfold World.freeze
  all_goals split <;> first | rfl | simp
  simp [Array.getElem?_modify, Ne.symm hne]
end
end Go.Proofs.Ytajmjfdopminbaa.Sym
