/- Sym: evalE tells what each operation does. Conditions: the table of types is the program's (TabOk). -/
import Derived.Test.YtajmjfdopminbaaSymi
import Derived.Lib.AppendZeros
set_option linter.unusedVariables false
set_option linter.unusedSimpArgs false
namespace Go.Proofs.Ytajmjfdopminbaa.Sym
open Go Go.RowKit

section
variable {P : Program} {X : Tab} {E : Env} {w w' : World} {I : Im} {ι : Lo} {fr : Fr} {hp : Hp} {a : Act} {o : Oper}

theorem zflat (z : List C) : ∀ n, zrow n (z.map .c) = ((List.replicate n z).flatten).map CV.c
  | 0 => rfl
  | n + 1 => by simp [zrow, zflat z n, List.replicate_succ]
theorem unK {vs : List Value} {cs : List C} (h : All2 (RK I ι) vs (cs.map .c)) : RCs I vs cs := h.of_map.imp fun a b r => r.1

theorem fitZ_len : ∀ {zs : List ZK} {el : El}, fitZ zs el = true → el.length = zs.length
  | [], [], _ => rfl
  | z :: zs, c :: cs, h => by
    simp only [fitZ, Bool.and_eq_true] at h
    simp [fitZ_len h.2]
  | [], _ :: _, h => by cases h
  | _ :: _, [], h => by cases h
theorem fitZ1_sound {v : Value} : ∀ {z : ZK} {c : C}, RC I v z.c → fitZ1 z c = true → RC I v c := fun {z c} h hf => by
  unfold fitZ1 at hf
  split at hf
  · simp only [Bool.and_eq_true, decide_eq_true_eq, beq_iff_eq] at hf
    obtain ⟨rfl, rfl⟩ := hf
    exact h
  · simp only [Bool.not_eq_true'] at hf
    subst hf; exact h
  · rename_i s
    have e : s = ⟨#[]⟩ := by
      have hs : s.size = 0 := by simpa using hf
      cases s with
      | mk d => have : d = #[] := Array.eq_empty_of_size_eq_zero hs
                rw [this]
    rw [e]; exact h
  · exact h
  · have h' : RC I v .nil := h
    cases h'
    exact RC.emp none 0 _ (fun _ => rfl)
  · exact h
  · exact h
  · exact h
  · cases hf
theorem fitZ_sound : ∀ {zs : List ZK} {el : El} {vs : List Value}, RCs I vs (zs.map ZK.c) → fitZ zs el = true → RCs I vs el
  | [], [], _, h, _ => h
  | z :: zs, c :: cs, _, .cons h t, hf => by
    simp only [fitZ, Bool.and_eq_true] at hf
    exact .cons (fitZ1_sound h hf.1) (fitZ_sound t hf.2)
  | [], _ :: _, _, _, h => by cases h
  | _ :: _, [], _, _, h => by cases h
theorem made_zero (hX : TabOk P X) {e : Nat} {i : TI} (ee : tiOf X e = some i) {zv : Value} {el : El} (hz : RCs I zv.cells.toList el) (hzl : el.length = i.size) (n : Nat) : RCs I (madeCells zv.cells (n * i.size)).toList (List.replicate n el).flatten := by
  have hpos := (hX.facts ee).pos
  have hzK := RCs.asK hz (fun _ => undef)
  have hm := made_sound hzK (by rw [List.length_map, hzl]; exact hpos) n
  rw [show (el.map CV.c).length = i.size by simp [hzl], zflat] at hm
  exact unK hm

theorem St.mkSlice (hX : TabOk P X) (h : St E fr hp I ι a w) {t e sz' by' : Nat} {zero : List ZK} (et : tiOf X t = some ⟨.slice e, sz', by', zero⟩) {i : TI} (ee : tiOf X e = some i) {x y : Operand} (ho : o.op = .makeSlice t x y)
    {k1 k2 : IntKind} {l c : Int} (hx : opv fr x = .t (.v (.c (.v (.int k1 l))))) (hy : opv fr y = .t (.v (.c (.v (.int k2 c))))) {d : Nat} (hd : fresh E.k d fr hp = true) (hby : i.bytes ≤ 128) {el : El} (hel : fitZ i.zero el = true) (h0 : 0 ≤ l) (h1 : l ≤ c) (h2 : c ≤ (lim : Int)) :
    ∃ v w', (execOp a.eval o).run P w = .ok (.value v) w' ∧ St E fr (setO hp d (.row e i.size (List.replicate l.toNat el))) I (upd ι d v) a w' ∧ RV I (upd ι d v) v (.t (.v (.rt d))) := by
  obtain ⟨_, _, hk⟩ := hX.facts et
  have hdd := kOk_slice hk
  obtain ⟨⟨j, hj, hj1, hj2, zv, hz, hz2, hz3, _⟩, hpos, _⟩ := hX.facts ee
  have hlim : lim = 1099511627776 := rfl
  have hb : (j.bytes : Int) * c ≤ 281474976710656 := by
    have h3 : (j.bytes : Int) ≤ 128 := by omega
    have h4 : (j.bytes : Int) * c ≤ 128 * c := Int.mul_le_mul_of_nonneg_right h3 (by omega)
    omega
  have hr := run_make (P := P) w t e j zv hdd hj hz k1 k2 l c h0 h1 hb (by omega)
  have hzl : el.length = i.size := (fitZ_len hel).trans hz3
  have hcl : c.toNat ≤ lim := by omega
  have hmC := made_zero hX ee (fitZ_sound (zero_cells hz2 I) hel) hzl c.toNat
  rw [hj1] at hr
  obtain ⟨q1, q2⟩ := h.row hd (e := e) (sz := i.size) (n := l.toNat) (c := c.toNat) (cur := madeCells zv.cells (c.toNat * i.size)) (xs := List.replicate l.toNat el) (by simp) (by omega) (lim_max hcl) (size_madeCells _ _) (by simp; omega)
    (fun x hx => by rw [(List.mem_replicate.1 hx).2]; exact hzl) (by
      have := hmC.take (l.toNat * i.size)
      have hsplit : (List.replicate c.toNat el).flatten.take (l.toNat * i.size) = (List.replicate l.toNat el).flatten := by
        have : c.toNat = l.toNat + (c.toNat - l.toNat) := by omega
        rw [this, ← List.replicate_append_replicate, List.flatten_append]
        have hfl : (List.replicate l.toNat el).flatten.length = l.toNat * i.size := by
          rw [flat_len (sz := i.size) _ (fun x hx => by rw [(List.mem_replicate.1 hx).2]; exact hzl)]; simp
        rw [← hfl]; exact List.take_left
      rw [hsplit] at this
      exact this)
  refine ⟨_, _, ?_, q1, q2⟩
  simp only [execOp, ho, eval_v h hx, eval_v h hy]
  rw [Sem.run_bind, hr]
  rfl

theorem putE_keys {es : List (Value × DV)} {k : Value} {v : DV} (hn : (es.map (·.1)).Nodup) (kp : Value → Prop) (hall : ∀ q ∈ es, kp q.1) (hk : kp k) : ((putE es k v).map (·.1)).Nodup ∧ ∀ q ∈ putE es k v, kp q.1 := by
  classical
  unfold putE
  split
  · rename_i hany
    have hm : (es.map (fun q => if q.1 = k then (k, v) else q)).map (·.1) = es.map (·.1) := by
      rw [List.map_map]
      apply List.map_congr_left
      intro q _
      simp only [Function.comp]
      split
      · rename_i e; exact e.symm
      · rfl
    refine ⟨by rw [hm]; exact hn, fun q hq => ?_⟩
    obtain ⟨p, hp, rfl⟩ := List.mem_map.1 hq
    split
    · exact hk
    · exact hall p hp
  · rename_i hany
    refine ⟨?_, fun q hq => ?_⟩
    · rw [List.map_append, List.nodup_append]
      refine ⟨hn, by simp, fun x hx y hy => ?_⟩
      simp at hy; subst hy
      obtain ⟨p, hp, rfl⟩ := List.mem_map.1 hx
      intro e
      exact hany (List.any_eq_true.2 ⟨p, hp, by simpa using e⟩)
    · rcases List.mem_append.1 hq with hq | hq
      · exact hall q hq
      · simp at hq; subst hq; exact hk

theorem St.mapPut (hX : TabOk P X) (h : St E fr hp I ι a w) {t q sz' by' : Nat} {e : Nat} {zero : List ZK} (et : tiOf X t = some ⟨.map q e, sz', by', zero⟩) {m x y : Operand} (ho : o.op = .mapUpdate t m x y) {kv : Value} (hkv : keyVal (opv fr x) = some kv)
    {dv : DV} (hdv : dvOf (opv fr y) = some dv) {id : Nat} (hm : opv fr m = .t (.v (.rt id))) {kp : Value → Prop} {es : List (Value × DV)} (hg : getO hp id = some (.map kp es)) (K : Maps.Keyed P q) (hkp : kp = keys P q) (hk : keys P q kv) :
    ∃ w', (execOp a.eval o).run P w = .ok .skip w' ∧ St E fr (setO hp id (.map kp (putE es kv dv))) I ι a w' := by
  subst hkp
  obtain ⟨_, _, hkk⟩ := hX.facts et
  have hd := kOk_map hkk
  have hxv := keyVal_sound (opv_sound h x) hkv
  have hyv := dvOf_sound (opv_sound h y) hdv
  have hmv := opv_sound h m
  rw [hm] at hmv
  obtain ⟨B, ents, clock, h1, h2, h3, h4, h5⟩ := h.rel.obj _ _ hg
  have hmv' : a.eval m = .map (some B) := hmv.1.trans h1
  have hk2 := hk
  obtain ⟨lk, hlk⟩ := hk2
  have hck := K.check w false hlk
  have hgo : (getObj B).run P w = .ok (.map ents clock) w := by simp [getObj, Sem.run, h2]
  have hset : ∀ (ents' : Array MapEntry) (clock' : Nat), (setObj B (.map ents' clock')).run P w = .ok () { w with heap := w.heap.setIfInBounds B (.map ents' clock') } := fun e1 c1 => MapKept.run_setObj_map _ h2
  have hBlt : B < w.heap.size := (Array.getElem?_eq_some_iff.1 h2).1
  have hfin : ∀ (ents' : Array MapEntry) (clock' : Nat), (Instr.mapUpdate t (.map (some B)) kv (a.eval y)).run P w = .ok () { w with heap := w.heap.setIfInBounds B (.map ents' clock') } →
      All2 (fun (en : MapEntry) (q : Value × DV) => en.key = q.1 ∧ RD I en.val q.2) ents'.toList (putE es kv dv) →
      ∃ w', (execOp a.eval o).run P w = .ok .skip w' ∧ St E fr (setO hp id (.map (keys P q) (putE es kv dv))) I ι a w' := fun ents' clock' hr hR => by
    refine ⟨{ w with heap := w.heap.setIfInBounds B (.map ents' clock') }, ?_, ?_⟩
    · simp only [execOp, ho, hmv', hxv]
      rw [Sem.run_bind, hr]
      rfl
    · have hk' := putE_keys (v := dv) h4 (keys P q) h5 hk
      refine h.set (B := B) hg (by rw [h1]; rfl) rfl rfl rfl (by simp) (fun B' hne => by
        have hne' : ¬ B = B' := fun e => hne e.symm
        simp [Array.getElem?_setIfInBounds, hne']) ⟨B, ents', clock', h1, by simp [hBlt], hR, hk'⟩
  classical
  have hunf : ∀ r : Option (Nat × Value), (Instr.findKey q kv ents.toList).run P w = .ok r w → (Instr.mapUpdate t (.map (some B)) kv (a.eval y)).run P w = (match r with
      | some (i, _) => (do let key ← Instr.keyThatStays (((ents[i]?).map (fun x : MapEntry => x.key)).getD kv) kv; setObj B (.map (ents.modify i fun e => { e with key, val := a.eval y }) clock) : Sem Unit)
      | none => setObj B (.map (ents.push { key := kv, val := a.eval y, born := clock }) (clock + 1))).run P w := fun r hf => by
    unfold Instr.mapUpdate
    rw [Sem.run_bind, run_underlying hd w]
    simp only [Result.andThen_ok, Sem.run_bind, hgo, hck, hf]
    rcases r with _ | ⟨i, u⟩ <;> simp [Sem.run_bind]
  rcases find_key K h3 h4 h5 hk w with ⟨q1, q2⟩ | ⟨j, en, d0, q1, q2, q3, q4, q5, q6⟩
  · refine hfin (ents.push { key := kv, val := a.eval y, born := clock }) (clock + 1) (by rw [hunf _ q2]; exact hset _ _) ?_
    unfold putE
    have hno : ¬ (es.any fun q => decide (q.1 = kv)) = true := fun hany => by
      obtain ⟨p, hp, hpk⟩ := List.any_eq_true.1 hany
      exact look_none q1 p hp (by simpa using hpk)
    rw [if_neg hno]
    simp only [Array.toList_push]
    exact h3.append (.cons ⟨rfl, hyv⟩ .nil)
  · have hstay := K.stays w hlk
    have hkey : ((ents[j]?).map (fun x : MapEntry => x.key)).getD kv = kv := by
      have : ents[j]? = some en := by simpa using q3
      rw [this]; simp [q4]
    refine hfin (ents.modify j fun e => { e with key := kv, val := a.eval y }) clock (by
      rw [hunf _ q2]
      simp only [hkey]
      rw [Sem.run_bind, hstay]
      simp only [Result.andThen_ok]
      exact hset _ _) ?_
    unfold putE
    have hany : (es.any fun q => decide (q.1 = kv)) = true := List.any_eq_true.2 ⟨_, List.mem_of_getElem? q6, by simp⟩
    rw [if_pos hany]
    refine All2.of (by simpa using h3.len) fun i x z hx hz => ?_
    rw [List.getElem?_map] at hz
    rw [Array.getElem?_toList, Array.getElem?_modify] at hx
    by_cases e : j = i
    · subst e
      rw [q6] at hz
      simp at hz; subst hz
      have : ents[j]? = some en := by simpa using q3
      rw [this] at hx
      simp at hx; subst hx
      exact ⟨rfl, hyv⟩
    · rw [if_neg e] at hx
      obtain ⟨p, hp, hr⟩ := h3.at' i x (by simpa using hx)
      rw [hp] at hz
      simp at hz; subst hz
      have hne : p.1 ≠ kv := fun r => by
        have hlt := (List.getElem?_eq_some_iff.1 hp).1
        have hlt2 := (List.getElem?_eq_some_iff.1 q6).1
        have e1 : (es.map (·.1))[i]'(by simpa using hlt) = kv := by simp [(List.getElem?_eq_some_iff.1 hp).2, r]
        have e2 : (es.map (·.1))[j]'(by simpa using hlt2) = kv := by simp [(List.getElem?_eq_some_iff.1 q6).2]
        have hpw := List.pairwise_iff_getElem.1 h4
        rcases Nat.lt_or_gt_of_ne e with hlt' | hlt'
        · exact hpw j i (by simpa using hlt2) (by simpa using hlt) hlt' (by rw [e1, e2])
        · exact hpw i j (by simpa using hlt) (by simpa using hlt2) hlt' (by rw [e1, e2])
      rw [if_neg hne]
      exact hr

theorem St.mapPutN (hX : TabOk P X) (h : St E fr hp I ι a w) {t q sz' by' : Nat} {e : Nat} {zero : List ZK} (et : tiOf X t = some ⟨.map q e, sz', by', zero⟩) {m x y : Operand} (ho : o.op = .mapUpdate t m x y) {kv : Value} (hkv : keyVal (opv fr x) = some kv)
    {d : Nat} (hdv : opv fr y = .t (.v (.rt d))) {id : Nat} (hm : opv fr m = .t (.v (.rt id))) {kp : Value → Prop} {e2 sz2 : Nat} {hole : Option (Value × Nat)} {es : List (Value × DV)} (hg : getO hp id = some (.nmap kp e2 sz2 hole es)) (hho : holeAt hole kv) (K : Maps.Keyed P q) (hkp : kp = keys P q) (hk : keys P q kv) :
    ∃ w', (execOp a.eval o).run P w = .ok .skip w' ∧ St E fr (setO hp id (.nmap kp e2 sz2 (some (kv, d)) (putE es kv (.v .nil)))) I ι a w' := by
  subst hkp
  obtain ⟨_, _, hkk⟩ := hX.facts et
  have hd := kOk_map hkk
  have hxv := keyVal_sound (opv_sound h x) hkv
  have hyv := opv_sound h y
  rw [hdv] at hyv
  obtain ⟨hyv, hy1⟩ : a.eval y = ι d ∧ (a.eval y).oneCell' = true := hyv
  have hmv := opv_sound h m
  rw [hm] at hmv
  obtain ⟨⟨B, ents, clock, h1, h2, h3, h4, h5, h6⟩, ko⟩ := h.rel.obj _ _ hg
  have hmv' : a.eval m = .map (some B) := hmv.1.trans h1
  have hk2 := hk
  obtain ⟨lk, hlk⟩ := hk2
  have hck := K.check w false hlk
  have hgo : (getObj B).run P w = .ok (.map ents clock) w := by simp [getObj, Sem.run, h2]
  have hset : ∀ (ents' : Array MapEntry) (clock' : Nat), (setObj B (.map ents' clock')).run P w = .ok () { w with heap := w.heap.setIfInBounds B (.map ents' clock') } := fun e1 c1 => MapKept.run_setObj_map _ h2
  have hBlt : B < w.heap.size := (Array.getElem?_eq_some_iff.1 h2).1
  have hfin : ∀ (ents' : Array MapEntry) (clock' : Nat), (Instr.mapUpdate t (.map (some B)) kv (a.eval y)).run P w = .ok () { w with heap := w.heap.setIfInBounds B (.map ents' clock') } →
      All2 (fun (en : MapEntry) (p : Value × DV) => en.key = p.1 ∧ (en.key ≠ kv → ∃ ys, p.2 = .v (.sl sz2 ys) ∧ RRow I w en.val e2 sz2 ys)) ents'.toList (putE es kv (.v .nil)) → (∃ en ∈ ents'.toList, en.key = kv ∧ en.val = a.eval y) → (∀ (i : Nat) (en : MapEntry), ents'[i]? = some en → en.key ≠ kv → ents[i]? = some en) →
      ∃ w', (execOp a.eval o).run P w = .ok .skip w' ∧ St E fr (setO hp id (.nmap (keys P q) e2 sz2 (some (kv, d)) (putE es kv (.v .nil)))) I ι a w' := fun ents' clock' hr hR hex hpl => by
    have hback : ∀ i u, inner { w with heap := w.heap.setIfInBounds B (.map ents' clock') } (ι id) (.nmap (keys P q) e2 sz2 (some (kv, d)) (putE es kv (.v .nil))) i u → inner w (ι id) (.nmap (keys P q) e2 sz2 hole es) i u := fun i u ⟨B', en', cl', en, a1, a2, a3, a4, a5⟩ => by
      have e1 : B' = B := by rw [h1] at a1; simp at a1; exact a1.symm
      subst e1
      have e2 : ents' = en' := by
        have : (w.heap.setIfInBounds B' (.map ents' clock'))[B']? = some (.map ents' clock') := by simp [hBlt]
        rw [this] at a2; simp at a2; exact a2.1
      subst e2
      have hne : en.key ≠ kv := fun e => a4 d (by rw [e])
      refine ⟨B', ents, clock, en, h1, h2, hpl i en a3 hne, fun d' e => ?_, a5⟩
      subst e
      exact hne hho
    refine ⟨{ w with heap := w.heap.setIfInBounds B (.map ents' clock') }, ?_, ?_⟩
    · simp only [execOp, ho, hmv', hxv]
      rw [Sem.run_bind, hr]
      rfl
    · have hk' := putE_keys (v := .v .nil) h4 (keys P q) h5 hk
      have hbl : blockOf (ι id) = some B := by rw [h1]; rfl
      have hoth : ∀ B', B' ≠ B → (w.heap.setIfInBounds B (.map ents' clock'))[B']? = w.heap[B']? := fun B' hne => by
        have hne' : ¬ B = B' := fun e => hne e.symm
        simp [Array.getElem?_setIfInBounds, hne']
      refine h.set' (B := B) hg hbl rfl rfl rfl (by simp) hoth ⟨⟨B, ents', clock', h1, by simp [hBlt], All2.of hR.len fun i en p hen hp => ?_, hk'.1, hk'.2, fun k d' e => ?_⟩, ⟨fun i u B' hi => ko.base i u B' (hback i u hi), fun i j u u' B' hi hj => ko.each i j u u' B' (hback i u hi) (hback j u' hj)⟩⟩ fun B' hB => hB.imp (fun q => q) fun ⟨i, u, hi, hb⟩ => ⟨i, u, hback i u hi, hb⟩
      · obtain ⟨p', hp', r1, r2⟩ := hR.at' i en hen
        rw [hp] at hp'; cases hp'
        refine ⟨r1, fun hh => ?_⟩
        have hne : en.key ≠ kv := fun e => hh d (by rw [e])
        obtain ⟨ys, c1, c2⟩ := r2 hne
        refine ⟨ys, c1, c2.cong (Im.le_refl _) fun B' hB' => hoth B' fun e => ?_⟩
        subst e
        exact ko.base i en.val B' ⟨B', ents, clock, en, h1, h2, hpl i en (by simpa using hen) hne, fun d' e => by subst e; exact hne hho, rfl⟩ hB' hbl
      · cases e
        obtain ⟨en, a1, a2, a3⟩ := hex
        exact ⟨en, a1, a2, by rw [a3, hyv], by rw [a3]; exact hy1⟩
  classical
  have hunf : ∀ r : Option (Nat × Value), (Instr.findKey q kv ents.toList).run P w = .ok r w → (Instr.mapUpdate t (.map (some B)) kv (a.eval y)).run P w = (match r with
      | some (i, _) => (do let key ← Instr.keyThatStays (((ents[i]?).map (fun x : MapEntry => x.key)).getD kv) kv; setObj B (.map (ents.modify i fun e => { e with key, val := a.eval y }) clock) : Sem Unit)
      | none => setObj B (.map (ents.push { key := kv, val := a.eval y, born := clock }) (clock + 1))).run P w := fun r hf => by
    unfold Instr.mapUpdate
    rw [Sem.run_bind, run_underlying hd w]
    simp only [Result.andThen_ok, Sem.run_bind, hgo, hck, hf]
    rcases r with _ | ⟨i, u⟩ <;> simp [Sem.run_bind]
  have hRold : ∀ (en : MapEntry) (p : Value × DV), en.key ≠ kv → (en.key = p.1 ∧ ((∀ d, hole ≠ some (en.key, d)) → ∃ ys, p.2 = .v (.sl sz2 ys) ∧ RRow I w en.val e2 sz2 ys)) → (en.key = p.1 ∧ (en.key ≠ kv → ∃ ys, p.2 = .v (.sl sz2 ys) ∧ RRow I w en.val e2 sz2 ys)) := fun en p _ hr =>
    ⟨hr.1, fun hne => hr.2 fun d e => by subst e; exact hne hho⟩
  rcases find_keyR (R := fun en d => (∀ d', hole ≠ some (en.key, d')) → ∃ ys, d = .v (.sl sz2 ys) ∧ RRow I w en.val e2 sz2 ys) K h3 h4 h5 hk w with ⟨q1, q2⟩ | ⟨j, en, d0, q1, q2, q3, q4, q5, q6⟩
  · have hno : ∀ p ∈ es, p.1 ≠ kv := look_none q1
    refine hfin (ents.push { key := kv, val := a.eval y, born := clock }) (clock + 1) (by rw [hunf _ q2]; exact hset _ _) ?_ ⟨{ key := kv, val := a.eval y, born := clock }, by simp, rfl, rfl⟩ fun i en hen hne => ?_
    · unfold putE
      have hno' : ¬ (es.any fun q => decide (q.1 = kv)) = true := fun hany => by
        obtain ⟨p, hp, hpk⟩ := List.any_eq_true.1 hany
        exact hno p hp (by simpa using hpk)
      rw [if_neg hno']
      simp only [Array.toList_push]
      refine All2.append (All2.of h3.len fun i en p hen hp => ?_) (.cons ⟨rfl, fun hne => (hne rfl).elim⟩ .nil)
      obtain ⟨p', hp', hr⟩ := h3.at' i en hen
      rw [hp] at hp'; cases hp'
      exact hRold en p (fun e => hno p (List.mem_of_getElem? hp) (by rw [← hr.1, e])) hr
    · rw [Array.getElem?_push] at hen
      split at hen
      · cases hen; exact (hne rfl).elim
      · exact hen
  · have hstay := K.stays w hlk
    have hj : ents[j]? = some en := by simpa using q3
    have hkey : ((ents[j]?).map (fun x : MapEntry => x.key)).getD kv = kv := by
      rw [hj]; simp [q4]
    have hjlt : j < ents.size := (Array.getElem?_eq_some_iff.1 hj).1
    refine hfin (ents.modify j fun e => { e with key := kv, val := a.eval y }) clock (by
      rw [hunf _ q2]
      simp only [hkey]
      rw [Sem.run_bind, hstay]
      simp only [Result.andThen_ok]
      exact hset _ _) ?_ ⟨{ en with key := kv, val := a.eval y }, ?_, rfl, rfl⟩ fun i x hx hne => ?_
    · unfold putE
      have hany : (es.any fun q => decide (q.1 = kv)) = true := List.any_eq_true.2 ⟨_, List.mem_of_getElem? q6, by simp⟩
      rw [if_pos hany]
      refine All2.of (by simpa using h3.len) fun i x z hx hz => ?_
      rw [List.getElem?_map] at hz
      rw [Array.getElem?_toList, Array.getElem?_modify] at hx
      by_cases e : j = i
      · subst e
        rw [q6] at hz
        simp at hz; subst hz
        rw [hj] at hx
        simp at hx; subst hx
        exact ⟨rfl, fun hne => (hne rfl).elim⟩
      · rw [if_neg e] at hx
        obtain ⟨p, hp, hr⟩ := h3.at' i x (by simpa using hx)
        rw [hp] at hz
        simp at hz; subst hz
        have hne : p.1 ≠ kv := fun r => by
          have hlt := (List.getElem?_eq_some_iff.1 hp).1
          have hlt2 := (List.getElem?_eq_some_iff.1 q6).1
          have e1 : (es.map (·.1))[i]'(by simpa using hlt) = kv := by simp [(List.getElem?_eq_some_iff.1 hp).2, r]
          have e2 : (es.map (·.1))[j]'(by simpa using hlt2) = kv := by simp [(List.getElem?_eq_some_iff.1 q6).2]
          have hpw := List.pairwise_iff_getElem.1 h4
          rcases Nat.lt_or_gt_of_ne e with hlt' | hlt'
          · exact hpw j i (by simpa using hlt2) (by simpa using hlt) hlt' (by rw [e1, e2])
          · exact hpw i j (by simpa using hlt) (by simpa using hlt2) hlt' (by rw [e1, e2])
        rw [if_neg hne]
        exact hRold x p (fun e => hne (by rw [← hr.1, e])) hr
    · refine List.mem_of_getElem? (i := j) ?_
      rw [Array.getElem?_toList, Array.getElem?_modify, if_pos rfl, hj]; rfl
    · rw [Array.getElem?_modify] at hx
      by_cases e : j = i
      · subst e
        rw [if_pos rfl, hj] at hx
        simp at hx; subst hx
        exact (hne rfl).elim
      · rw [if_neg e] at hx; exact hx

theorem St.objTo {E : Env} {I : Im} {ι : Lo} {a : Act} {w : World} (h : St E fr hp I ι a w) {id : Nat} {ob y : Ob} (hg : getO hp id = some ob) (hy : RO I ι w (ι id) ob → RO I ι w (ι id) y) (hw : ∀ B, owns w (ι id) y B → owns w (ι id) ob B) : St E fr (setO hp id y) I ι a w := by
  have key : ∀ j o, getO (setO hp id y) j = some o → ∃ o', getO hp j = some o' ∧ ∀ B, owns w (ι j) o B → owns w (ι j) o' B := fun j o h => by
    rw [getO_setO] at h
    split at h
    · rename_i e; subst e; cases h; exact ⟨_, hg, hw⟩
    · exact ⟨_, h, fun B q => q⟩
  refine ⟨h.below, h.le, h.new, h.agr, h.size, h.defers, h.fix, h.rel.slot, fun j o hj => ?_, fun j o hj B hB => ?_, fun j j' o o' hj hj' B hB hB' => ?_⟩
  · rw [getO_setO] at hj
    split at hj
    · rename_i e; subst e
      cases hj
      exact hy (h.rel.obj _ _ hg)
    · exact h.rel.obj _ _ hj
  · obtain ⟨o1, h1, k1⟩ := key j o hj; exact h.rel.own j o1 h1 B (k1 B hB)
  · obtain ⟨o1, h1, k1⟩ := key j o hj; obtain ⟨o2, h2, k2⟩ := key j' o' hj'; exact h.rel.inj j j' o1 o2 h1 h2 B (k1 B hB) (k2 B hB')

/-- Cells of an own slice are written. -/
theorem St.rowCells (h : St E fr hp I ι a w) {id ty sz : Nat} {xs : List El} (hg : getO hp id = some (.row ty sz xs)) {B len cap : Nat} (h1 : ι id = .slice (some ⟨B, 0, none⟩) len cap) {q : Nat} {us : List Value} {ds : List C} (hRd : RCs I us ds) (hpos : q + us.length ≤ xs.length * sz)
    {xs' : List El} (hl : xs'.length = xs.length) (hs : ∀ x ∈ xs', x.length = sz) (hf : xs'.flatten = Sym.spl xs.flatten q ds) : ∃ w', (Go.storeCells ⟨B, q, none⟩ us).run P w = .ok () w' ∧ St E fr (setO hp id (.row ty sz xs')) I ι a w' := by
  obtain ⟨vals, q1, q2, q3, q4⟩ := h.rel.obj _ _ hg
  rcases q1.2 with ⟨r, _⟩ | ⟨g, cap', cur, r, hb0, hgg, hnc, hcm, hcs, htake⟩
  · rw [h1] at r; cases r
  · rw [h1] at r
    simp at r
    obtain ⟨rfl, rfl, rfl⟩ := r
    have hdl : us.length = ds.length := hRd.len
    have hcap : xs.length * sz ≤ cap * sz := Nat.mul_le_mul_right _ hnc
    have hcl : cur.toList.length = cur.size := by simp
    have hrun := run_storeCells_at P B q ty us 0 cur w hgg (by simpa using (by omega : q + us.length ≤ cur.size)) (fun u hu => hRd.one u hu)
    simp only [Nat.add_zero] at hrun
    refine ⟨_, hrun, ?_⟩
    have hnew := setRow_heap w B cur (cur.toList.take q ++ us ++ cur.toList.drop (q + us.length)).toArray ty (0, 0) hgg
    refine h.set hg (by rw [h1]; rfl) rfl rfl rfl (by simp) (fun B' hne => setRow_other w B B' _ hne) ⟨Sym.spl vals q us, ⟨?_, .inr ⟨B, cap, _, by rw [h1, hl], Nat.zero_le _, hnew, by rw [hl]; exact hnc, hcm, ?_, ?_⟩⟩, hs, ?_, by rw [hl]; exact q4⟩
    · rw [spl_len _ _ _ (by rw [q1.1]; exact hpos), q1.1, hl]
    · have := spl_len cur.toList q us (by omega)
      simp only [List.size_toArray]
      unfold Sym.spl at this
      rw [this, hcl, hcs]
    · rw [hl]
      have hsp : cur.toList.take q ++ us ++ cur.toList.drop (q + us.length) = Sym.spl (cur.toList.take (xs.length * sz)) q us ++ cur.toList.drop (xs.length * sz) := by
        rw [← spl_left _ _ _ _ (by rw [List.length_take]; omega), List.take_append_drop]
        rfl
      rw [hsp, htake]
      have hl2 : (Sym.spl vals q us).length = xs.length * sz := by rw [spl_len _ _ _ (by rw [q1.1]; exact hpos), q1.1]
      rw [← hl2]
      exact List.take_left
    · rw [hf]
      exact All2.spl q3 hRd _

theorem St.appendZeros (hX : TabOk P X) (h : St E fr hp I ι a w) {c : Call} {s y : Operand} {t t' : TypeId} (ho : o.op = .call c) (hc : c.callee = .builtin .append) (ha : c.args.toList = [s, y]) (ht : c.argTypes.toList = [t, t'])
    {e sz' by' sz2 by2 : Nat} {zero zero2 : List ZK} (et : tiOf X t = some ⟨.slice e, sz', by', zero⟩) {k k' : IntKind} (et' : tiOf X t' = some ⟨.int k, sz2, by2, zero2⟩) {i : TI} (ee : tiOf X e = some i) (hs : opv fr s = .t (.v (.c .nil))) {n : Int} (hy : opv fr y = .t (.v (.c (.v (.int k' n)))))
    (hby : i.bytes ≤ 128) {d : Nat} (hd : fresh E.k d fr hp = true) {el : El} (hel : fitZ i.zero el = true) (h0 : 0 ≤ n) (h2 : n ≤ (lim : Int)) :
    ∃ v w', (execOp a.eval o).run P w = .ok (.value v) w' ∧ St E fr (setO hp d (.row e i.size (List.replicate n.toNat el))) I (upd ι d v) a w' ∧ RV I (upd ι d v) v (.t (.v (.rt d))) := by
  obtain ⟨_, _, hk⟩ := hX.facts et
  have hdd := kOk_slice hk
  obtain ⟨_, _, hk'⟩ := hX.facts et'
  have hdn := kOk_int hk'
  obtain ⟨⟨j, hj, hj1, hj2, zv, hz, hz2, hz3, _⟩, hpos, _⟩ := hX.facts ee
  have hlim : lim = 1099511627776 := rfl
  have h1 : c.args = #[s, y] := by rw [← Array.toArray_toList (xs := c.args), ha]
  have h3 : c.argTypes = #[t, t'] := by rw [← Array.toArray_toList (xs := c.argTypes), ht]
  have hmp : (#[s, y] : Array Operand).map a.eval = #[.slice none 0 0, .int k' n] := by simp [eval_nil h hs, eval_v h hy]
  have hexec : ∀ {v : Value} {w' : World}, (Builtin.append_ #[t, t'] o.type #[.slice none 0 0, .int k' n]).run P w = .ok v w' → (execOp a.eval o).run P w = .ok (.value v) w' := fun hr => by
    simp only [execOp, ho, resolve, hc, h1, h3]
    rw [Sem.run_bind]
    simp only [Sem.run_pure, Result.andThen_ok, invoke, builtin]
    rw [Sem.run_bind, hmp, hr]
    rfl
  obtain ⟨m, rfl⟩ : ∃ m : Nat, n = (m : Int) := ⟨n.toNat, by omega⟩
  obtain ⟨hd1, hd2⟩ := fresh_spec hd
  rcases Nat.eq_zero_or_pos m with hm | hm
  · subst hm
    refine ⟨.slice none 0 0, w, hexec ?_, ?_, (upd_same ι d _).symm, rfl⟩
    · have hw : IntKind.i64.wrap 0 = 0 := by decide
      simp [Builtin.append_, run_underlying hdd, run_underlying hdn, sizeOf, typeInfo, hj, asInt, asIntOf, hw]
    · refine h.step (L := fun _ => False) (Ext.refl _ h.agr) (fun B q => q.elim) (fun id hid => upd_ne ι _ (show id ≠ d by omega)) ?_
      exact h.rel.new hd1 (Nat.le_refl _) (fun id ob hg B hB => ⟨rfl, by simp [blockOf]⟩) ⟨[], World.ownsRow_nil _ _ _ _, fun x hx => (by cases hx), .nil, Nat.zero_le _⟩ (fun B hB => by cases hB) rfl
  · have hb : m * j.bytes ≤ 281474976710656 := by
      have h3 : j.bytes ≤ 128 := by omega
      have h4 : m * j.bytes ≤ m * 128 := Nat.mul_le_mul_left _ h3
      omega
    have hr := Lib.run_append_nil_zeros (P := P) w t t' o.type e j zv k' k hdd hdn hj hz m hm (by omega) (by omega) hb
    have hx : Ext (fun _ => False) I w I w.drew := ⟨⟨rfl, rfl, rfl, Nat.le_refl _, fun _ _ _ => rfl⟩, Im.le_refl I, fun _ _ _ e => .inl e, h.agr⟩
    have hge := grownCap_ge w m 0 e
    have hzs : zv.cells.size = i.size := by
      have hl : zv.cells.toList.length = i.zero.length := by simpa using congrArg List.length hz2
      rw [← hz3, ← hl]; simp
    have hzl : el.length = i.size := (fitZ_len hel).trans hz3
    have hmm := made_zero hX ee (fitZ_sound (zero_cells hz2 I) hel) hzl m
    obtain ⟨q1, q2⟩ := (h.ext hx).row hd (e := e) (sz := i.size) (n := m) (c := grownCap w m 0 e) (cur := Builtin.zeroCells zv.cells m ++ Builtin.zeroCells zv.cells (grownCap w m 0 e - m)) (xs := List.replicate m el) (by simp) hge (grownCap_le_maxLen w m 0 e (lim_max (by omega))) (by
        simp only [Array.size_append, size_zeroCells, hzs, ← Nat.add_mul]
        congr 1
        omega) (by simp; omega) (fun x hx => by rw [(List.mem_replicate.1 hx).2]; exact hzl) (by
        have hzm : (Builtin.zeroCells zv.cells m).toList = (madeCells zv.cells (m * i.size)).toList := by simp [Builtin.zeroCells, madeCells, hzs]
        have hl : (Builtin.zeroCells zv.cells m).toList.length = m * i.size := by simp [size_zeroCells, hzs]
        simp only [Array.toList_append]
        rw [← hl, List.take_left, hzm]
        exact hmm)
    exact ⟨_, _, hexec hr, q1, q2⟩

theorem St.clearSub (hX : TabOk P X) (h : St E fr hp I ι a w) {c : Call} {s : Operand} {t : TypeId} (ho : o.op = .call c) (hc : c.callee = .builtin .clear) (ha : c.args.toList = [s]) (ht : c.argTypes.toList = [t])
    {e sz' by' : Nat} {zero : List ZK} (et : tiOf X t = some ⟨.slice e, sz', by', zero⟩) {i : TI} (ee : tiOf X e = some i) {id lo n : Nat} (hs : opv fr s = .t (.v (.sub i.size id lo n))) {xs : List El} (hg : getO hp id = some (.row e i.size xs)) {el : El} (hel : fitZ i.zero el = true) :
    ∃ w', (execOp a.eval o).run P w = .ok (.value (.tuple #[])) w' ∧ St E fr (setO hp id (.row e i.size (xs.take lo ++ (List.replicate n el ++ xs.drop (lo + n))))) I ι a w' := by
  obtain ⟨_, _, hk⟩ := hX.facts et
  have hdd := kOk_slice hk
  obtain ⟨⟨j, hj, hj1, hj2, zv, hz, hz2, hz3, _⟩, hpos, _⟩ := hX.facts ee
  have h1 : c.args = #[s] := by rw [← Array.toArray_toList (xs := c.args), ha]
  have h3 : c.argTypes = #[t] := by rw [← Array.toArray_toList (xs := c.argTypes), ht]
  have hexec : ∀ {v : Value} {w' : World}, (Builtin.clear_ #[t] o.type #[a.eval s]).run P w = .ok v w' → (execOp a.eval o).run P w = .ok (.value v) w' := fun hr => by
    simp only [execOp, ho, resolve, hc, h1, h3]
    rw [Sem.run_bind]
    simp only [Sem.run_pure, Result.andThen_ok, invoke, builtin]
    rw [Sem.run_bind]
    have hmp : (#[s] : Array Operand).map a.eval = #[a.eval s] := by simp
    rw [hmp, hr]
    rfl
  have hsv := opv_sound h s
  rw [hs] at hsv
  obtain ⟨A, len, cap, q1, q2, q3⟩ := hsv
  obtain ⟨vals, r1, r2, r3, r4⟩ := h.rel.obj _ _ hg
  have hlen : len = xs.length ∧ (n ≠ 0 → ∃ B, A = some ⟨B, 0, none⟩ ∧ len ≤ cap) := by
    rcases r1.2 with ⟨r, hn⟩ | ⟨g, cap', cur, r, _, _, hnc, _⟩
    · rw [q1] at r; simp at r; exact ⟨by omega, fun _ => by omega⟩
    · rw [q1] at r; simp at r; exact ⟨r.2.1, fun _ => ⟨g, r.1, by omega⟩⟩
  obtain ⟨rfl, hA⟩ := hlen
  have hzl : el.length = i.size := (fitZ_len hel).trans hz3
  rcases Nat.eq_zero_or_pos n with hn | hn
  · subst hn
    refine ⟨w, hexec ?_, h.objTo hg (fun hx => ?_) fun B => ?_⟩
    · rw [q3]
      simp only [sliced, Nat.add_zero, Nat.sub_self]
      split <;> cases A <;> simp [Builtin.clear_, run_underlying hdd]
    · simp only [Nat.add_zero, List.replicate_zero, List.nil_append, List.take_append_drop]; exact hx
    · exact fun q => .inl (owns_flat rfl q)
  · obtain ⟨B, rfl, hc'⟩ := hA (by omega)
    have hzs : zv.cells.size = i.size := by
      have hl : zv.cells.toList.length = i.zero.length := by simpa using congrArg List.length hz2
      rw [← hz3, ← hl]; simp
    have hzm : (Builtin.zeroCells zv.cells n).toList = (madeCells zv.cells (n * i.size)).toList := by simp [Builtin.zeroCells, madeCells, hzs]
    have hmm := made_zero hX ee (fitZ_sound (zero_cells hz2 I) hel) hzl n
    have hfl : (List.replicate n el).flatten.length = n * i.size := by
      rw [flat_len (sz := i.size) _ (fun x hx => by rw [(List.mem_replicate.1 hx).2]; exact hzl)]; simp
    have hul : (madeCells zv.cells (n * i.size)).toList.length = n * i.size := by simp [size_madeCells]
    have hle : lo * i.size + n * i.size ≤ xs.length * i.size := by rw [← Nat.add_mul]; exact Nat.mul_le_mul_right _ q2
    obtain ⟨w', hr, hst⟩ := h.rowCells (P := P) hg q1 (q := lo * i.size) hmm (by rw [hul]; exact hle) (xs' := xs.take lo ++ (List.replicate n el ++ xs.drop (lo + n))) (by simp; omega) (fun x hx => by
        rcases List.mem_append.1 hx with hx | hx
        · exact r2 x (List.mem_of_mem_take hx)
        · rcases List.mem_append.1 hx with hx | hx
          · rw [(List.mem_replicate.1 hx).2]; exact hzl
          · exact r2 x (List.mem_of_mem_drop hx)) (by
        have e1 : xs.flatten = (xs.take lo).flatten ++ ((xs.drop lo).take n).flatten ++ (xs.drop (lo + n)).flatten := by
          rw [← List.flatten_append, ← List.flatten_append]
          congr 1
          rw [List.append_assoc, ← List.drop_drop, List.take_append_drop, List.take_append_drop]
        have l1 : (xs.take lo).flatten.length = lo * i.size := by rw [flat_len (sz := i.size) _ (fun x hx => r2 x (List.mem_of_mem_take hx))]; rw [List.length_take, Nat.min_eq_left (by omega)]
        have l2 : ((xs.drop lo).take n).flatten.length = n * i.size := by rw [flat_len (sz := i.size) _ (fun x hx => r2 x (List.mem_of_mem_drop (List.mem_of_mem_take hx)))]; rw [List.length_take, List.length_drop, Nat.min_eq_left (by omega)]
        rw [e1, List.flatten_append, List.flatten_append]
        generalize (List.replicate n el).flatten = d at *
        generalize (xs.take lo).flatten = x1 at *
        generalize ((xs.drop lo).take n).flatten = x2 at *
        unfold Sym.spl
        rw [List.append_assoc x1 x2, List.take_append_of_le_length (by omega), List.take_of_length_le (by omega), hfl, ← l1, ← l2, List.append_assoc]
        congr 1
        congr 1
        rw [← List.append_assoc, ← List.length_append, List.drop_left])
    refine ⟨w', hexec ?_, hst⟩
    rw [q3]
    have hne : ¬ cap = lo := by omega
    obtain ⟨m, rfl⟩ : ∃ m, n = m + 1 := ⟨n - 1, by omega⟩
    have e1 : lo + (m + 1) - lo = m + 1 := by omega
    simp only [sliced, if_neg hne, Option.map_some, Addr.add_lit, Nat.zero_add, e1]
    have hzv : ∀ w, (zeroValue e).run P w = .ok zv w := fun w => by simp [zeroValue, typeInfo, hj, hz]
    simp [Builtin.clear_, run_underlying hdd, hzv, hzm, hr]

/-- A new slice that nobody writes. -/
theorem St.newData (h : St E fr hp I ι a w) {e sz n : Nat} {vs : List Value} {xs : List El} (hn : n = xs.length) (hvl : vs.length = n * sz) (hl : xs.length ≤ lim) (hs : ∀ x ∈ xs, x.length = sz) (hR : RCs I vs xs.flatten) :
    ∃ I', St E fr hp I' ι a (w.alloc (.cells vs.toArray e)) ∧ RC I' (.slice (some ⟨w.heap.size, 0, none⟩) n n) (.sl sz xs) := by
  subst hn
  have hfree : ∀ o, I w.heap.size o = none := h.agr.free (Nat.le_refl _)
  have hnew := heap_alloc_new w (.cells vs.toArray e (0, 0))
  have hcell : ∀ o, (w.alloc (.cells vs.toArray e)).cell? ⟨w.heap.size, o, none⟩ = vs[o]? := fun o => by rw [cell_of_row _ _ _ _ e (0, 0) hnew]; simp
  have hmono : I.le (fun b o => if b = w.heap.size then vs[o]? else I b o) := fun b o v hb => by
    have : b ≠ w.heap.size := by rintro rfl; rw [hfree] at hb; cases hb
    simp only [if_neg this]; exact hb
  refine ⟨fun b o => if b = w.heap.size then vs[o]? else I b o, h.ext ⟨⟨rfl, rfl, rfl, by simp, fun k hk _ => Below.heap_alloc w _ k hk⟩, hmono, fun b o v hb => ?_, fun b o v hb => ?_⟩, ?_⟩
  · by_cases q : b = w.heap.size
    · exact .inr (.inl (by omega))
    · simp only [if_neg q] at hb; exact .inl hb
  · by_cases q : b = w.heap.size
    · subst q
      simp only [if_true] at hb
      rw [hcell]; exact hb
    · simp only [if_neg q] at hb
      have hlt : b < w.heap.size := by
        rcases Nat.lt_or_ge b w.heap.size with r | r
        · exact r
        · rw [h.agr.free r] at hb; cases hb
      rw [← h.agr b o v hb]
      exact World.cell?_of_block (Below.heap_alloc w _ b hlt)
  · refine .sl w.heap.size 0 xs.length sz xs (fun i j => vs.getD (i * sz + j) undef) (Nat.le_refl _) hl (fun i x hx => hs x (List.mem_of_getElem? hx)) (fun i j hi hj => ?_) (fun i j x c hx hc => ?_)
    · have hlt : i * sz + j < vs.length := by
        rw [hvl]
        have : (i + 1) * sz ≤ xs.length * sz := Nat.mul_le_mul_right _ hi
        rw [Nat.succ_mul] at this; omega
      simp only [Nat.zero_add, if_true, List.getD_eq_getElem?_getD, List.getElem?_eq_getElem hlt, Option.getD_some]
    · have hj : j < sz := by rw [← hs x (List.mem_of_getElem? hx)]; exact (List.getElem?_eq_some_iff.1 hc).1
      have hp0 : 0 < sz := by omega
      have hfl : xs.flatten[i * sz + j]? = some c := by
        rw [flat_get hp0 xs hs]
        have h4 : (i * sz + j) / sz = i := by rw [Nat.mul_comm, Nat.mul_add_div hp0, Nat.div_eq_of_lt hj, Nat.add_zero]
        have h5 : (i * sz + j) % sz = j := by rw [Nat.mul_comm, Nat.mul_add_mod, Nat.mod_eq_of_lt hj]
        rw [h4, h5, hx]; exact hc
      obtain ⟨u, hu, hr⟩ := hR.at _ _ hfl
      simp only [List.getD_eq_getElem?_getD, hu, Option.getD_some]
      exact hr.mono hmono

end
end Go.Proofs.Ytajmjfdopminbaa.Sym
