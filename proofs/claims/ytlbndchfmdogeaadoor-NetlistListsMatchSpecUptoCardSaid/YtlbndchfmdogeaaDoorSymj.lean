/- Sym: evalE tells what each operation does. Conditions: the table of types is the program's (TabOk). -/
import Derived.Test.YtlbndchfmdogeaaDoorSymi
set_option linter.unusedVariables false
set_option linter.unusedSimpArgs false
namespace Go.Proofs.YtlbndchfmdogeaaDoor.Sym
open Go Go.RowKit

section
variable {P : Program} {X : Tab} {E : Env} {w w' : World} {I : Im} {ι : Lo} {fr : Fr} {hp : Hp} {a : Act} {o : Oper}

theorem zflat (z : List C) : ∀ n, zrow n (z.map .c) = ((List.replicate n z).flatten).map CV.c
  | 0 => rfl
  | n + 1 => by simp [zrow, zflat z n, List.replicate_succ]
theorem unK {vs : List Value} {cs : List C} (h : All2 (RK I ι) vs (cs.map .c)) : RCs I vs cs := h.of_map.imp fun a b r => r.1

theorem St.mkSlice (hX : TabOk P X) (h : St E fr hp I ι a w) {t e sz' by' : Nat} {zero : List ZK} (et : tiOf X t = some ⟨.slice e, sz', by', zero⟩) {i : TI} (ee : tiOf X e = some i) {x y : Operand} (ho : o.op = .makeSlice t x y)
    {k1 k2 : IntKind} {l c : Int} (hx : opv fr x = .t (.v (.c (.v (.int k1 l))))) (hy : opv fr y = .t (.v (.c (.v (.int k2 c))))) {d : Nat} (hd : fresh E.k d fr hp = true) (hby : i.bytes ≤ 128) (h0 : 0 ≤ l) (h1 : l ≤ c) (h2 : c ≤ (lim : Int)) :
    ∃ v w', (execOp a.eval o).run P w = .ok (.value v) w' ∧ St E fr (setO hp d (.row e i.size (List.replicate l.toNat (i.zero.map ZK.c)))) I (upd ι d v) a w' ∧ RV I (upd ι d v) v (.t (.v (.rt d))) := by
  obtain ⟨_, _, hk⟩ := hX.facts et
  have hdd := kOk_slice hk
  obtain ⟨⟨j, hj, hj1, hj2, zv, hz, hz2, hz3, _⟩, hpos, _⟩ := hX.facts ee
  have hlim : lim = 1099511627776 := rfl
  have hb : (j.bytes : Int) * c ≤ 281474976710656 := by
    have h3 : (j.bytes : Int) ≤ 128 := by omega
    have h4 : (j.bytes : Int) * c ≤ 128 * c := Int.mul_le_mul_of_nonneg_right h3 (by omega)
    omega
  have hr := run_make (P := P) w t e j zv hdd hj hz k1 k2 l c h0 h1 hb (by omega)
  have hzK := RCs.asK (zero_cells hz2 I) ι
  have hzl : (i.zero.map ZK.c).length = i.size := by simp [hz3]
  have hcl : c.toNat ≤ lim := by omega
  have hm := made_sound hzK (by rw [List.length_map, hzl]; exact hpos) c.toNat
  rw [show ((i.zero.map ZK.c).map CV.c).length = i.size by simp [hz3], zflat] at hm
  have hmC := unK hm
  rw [hj1] at hr
  obtain ⟨q1, q2⟩ := h.row hd (e := e) (sz := i.size) (n := l.toNat) (c := c.toNat) (cur := madeCells zv.cells (c.toNat * i.size)) (xs := List.replicate l.toNat (i.zero.map ZK.c)) (by simp) (by omega) (lim_max hcl) (size_madeCells _ _) (by simp; omega)
    (fun x hx => by rw [(List.mem_replicate.1 hx).2]; exact hzl) (by
      have := hmC.take (l.toNat * i.size)
      have hsplit : (List.replicate c.toNat (i.zero.map ZK.c)).flatten.take (l.toNat * i.size) = (List.replicate l.toNat (i.zero.map ZK.c)).flatten := by
        have : c.toNat = l.toNat + (c.toNat - l.toNat) := by omega
        rw [this, ← List.replicate_append_replicate, List.flatten_append]
        have hfl : (List.replicate l.toNat (i.zero.map ZK.c)).flatten.length = l.toNat * i.size := by
          rw [flat_len (sz := i.size) _ (fun x hx => by rw [(List.mem_replicate.1 hx).2]; exact hzl)]; simp
        rw [← hfl]; exact List.take_left
      rw [hsplit] at this
      exact this)
  refine ⟨_, _, ?_, q1, q2⟩
  simp only [execOp, ho, eval_v h hx, eval_v h hy]
  rw [Sem.run_bind, hr]
  rfl

theorem putE_keys {es : List (Value × DV)} {k : Value} {v : DV} (hn : (es.map (·.1)).Nodup) (kp : Value → Prop) (hall : ∀ q ∈ es, kp q.1) (hk : kp k) : ((putE es k v).map (·.1)).Nodup ∧ ∀ q ∈ putE es k v, kp q.1 := by
  classical
  unfold putE
  split
  · rename_i hany
    have hm : (es.map (fun q => if q.1 = k then (k, v) else q)).map (·.1) = es.map (·.1) := by
      rw [List.map_map]
      apply List.map_congr_left
      intro q _
      simp only [Function.comp]
      split
      · rename_i e; exact e.symm
      · rfl
    refine ⟨by rw [hm]; exact hn, fun q hq => ?_⟩
    obtain ⟨p, hp, rfl⟩ := List.mem_map.1 hq
    split
    · exact hk
    · exact hall p hp
  · rename_i hany
    refine ⟨?_, fun q hq => ?_⟩
    · rw [List.map_append, List.nodup_append]
      refine ⟨hn, by simp, fun x hx y hy => ?_⟩
      simp at hy; subst hy
      obtain ⟨p, hp, rfl⟩ := List.mem_map.1 hx
      intro e
      exact hany (List.any_eq_true.2 ⟨p, hp, by simpa using e⟩)
    · rcases List.mem_append.1 hq with hq | hq
      · exact hall q hq
      · simp at hq; subst hq; exact hk

theorem St.mapPut (hX : TabOk P X) (h : St E fr hp I ι a w) {t q sz' by' : Nat} {e : Nat} {zero : List ZK} (et : tiOf X t = some ⟨.map q e, sz', by', zero⟩) {m x y : Operand} (ho : o.op = .mapUpdate t m x y) {kv : Value} (hkv : keyVal (opv fr x) = some kv)
    {dv : DV} (hdv : dvOf (opv fr y) = some dv) {id : Nat} (hm : opv fr m = .t (.v (.rt id))) {kp : Value → Prop} {es : List (Value × DV)} (hg : getO hp id = some (.map kp es)) (K : Maps.Keyed P q) (hkp : kp = keys P q) (hk : keys P q kv) :
    ∃ w', (execOp a.eval o).run P w = .ok .skip w' ∧ St E fr (setO hp id (.map kp (putE es kv dv))) I ι a w' := by
  subst hkp
  obtain ⟨_, _, hkk⟩ := hX.facts et
  have hd := kOk_map hkk
  have hxv := keyVal_sound (opv_sound h x) hkv
  have hyv := dvOf_sound (opv_sound h y) hdv
  have hmv := opv_sound h m
  rw [hm] at hmv
  obtain ⟨B, ents, clock, h1, h2, h3, h4, h5⟩ := h.rel.obj _ _ hg
  have hmv' : a.eval m = .map (some B) := hmv.1.trans h1
  have hk2 := hk
  obtain ⟨lk, hlk⟩ := hk2
  have hck := K.check w false hlk
  have hgo : (getObj B).run P w = .ok (.map ents clock) w := by simp [getObj, Sem.run, h2]
  have hset : ∀ (ents' : Array MapEntry) (clock' : Nat), (setObj B (.map ents' clock')).run P w = .ok () { w with heap := w.heap.setIfInBounds B (.map ents' clock') } := fun e1 c1 => MapKept.run_setObj_map _ h2
  have hBlt : B < w.heap.size := (Array.getElem?_eq_some_iff.1 h2).1
  have hfin : ∀ (ents' : Array MapEntry) (clock' : Nat), (Instr.mapUpdate t (.map (some B)) kv (a.eval y)).run P w = .ok () { w with heap := w.heap.setIfInBounds B (.map ents' clock') } →
      All2 (fun (en : MapEntry) (q : Value × DV) => en.key = q.1 ∧ RD I en.val q.2) ents'.toList (putE es kv dv) →
      ∃ w', (execOp a.eval o).run P w = .ok .skip w' ∧ St E fr (setO hp id (.map (keys P q) (putE es kv dv))) I ι a w' := fun ents' clock' hr hR => by
    refine ⟨{ w with heap := w.heap.setIfInBounds B (.map ents' clock') }, ?_, ?_⟩
    · simp only [execOp, ho, hmv', hxv]
      rw [Sem.run_bind, hr]
      rfl
    · have hk' := putE_keys (v := dv) h4 (keys P q) h5 hk
      refine h.set (B := B) hg (by rw [h1]; rfl) rfl rfl rfl (by simp) (fun B' hne => by
        have hne' : ¬ B = B' := fun e => hne e.symm
        simp [Array.getElem?_setIfInBounds, hne']) ⟨B, ents', clock', h1, by simp [hBlt], hR, hk'⟩
  classical
  have hunf : ∀ r : Option (Nat × Value), (Instr.findKey q kv ents.toList).run P w = .ok r w → (Instr.mapUpdate t (.map (some B)) kv (a.eval y)).run P w = (match r with
      | some (i, _) => (do let key ← Instr.keyThatStays (((ents[i]?).map (fun x : MapEntry => x.key)).getD kv) kv; setObj B (.map (ents.modify i fun e => { e with key, val := a.eval y }) clock) : Sem Unit)
      | none => setObj B (.map (ents.push { key := kv, val := a.eval y, born := clock }) (clock + 1))).run P w := fun r hf => by
    unfold Instr.mapUpdate
    rw [Sem.run_bind, run_underlying hd w]
    simp only [Result.andThen_ok, Sem.run_bind, hgo, hck, hf]
    rcases r with _ | ⟨i, u⟩ <;> simp [Sem.run_bind]
  rcases find_key K h3 h4 h5 hk w with ⟨q1, q2⟩ | ⟨j, en, d0, q1, q2, q3, q4, q5, q6⟩
  · refine hfin (ents.push { key := kv, val := a.eval y, born := clock }) (clock + 1) (by rw [hunf _ q2]; exact hset _ _) ?_
    unfold putE
    have hno : ¬ (es.any fun q => decide (q.1 = kv)) = true := fun hany => by
      obtain ⟨p, hp, hpk⟩ := List.any_eq_true.1 hany
      exact look_none q1 p hp (by simpa using hpk)
    rw [if_neg hno]
    simp only [Array.toList_push]
    exact h3.append (.cons ⟨rfl, hyv⟩ .nil)
  · have hstay := K.stays w hlk
    have hkey : ((ents[j]?).map (fun x : MapEntry => x.key)).getD kv = kv := by
      have : ents[j]? = some en := by simpa using q3
      rw [this]; simp [q4]
    refine hfin (ents.modify j fun e => { e with key := kv, val := a.eval y }) clock (by
      rw [hunf _ q2]
      simp only [hkey]
      rw [Sem.run_bind, hstay]
      simp only [Result.andThen_ok]
      exact hset _ _) ?_
    unfold putE
    have hany : (es.any fun q => decide (q.1 = kv)) = true := List.any_eq_true.2 ⟨_, List.mem_of_getElem? q6, by simp⟩
    rw [if_pos hany]
    refine All2.of (by simpa using h3.len) fun i x z hx hz => ?_
    rw [List.getElem?_map] at hz
    rw [Array.getElem?_toList, Array.getElem?_modify] at hx
    by_cases e : j = i
    · subst e
      rw [q6] at hz
      simp at hz; subst hz
      have : ents[j]? = some en := by simpa using q3
      rw [this] at hx
      simp at hx; subst hx
      exact ⟨rfl, hyv⟩
    · rw [if_neg e] at hx
      obtain ⟨p, hp, hr⟩ := h3.at' i x (by simpa using hx)
      rw [hp] at hz
      simp at hz; subst hz
      have hne : p.1 ≠ kv := fun r => by
        have hlt := (List.getElem?_eq_some_iff.1 hp).1
        have hlt2 := (List.getElem?_eq_some_iff.1 q6).1
        have e1 : (es.map (·.1))[i]'(by simpa using hlt) = kv := by simp [(List.getElem?_eq_some_iff.1 hp).2, r]
        have e2 : (es.map (·.1))[j]'(by simpa using hlt2) = kv := by simp [(List.getElem?_eq_some_iff.1 q6).2]
        have hpw := List.pairwise_iff_getElem.1 h4
        rcases Nat.lt_or_gt_of_ne e with hlt' | hlt'
        · exact hpw j i (by simpa using hlt2) (by simpa using hlt) hlt' (by rw [e1, e2])
        · exact hpw i j (by simpa using hlt) (by simpa using hlt2) hlt' (by rw [e1, e2])
      rw [if_neg hne]
      exact hr

end
end Go.Proofs.YtlbndchfmdogeaaDoor.Sym
