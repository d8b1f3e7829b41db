/- Sym: evalE tells what each operation does, all of them together; calls that are lent objects; slices and variables frozen. Conditions: the table of types is the program's (TabOk). -/
import Derived.Test.YtajmjfdopminbaaSymj
import Derived.Laws.RangeString
set_option linter.unusedVariables false
set_option linter.unusedSimpArgs false
namespace Go.Proofs.Ytajmjfdopminbaa.Sym
open Go Go.RowKit

def asg : List (Nat × Nat) → Nat → Nat
  | [], i => i
  | (k, v) :: r, i => bif k == i then v else asg r i
def ids (hp : Hp) : List Nat := hp.map (·.1)
def hasN (l : List Nat) (i : Nat) : Bool := l.any fun j => j == i
theorem hasN_iff {l : List Nat} {i : Nat} : hasN l i = true ↔ i ∈ l := by simp [hasN]
def news (hin hout : Hp) : List Nat := (ids hout).filter fun i => !hasN (ids hin) i
/-- The names that are given. -/
def orcIds : Orc → List Nat
  | [] => []
  | .id d :: r => d :: orcIds r
  | .mk d _ _ :: r => d :: orcIds r
  | .call ρ _ hin _ hout :: r => (news hin hout).map (asg ρ) ++ orcIds r
  | _ :: r => orcIds r

section
variable {P : Program} {X : Tab} {E : Env} {w w' : World} {I : Im} {ι : Lo} {fr : Fr} {hp : Hp} {a : Act} {o : Oper}

theorem wp_of_skip {w' : World} {next : Act → World → Prop} {Q : Exit → Act → World → Prop}
    (hr : (execOp a.eval o).run P w = .ok .skip w') (h : next (a.put o.dst undef) w') : o.wp P a w next Q := by
  unfold Oper.wp; rw [hr]; exact h

set_option maxHeartbeats 1000000 in
/-- What evalE tells is what the operation does. -/
theorem evalE_wp (hX : TabOk P X) (h : St E fr hp I ι a w) {orc orc' : Orc} {x : AV} {hp' : Hp} {φ : Prop} (he : evalE P X E.k fr hp o.op orc = some (x, hp', φ, orc')) (hφ : φ) {next : Act → World → Prop} {Q : Exit → Act → World → Prop}
    (hK : ∀ v I' ι' w', St E fr hp' I' ι' a w' → RV I' ι' v x → (∀ id, id ∉ orcIds orc → ι' id = ι id) → next (a.put o.dst v) w') : o.wp P a w next Q := by
  have quiet : ∀ {x φ orc'}, evalQ P X fr hp o.op orc = some (x, φ, orc') → φ → hp' = hp → (∀ v I' ι' w', St E fr hp' I' ι' a w' → RV I' ι' v x → (∀ id, id ∉ orcIds orc → ι' id = ι id) → next (a.put o.dst v) w') → o.wp P a w next Q := fun he hφ hh hK => by
    subst hh
    exact evalQ_wp hX h he hφ fun v I' w' hx hv => hK v I' ι w' (h.ext hx) hv (fun _ _ => rfl)
  have other : (match evalQ P X fr hp o.op orc with
    | some (x, φ, orc') => some (x, hp, φ, orc')
    | none => none) = some (x, hp', φ, orc') → o.wp P a w next Q := fun he => by
    split at he
    · rename_i x2 φ2 orc2 hq
      simp only [Option.some.injEq, Prod.mk.injEq] at he
      obtain ⟨rfl, rfl, rfl, _⟩ := he
      exact quiet hq hφ rfl hK
    · cases he
  cases hop : o.op with
  | alloc t =>
    rw [hop] at he; simp only [evalE] at he
    split at he
    · rename_i i d orc2 e
      cases hd : fresh E.k d fr hp with
      | false => rw [hd] at he; cases he
      | true =>
        rw [hd] at he
        simp only [cond_true, Option.some.injEq, Prod.mk.injEq] at he
        obtain ⟨rfl, rfl, _, _⟩ := he
        obtain ⟨⟨j, hj, _, _, zv, hz, hz2, _, _⟩, _, _⟩ := hX.facts e
        have hzK := RCs.asK (zero_cells hz2 I) ι
        rw [List.map_map] at hzK
        obtain ⟨h1, h2⟩ := h.cells hd (t := t) hzK (fun c hc => by
          obtain ⟨z, _, rfl⟩ := List.mem_map.1 hc
          simp [Function.comp, ment])
        refine wp_of_run ?_ (hK _ _ _ _ h1 h2 (fun id hid => upd_ne ι _ fun e => hid (by subst e; simp [orcIds])))
        have hz3 : (zeroValue t).run P w = .ok zv w := by simp [zeroValue, typeInfo, hj, hz]
        simp only [execOp, hop, Instr.alloc, Sem.run_bind, hz3, Result.andThen_ok, run_newVar, Array.toArray_toList]
        rfl
    · cases he
  | box t y =>
    rw [hop] at he; simp only [evalE] at he
    split at he
    · rename_i i cs d orc2 e hc
      cases hd : fresh E.k d fr hp && cs.length == i.size && noU cs with
      | false => rw [hd] at he; cases he
      | true =>
        rw [hd] at he
        simp only [cond_true, Option.some.injEq, Prod.mk.injEq] at he
        obtain ⟨rfl, rfl, _, _⟩ := he
        simp only [Bool.and_eq_true] at hd
        obtain ⟨⟨hd, _⟩, hu⟩ := hd
        obtain ⟨us, hus, hR⟩ := cellsOf_sound (opv_sound h y) hc (noU_spec hu)
        obtain ⟨h1, h2⟩ := h.cells hd (t := t) hR (cellsOf_ment hc (opv_fresh (fresh_spec hd).1 y))
        refine wp_of_run ?_ (hK _ _ _ _ h1 h2 (fun id hid => upd_ne ι _ fun e => hid (by subst e; simp [orcIds])))
        simp only [execOp, hop, Instr.box, Sem.run_bind, Result.andThen_ok, run_newVar, hus]
        rfl
    · cases he
  | store t y z =>
    rw [hop] at he; simp only [evalE] at he
    split at he
    · rename_i i cs id q e hc hx
      split at he
      · rename_i ty l hg
        cases hb : cs.length == i.size && noU cs && Nat.ble (q + cs.length) l.length with
        | false => rw [hb] at he; cases he
        | true =>
          rw [hb] at he
          simp only [cond_true, Option.some.injEq, Prod.mk.injEq] at he
          obtain ⟨rfl, rfl, _, _⟩ := he
          simp only [Bool.and_eq_true, beq_iff_eq] at hb
          obtain ⟨⟨h1, h2⟩, h3⟩ := hb
          obtain ⟨w', hr, hs⟩ := h.storeCells hX hop e hc h2 hx hg h1 (Nat.le_of_ble_eq_true h3)
          exact wp_of_skip hr (hK undef _ _ _ hs trivial (fun _ _ => rfl))
      · cases he
    · rename_i i cs sz id n q e hc hx
      split at he
      · rename_i ty sz' xs ds el xs' orc2 hg hds hor
        cases hb : sz == sz' && cs.length == i.size && Nat.ble (q + cs.length) sz' with
        | false => rw [hb] at he; cases he
        | true =>
          rw [hb] at he
          simp only [cond_true, Option.some.injEq, Prod.mk.injEq] at he
          obtain ⟨rfl, rfl, rfl, _⟩ := he
          simp only [Bool.and_eq_true, beq_iff_eq] at hb
          obtain ⟨⟨rfl, h2⟩, h3⟩ := hb
          obtain ⟨hel, rfl⟩ := hφ
          obtain ⟨w', hr, hs⟩ := h.storeEl hX hop e hc hds hx hg h2 (Nat.le_of_ble_eq_true h3) hel
          exact wp_of_skip hr (hK undef _ _ _ hs trivial (fun _ _ => rfl))
      · rename_i ty sz' p e2 sz2 m hole xs ds el xs' orc2 hg hds hor
        cases hb : sz == sz' && cs.length == i.size && Nat.ble (q + cs.length) sz' && (Nat.blt p q || Nat.ble (q + cs.length) p) with
        | false => rw [hb] at he; cases he
        | true =>
          rw [hb] at he
          simp only [cond_true, Option.some.injEq, Prod.mk.injEq] at he
          obtain ⟨rfl, rfl, rfl, _⟩ := he
          simp only [Bool.and_eq_true, beq_iff_eq, Bool.or_eq_true, Nat.blt_eq] at hb
          obtain ⟨⟨⟨rfl, h2⟩, h3⟩, h4⟩ := hb
          obtain ⟨hel, rfl⟩ := hφ
          obtain ⟨w', hr, hs⟩ := h.nstoreD hX hop e hc hds hx hg h2 (Nat.le_of_ble_eq_true h3) (h4.imp (fun q => q) Nat.le_of_ble_eq_true) hel
          exact wp_of_skip hr (hK undef _ _ _ hs trivial (fun _ _ => rfl))
      · rename_i ty sz' p e2 sz2 m hole xs d0 orc2 hg hds hor
        split at he
        · rename_i d j hj
          cases hb : sz == sz' && i.size == 1 && q == p with
          | false => rw [hb] at he; cases he
          | true =>
            rw [hb] at he
            simp only [cond_true, Option.some.injEq, Prod.mk.injEq] at he
            obtain ⟨rfl, rfl, rfl, _⟩ := he
            simp only [Bool.and_eq_true, beq_iff_eq] at hb
            obtain ⟨⟨rfl, h2⟩, rfl⟩ := hb
            obtain ⟨rfl, hni⟩ := hφ
            obtain ⟨w', hr, hs⟩ := h.nstoreH hX hop e hc hx hg hj hni h2
            exact wp_of_skip hr (hK undef _ _ _ hs trivial (fun _ _ => rfl))
        · cases he
      · rename_i ty sz' p e2 sz2 m hole xs orc2 hg hds hor
        split at he
        · rename_i d
          cases hb : sz == sz' && i.size == 1 && q == p with
          | false => rw [hb] at he; cases he
          | true =>
            rw [hb] at he
            simp only [cond_true, Option.some.injEq, Prod.mk.injEq] at he
            obtain ⟨rfl, rfl, rfl, _⟩ := he
            simp only [Bool.and_eq_true, beq_iff_eq] at hb
            obtain ⟨⟨rfl, h2⟩, rfl⟩ := hb
            obtain ⟨hnm, hn⟩ := hφ
            obtain ⟨w', hr, hs⟩ := h.nstoreX hX hop e hc hx hg hnm hn h2
            exact wp_of_skip hr (hK undef _ _ _ hs trivial (fun _ _ => rfl))
        · cases he
      · cases he
    · cases he
  | buildSlice t n parts =>
    rw [hop] at he; simp only [evalE] at he
    split at he
    · rename_i e' _ _ _ d xs' orc2 et
      split at he
      · rename_i i e
        split at he
        · rename_i cs hl
          split at he
          · rename_i ds hds
            cases hb : fresh E.k d fr hp && Nat.ble (n * i.size) 16777216 && Nat.ble n lim && xs'.length == n && xs'.all (fun x => x.length == i.size) with
            | false => rw [hb] at he; cases he
            | true =>
              rw [hb] at he
              simp only [cond_true, Option.some.injEq, Prod.mk.injEq] at he
              obtain ⟨rfl, rfl, rfl, _⟩ := he
              simp only [Bool.and_eq_true, beq_iff_eq, List.all_eq_true] at hb
              obtain ⟨⟨⟨⟨hd, h1⟩, h2⟩, h3⟩, h4⟩ := hb
              have hf := hX.facts e
              obtain ⟨⟨j, hj, hj1, _, zv, hz, hz2, hz3, _⟩, hpos, _⟩ := hX.facts e
              have hzK := RCs.asK (zero_cells hz2 I) ι
              have hm := made_sound hzK (by rw [List.length_map, List.length_map, hz3]; exact hpos) n
              rw [show ((i.zero.map ZK.c).map CV.c).length = i.size by simp [hz3], List.map_map] at hm
              obtain ⟨vs, hv1, hv2⟩ := litQ_sound h parts.toList _ cs _ hm hl
              have hvs := unN_sound xs'.flatten (allD_sound hv2 hds)
              have hz4 : (zeroValue e').run P w = .ok zv w := by simp [zeroValue, typeInfo, hj, hz]
              have hrun := run_buildSlice (P := P) (w := w) (t := t) (n := n) (parts := parts.map fun (p : Nat × Operand) => (p.1, a.eval p.2)) (kOk_slice (hX.facts et).k) hf (Nat.le_of_ble_eq_true h1) hz4 (by simpa using hv1)
              have hvl : vs.length = n * i.size := by
                rw [RCs.len hvs, ← hφ, flat_len xs' h4, h3]
              obtain ⟨q1, q2⟩ := h.row hd (e := e') (sz := i.size) (n := n) (c := n) (cur := vs.toArray) (xs := xs') h3.symm (Nat.le_refl _) (lim_max (Nat.le_of_ble_eq_true h2)) (by simpa using hvl) (by rw [h3]; exact Nat.le_of_ble_eq_true h2) h4 (by
                have : (vs.toArray.toList.take (n * i.size)) = vs := by simp [← hvl]
                rw [this]; exact hφ ▸ hvs)
              refine wp_of_run ?_ (hK _ _ _ _ q1 q2 (fun id hid => upd_ne ι _ fun e => hid (by subst e; simp [orcIds])))
              have hmm : (parts.map fun (x : Nat × Operand) => match x with | (i, x) => (i, a.eval x)) = parts.map fun (p : Nat × Operand) => (p.1, a.eval p.2) := rfl
              simp only [execOp, hop]
              rw [Sem.run_bind, hmm, hrun]
              rfl
          · cases he
        · cases he
      · cases he
    · rename_i e' _ _ _ xs' orc2 et
      split at he
      · rename_i i e
        split at he
        · rename_i cs hl
          split at he
          · rename_i ds hds
            cases hb : Nat.ble (n * i.size) 16777216 && Nat.ble n lim && xs'.length == n && xs'.all (fun x => x.length == i.size) with
            | false => rw [hb] at he; cases he
            | true =>
              rw [hb] at he
              simp only [cond_true, Option.some.injEq, Prod.mk.injEq] at he
              obtain ⟨rfl, rfl, rfl, _⟩ := he
              simp only [Bool.and_eq_true, beq_iff_eq, List.all_eq_true] at hb
              obtain ⟨⟨⟨h1, h2⟩, h3⟩, h4⟩ := hb
              have hf := hX.facts e
              obtain ⟨⟨j, hj, hj1, _, zv, hz, hz2, hz3, _⟩, hpos, _⟩ := hX.facts e
              have hzK := RCs.asK (zero_cells hz2 I) ι
              have hm := made_sound hzK (by rw [List.length_map, List.length_map, hz3]; exact hpos) n
              rw [show ((i.zero.map ZK.c).map CV.c).length = i.size by simp [hz3], List.map_map] at hm
              obtain ⟨vs, hv1, hv2⟩ := litQ_sound h parts.toList _ cs _ hm hl
              have hvs := unN_sound xs'.flatten (allD_sound hv2 hds)
              have hz4 : (zeroValue e').run P w = .ok zv w := by simp [zeroValue, typeInfo, hj, hz]
              have hrun := run_buildSlice (P := P) (w := w) (t := t) (n := n) (parts := parts.map fun (p : Nat × Operand) => (p.1, a.eval p.2)) (kOk_slice (hX.facts et).k) hf (Nat.le_of_ble_eq_true h1) hz4 (by simpa using hv1)
              have hvl : vs.length = n * i.size := by
                rw [RCs.len hvs, ← hφ, flat_len xs' h4, h3]
              obtain ⟨I', q1, q2⟩ := h.newData (e := e') (sz := i.size) (n := n) (vs := vs) (xs := xs') h3.symm hvl (by rw [h3]; exact Nat.le_of_ble_eq_true h2) h4 (hφ ▸ hvs)
              refine wp_of_run ?_ (hK _ _ _ _ q1 q2 (fun _ _ => rfl))
              have hmm : (parts.map fun (x : Nat × Operand) => match x with | (i, x) => (i, a.eval x)) = parts.map fun (p : Nat × Operand) => (p.1, a.eval p.2) := rfl
              simp only [execOp, hop]
              rw [Sem.run_bind, hmm, hrun]
              rfl
          · cases he
        · cases he
      · cases he
    · cases he
  | makeSlice t y z =>
    rw [hop] at he; simp only [evalE] at he
    split at he
    · rename_i e' _ _ _ k1 l k2 c d el xs' orc2 et hy hz
      split at he
      · rename_i i e
        cases hb : fresh E.k d fr hp && Nat.ble i.bytes 128 && fitZ i.zero el with
        | false => rw [hb] at he; cases he
        | true =>
          rw [hb] at he
          simp only [cond_true, Option.some.injEq, Prod.mk.injEq] at he
          obtain ⟨rfl, rfl, rfl, _⟩ := he
          simp only [Bool.and_eq_true] at hb
          obtain ⟨h1, h2, h3, rfl⟩ := hφ
          obtain ⟨v, w', hr, q1, q2⟩ := h.mkSlice hX et e hop hy hz hb.1.1 (Nat.le_of_ble_eq_true hb.1.2) hb.2 h1 h2 h3
          exact wp_of_run hr (hK _ _ _ _ q1 q2 (fun id hid => upd_ne ι _ fun e => hid (by subst e; simp [orcIds])))
      · cases he
    · cases he
  | makeMap t r =>
    rw [hop] at he
    cases r with
    | some r => simp only [evalE] at he; exact other (by rw [hop]; exact he)
    | none =>
      simp only [evalE] at he
      split at he
      · rename_i q _ _ _ _ d orc2 et
        cases hd : fresh E.k d fr hp with
        | false => rw [hd] at he; cases he
        | true =>
          rw [hd] at he
          simp only [cond_true, Option.some.injEq, Prod.mk.injEq] at he
          obtain ⟨rfl, rfl, _, _⟩ := he
          obtain ⟨h1, h2⟩ := fresh_spec hd
          have hs := h.make (v := .map (some w.heap.size)) (ob := .map (keys P q) []) (o := .map #[] 0) h1 h2 rfl ⟨w.heap.size, #[], 0, rfl, heap_alloc_new w _, .nil, by simp, fun q hq => by cases hq⟩ rfl
          refine wp_of_run ?_ (hK _ _ _ _ hs ⟨(upd_same ι d _).symm, rfl⟩ (fun id hid => upd_ne ι _ fun e => hid (by subst e; simp [orcIds])))
          simp only [execOp, hop, Option.map_none]
          rw [Sem.run_bind, run_makeMap]
          rfl
      · cases he
  | range t y =>
    rw [hop] at he; simp only [evalE] at he
    split at he
    · rename_i s d orc2 et hy
      cases hd : fresh E.k d fr hp with
      | false => rw [hd] at he; cases he
      | true =>
        rw [hd] at he
        simp only [cond_true, Option.some.injEq, Prod.mk.injEq] at he
        obtain ⟨rfl, rfl, _, _⟩ := he
        obtain ⟨h1, h2⟩ := fresh_spec hd
        obtain ⟨_, _, hk⟩ := hX.facts et
        have hdd := kOk_str hk
        have hs := h.make (v := .pointer (some ⟨w.heap.size, 0, none⟩)) (ob := .iter s 0) (o := .stringIter s 0) h1 h2 rfl ⟨w.heap.size, rfl, heap_alloc_new w _⟩ rfl
        refine wp_of_run ?_ (hK _ _ _ _ hs ⟨(upd_same ι d _).symm, rfl⟩ (fun id hid => upd_ne ι _ fun e => hid (by subst e; simp [orcIds])))
        simp only [execOp, hop, eval_v h hy]
        rw [Sem.run_bind, run_range_string w t s hdd]
        rfl
    · cases he
  | next y isS =>
    rw [hop] at he
    cases isS with
    | false => simp only [evalE] at he; exact other (by rw [hop]; exact he)
    | true =>
      simp only [evalE] at he
      split at he
      · rename_i id t orc2 hy
        split at he
        · rename_i s i hg
          have hyv := opv_sound h y
          rw [hy] at hyv
          obtain ⟨B, q1, q2⟩ := h.rel.obj _ _ hg
          have hv : a.eval y = .pointer (some ⟨B, 0, none⟩) := hyv.1.trans q1
          have hgo : (getObj B).run P w = .ok (.stringIter s i) w := by simp [getObj, Sem.run, q2]
          have hBlt : B < w.heap.size := (Array.getElem?_eq_some_iff.1 q2).1
          cases t with
          | true =>
            simp only [cond_true, Option.some.injEq, Prod.mk.injEq] at he
            obtain ⟨rfl, rfl, rfl, _⟩ := he
            have hs : St E fr (setO hp id (.iter s (i + (Utf8.decode s i).2))) I ι a { w with heap := w.heap.setIfInBounds B (.stringIter s (i + (Utf8.decode s i).2)) } := by
              refine h.set (B := B) hg (by rw [q1]; rfl) rfl rfl rfl (by simp) (fun B' hne => by
                have hne' : ¬ B = B' := fun e => hne e.symm
                simp [Array.getElem?_setIfInBounds, hne']) ⟨B, q1, by simp [hBlt]⟩
            refine wp_of_run ?_ (hK _ _ _ _ hs ⟨[_, _, _], rfl, .cons (RC.v _ rfl rfl) (.cons (RC.v _ rfl rfl) (.cons (RC.v _ rfl rfl) .nil))⟩ (fun _ _ => rfl))
            have hset : (setObj B (.stringIter s (i + (Utf8.decode s i).2))).run P w = .ok () { w with heap := w.heap.setIfInBounds B (.stringIter s (i + (Utf8.decode s i).2)) } := by simp [setObj, Sem.run, q2]
            simp only [execOp, hop, hv]
            rw [Sem.run_bind]
            simp only [Instr.next, Sem.run_bind, hgo, Result.andThen_ok]
            rw [if_pos hφ]
            simp only [Sem.run_bind, hset, Result.andThen_ok]
            rfl
          | false =>
            simp only [cond_false, Option.some.injEq, Prod.mk.injEq] at he
            obtain ⟨rfl, rfl, rfl, _⟩ := he
            refine wp_of_run ?_ (hK _ _ _ _ h ⟨[_], rfl, .cons (RC.v _ rfl rfl) .nil⟩ (fun _ _ => rfl))
            simp only [execOp, hop, hv]
            rw [Sem.run_bind]
            simp [Instr.next, hgo, hφ]
        · cases he
      · cases he
  | mapUpdate t m y z =>
    rw [hop] at he; simp only [evalE] at he
    split at he
    · rename_i q _ _ _ _ kv dv id et hkv hdv hm
      split at he
      · rename_i kp es es' orc2 hg
        simp only [Option.some.injEq, Prod.mk.injEq] at he
        obtain ⟨rfl, rfl, rfl, _⟩ := he
        obtain ⟨K, hkp, hk, rfl⟩ := hφ
        obtain ⟨w', hr, hs⟩ := h.mapPut hX et hop hkv hdv hm hg K hkp (hk (keyVal_ok (opv_sound h _) hkv))
        exact wp_of_skip hr (hK undef _ _ _ hs trivial (fun _ _ => rfl))
      · cases he
    · rename_i q _ _ _ _ kv id et hkv hdv hm
      split at he
      · rename_i kp e2 sz2 hole es d es' orc2 hg hy
        simp only [Option.some.injEq, Prod.mk.injEq] at he
        obtain ⟨rfl, rfl, rfl, _⟩ := he
        obtain ⟨K, hkp, hk, rfl, hho⟩ := hφ
        obtain ⟨w', hr, hs⟩ := h.mapPutN hX et hop hkv hy hm hg hho K hkp (hk (keyVal_ok (opv_sound h _) hkv))
        exact wp_of_skip hr (hK undef _ _ _ hs trivial (fun _ _ => rfl))
      · cases he
    · cases he
  | assign y =>
    rw [hop] at he; simp only [evalE] at he
    split at he
    · rename_i d e sz r
      cases hd : fresh E.k d fr hp with
      | false => rw [hd] at he; cases he
      | true =>
        rw [hd] at he
        simp only [cond_true, Option.some.injEq, Prod.mk.injEq] at he
        obtain ⟨rfl, rfl, _, _⟩ := he
        obtain ⟨h1, h2⟩ := fresh_spec hd
        have hs : St E fr (setO hp d (.row e sz [])) I (upd ι d (.slice none 0 0)) a w := by
          refine h.step (L := fun _ => False) (Ext.refl _ h.agr) (fun B q => q.elim) (fun id hid => upd_ne ι _ (show id ≠ d by omega)) ?_
          exact h.rel.new h1 (Nat.le_refl _) (fun id ob hg B hB => ⟨rfl, by simp [blockOf]⟩) ⟨[], World.ownsRow_nil _ _ _ _, fun x hx => (by cases hx), .nil, Nat.zero_le _⟩ (fun B hB => by cases hB) rfl
        refine wp_of_run (v := .slice none 0 0) (by simp [execOp, hop, Act.eval]) (hK _ _ _ _ hs ⟨(upd_same ι d _).symm, rfl⟩ (fun id hid => upd_ne ι _ fun e => hid (by subst e; simp [orcIds])))
    · exact other (by rw [hop]; exact he)
  | call c =>
    rw [hop] at he; simp only [evalE] at he
    split at he
    · rename_i hc
      split at he
      · rename_i s y t t' d xs' orc2 ha ht
        split at he
        · rename_i e' _ _ _ et
          split at he
          · rename_i i e
            split at he
            · rename_i xs hp1 ys hs hy
              cases hb : t == t' && Nat.ble i.bytes 128 && fresh E.k d fr hp with
              | false => rw [hb] at he; cases he
              | true =>
                rw [hb] at he
                simp only [cond_true, Option.some.injEq, Prod.mk.injEq] at he
                obtain ⟨rfl, rfl, rfl, _⟩ := he
                simp only [Bool.and_eq_true, beq_iff_eq] at hb
                obtain ⟨⟨rfl, h2⟩, hd⟩ := hb
                obtain ⟨v, w', hr, q1, q2⟩ := h.append hX hop hc ha ht et e hs hy (Nat.le_of_ble_eq_true h2) hd hφ.1 hφ.2
                exact wp_of_run hr (hK _ _ _ _ q1 q2 (fun id hid => upd_ne ι _ fun e => hid (by subst e; simp [orcIds])))
            · rename_i ys _ hy
              split at he
              · rename_i id hs
                split at he
                · rename_i e3 sz3 p e2 sz2 m hole xs hg
                  cases hb : t == t' && e3 == e' && sz3 == i.size && Nat.ble i.bytes 128 && fresh E.k d fr hp with
                  | false => rw [hb] at he; cases he
                  | true =>
                    rw [hb] at he
                    simp only [cond_true, Option.some.injEq, Prod.mk.injEq] at he
                    obtain ⟨rfl, rfl, rfl, _⟩ := he
                    simp only [Bool.and_eq_true, beq_iff_eq] at hb
                    obtain ⟨⟨⟨⟨rfl, rfl⟩, rfl⟩, h2⟩, hd⟩ := hb
                    obtain ⟨rfl, hlim⟩ := hφ
                    obtain ⟨v, w', hr, q1, q2⟩ := h.appendN hX hop hc ha ht et e hs hg hy (Nat.le_of_ble_eq_true h2) hd hlim
                    exact wp_of_run hr (hK _ _ _ _ q1 q2 (fun id hid => upd_ne ι _ fun e => hid (by subst e; simp [orcIds])))
                · cases he
              · cases he
            · split at he
              · rename_i k' n k _ _ _ el orc3 hs hy et'
                cases hb : Nat.ble i.bytes 128 && fresh E.k d fr hp && fitZ i.zero el with
                | false => rw [hb] at he; cases he
                | true =>
                  rw [hb] at he
                  simp only [cond_true, Option.some.injEq, Prod.mk.injEq] at he
                  obtain ⟨rfl, rfl, rfl, _⟩ := he
                  simp only [Bool.and_eq_true] at hb
                  obtain ⟨⟨h2, hd⟩, hel⟩ := hb
                  obtain ⟨rfl, h3, h4⟩ := hφ
                  obtain ⟨v, w', hr, q1, q2⟩ := h.appendZeros hX hop hc ha ht et et' e hs hy (Nat.le_of_ble_eq_true h2) hd hel h3 h4
                  exact wp_of_run hr (hK _ _ _ _ q1 q2 (fun id hid => upd_ne ι _ fun e => hid (by subst e; simp [orcIds])))
              · rename_i id b _ _ _ hs hy eu
                split at he
                · rename_i e3 sz3 xs hg
                  cases hb : e3 == e' && sz3 == i.size && i.size == 1 && i.bytes == 1 && isU8 i.k i.zero && fresh E.k d fr hp with
                  | false => rw [hb] at he; cases he
                  | true =>
                    rw [hb] at he
                    simp only [cond_true, Option.some.injEq, Prod.mk.injEq] at he
                    obtain ⟨rfl, rfl, rfl, _⟩ := he
                    simp only [Bool.and_eq_true, beq_iff_eq] at hb
                    obtain ⟨⟨⟨⟨⟨rfl, rfl⟩, h1⟩, h2⟩, h3⟩, hd⟩ := hb
                    have hds : dstOf hp e3 i.size (opv fr s) = some (xs, delO hp id) := by
                      rw [hs]; simp only [dstOf, hg]; simp
                    obtain ⟨v, w', hr, q1, q2⟩ := h.appendS hX hop hc ha ht et eu e h1 h2 h3 hds hy hd hφ.1 hφ.2
                    exact wp_of_run hr (hK _ _ _ _ q1 q2 (fun id hid => upd_ne ι _ fun e => hid (by subst e; simp [orcIds])))
                · cases he
              · cases he
          · cases he
        · cases he
      · cases he
    · rename_i hc
      split at he
      · rename_i s t el xs' orc2 ha ht
        split at he
        · rename_i e' _ _ _ sz id lo n et hs
          split at he
          · rename_i i e2 sz2 xs e hg
            cases hb : sz == i.size && sz2 == i.size && e2 == e' && fitZ i.zero el with
            | false => rw [hb] at he; cases he
            | true =>
              rw [hb] at he
              simp only [cond_true, Option.some.injEq, Prod.mk.injEq] at he
              obtain ⟨rfl, rfl, rfl, _⟩ := he
              simp only [Bool.and_eq_true, beq_iff_eq] at hb
              obtain ⟨⟨⟨rfl, rfl⟩, rfl⟩, hel⟩ := hb
              subst hφ
              obtain ⟨w', hr, q1⟩ := h.clearSub hX hop hc ha ht et e hs hg hel
              exact wp_of_run hr (hK _ _ _ _ q1 ⟨[], rfl, .nil⟩ (fun _ _ => rfl))
          · cases he
        · cases he
      · cases he
    · rename_i hc
      split at he
      · rename_i p n pt it b e orc2 ha ht
        split at he
        · rename_i id m hp' hn
          split at he
          · rename_i e' xs hg
            cases hb : e' == e with
            | false => rw [hb] at he; cases he
            | true =>
              rw [hb] at he
              simp only [cond_true, Option.some.injEq, Prod.mk.injEq] at he
              obtain ⟨rfl, rfl, rfl, _⟩ := he
              simp only [beq_iff_eq] at hb
              subst hb
              obtain ⟨k1, k2, k3, k4, k5⟩ := hφ
              obtain ⟨w', hr, q1, q2⟩ := h.unsafeString hop hc ha ht hp' hn hg k1 k2 k3 k4 k5
              exact wp_of_run hr (hK _ _ _ _ q1 q2 (fun _ _ => rfl))
          · cases he
        · cases he
      · cases he
    · exact other (by rw [hop]; exact he)
  | _ => rw [hop] at he; simp only [evalE] at he; exact other (by rw [hop]; exact he)

end
end Go.Proofs.Ytajmjfdopminbaa.Sym
