/- Sym: what evalQ tells of an operation is what the operation does. Conditions: the table of types is the program's (TabOk). -/
import Derived.Test.YtajmjfdopminbaaSymf
set_option linter.unusedVariables false
set_option linter.unusedSimpArgs false
namespace Go.Proofs.Ytajmjfdopminbaa.Sym
open Go Go.RowKit

section
variable {P : Program} {X : Tab} {E : Env} {w : World} {I : Im} {ι : Lo} {fr : Fr} {hp : Hp} {a : Act} {o : Oper}

theorem sl_form {v : Value} {sz : Nat} {xs : List El} (h : RC I v (.sl sz xs)) : ∃ A n, v = .slice A xs.length n := by
  rcases RC.sl_inv h with ⟨A, n, hv, _⟩ | ⟨b, off, n, _, hv, _⟩ <;> exact ⟨_, _, hv⟩
theorem lenQ_sound (hX : TabOk P X) (h : St E fr hp I ι a w) {t n : Nat} {x : Operand} (he : lenQ X hp t (opv fr x) = some n) : ∀ ty w, (Builtin.len_ #[t] ty #[a.eval x]).run P w = .ok (.int .i64 (n : Int)) w := by
  have hx := opv_sound h x
  unfold lenQ at he
  split at he
  · rename_i e
    split at he <;> (try (cases he; done))
    · rename_i hy
      simp at he; subst he
      rw [hy] at hx
      obtain ⟨A, c, hv⟩ := sl_form hx
      rw [hv]; exact run_len_sl hX e _ _ _
    · rename_i hy
      simp at he; subst he
      rw [hy] at hx
      have hx' : RC I (a.eval x) .nil := hx
      generalize a.eval x = u at hx'
      cases hx'
      exact run_len_sl hX e _ _ _
    · rename_i hy
      split at he
      · rename_i hg
        simp at he; subst he
        rw [hy] at hx
        obtain ⟨⟨A, c, hv⟩, _⟩ := row_len (h.rel.obj _ _ hg)
        have hvx : a.eval x = _ := hx.1
        rw [hvx, hv]; exact run_len_sl hX e _ _ _
      · rename_i hg
        simp at he; subst he
        rw [hy] at hx
        obtain ⟨⟨A, c, hv⟩, _⟩ := nrow_len (h.rel.obj _ _ hg)
        have hvx : a.eval x = _ := hx.1
        rw [hvx, hv]; exact run_len_sl hX e _ _ _
      · cases he
    · rename_i hy
      simp at he; subst he
      rw [hy] at hx
      obtain ⟨A, len, cap, _, _, hv⟩ := hx
      rw [hv]
      intro ty w
      have h2 := run_len_sl (P := P) hX e
      unfold sliced
      rw [h2]
      simp
  · rename_i e
    split at he
    · rename_i s hy
      simp at he; subst he
      rw [eval_v h hy]; exact run_len_str hX e s
    · cases he
  · cases he

set_option maxHeartbeats 1000000 in
/-- What evalQ tells is what the operation does. -/
theorem evalQ_wp (hX : TabOk P X) (h : St E fr hp I ι a w) {orc orc' : Orc} {x : AV} {φ : Prop} (he : evalQ P X fr hp o.op orc = some (x, φ, orc')) (hφ : φ) {next : Act → World → Prop} {Q : Exit → Act → World → Prop}
    (hK : ∀ v I' w', Ext (fun _ => False) I w I' w' → RV I' ι v x → next (a.put o.dst v) w') : o.wp P a w next Q := by
  have fin : Gives P I ι a w o x → o.wp P a w next Q := fun hg => by
    obtain ⟨v, hr, hv⟩ := hg
    exact wp_of_run hr (hK v I w (Ext.refl _ h.agr) hv)
  cases hop : o.op with
  | move y =>
    rw [hop] at he; simp only [evalQ] at he
    split at he
    · simp only [Option.some.injEq, Prod.mk.injEq] at he
      obtain ⟨rfl, _, _⟩ := he
      exact fin ⟨.slice none 0 0, by simp [execOp, hop, Act.eval], RC.emp none 0 _ (fun _ => rfl)⟩
    · simp only [Option.some.injEq, Prod.mk.injEq] at he
      obtain ⟨rfl, _, _⟩ := he
      exact fin (gives_move h (.inl hop))
  | assign y =>
    rw [hop] at he; simp only [evalQ] at he
    split at he
    · simp only [Option.some.injEq, Prod.mk.injEq] at he
      obtain ⟨rfl, _, _⟩ := he
      exact fin ⟨.slice none 0 0, by simp [execOp, hop, Act.eval], RC.emp none 0 _ (fun _ => rfl)⟩
    · simp only [Option.some.injEq, Prod.mk.injEq] at he
      obtain ⟨rfl, _, _⟩ := he
      exact fin (gives_move h (.inr hop))
  | pick c y z =>
    rw [hop] at he; simp only [evalQ] at he
    split at he
    · rename_i hc
      simp only [Option.some.injEq, Prod.mk.injEq] at he
      obtain ⟨rfl, rfl, _⟩ := he
      rw [hφ] at hc
      exact fin (by simpa using gives_pick h hop hc)
    · rename_i hc
      simp only [Option.some.injEq, Prod.mk.injEq] at he
      obtain ⟨rfl, rfl, _⟩ := he
      rw [hφ] at hc
      exact fin (by simpa using gives_pick h hop hc)
    · cases he
  | build t parts =>
    rw [hop] at he; simp only [evalQ] at he
    split at he
    · rename_i offs sz by' zero e
      split at he
      · rename_i l hb
        simp only [Option.some.injEq, Prod.mk.injEq] at he
        obtain ⟨rfl, _, _⟩ := he
        exact fin (gives_build hX h hop e hb)
      · cases he
    · cases he
  | load t y =>
    rw [hop] at he; simp only [evalQ] at he
    split at he
    · rename_i i e
      split at he
      · rename_i cs ψ orc2 hc
        split at he
        · rename_i z hl
          simp only [Option.some.injEq, Prod.mk.injEq] at he
          obtain ⟨rfl, rfl, _⟩ := he
          exact fin (gives_load hX h e hop hc hφ hl)
        · cases he
      · cases he
    · cases he
  | nilCheck y =>
    rw [hop] at he; simp only [evalQ] at he
    split at he <;> (try (cases he; done))
    all_goals
      rename_i hy
      simp only [Option.some.injEq, Prod.mk.injEq] at he
      obtain ⟨rfl, _, _⟩ := he
    · exact fin (gives_ptr h hop hy (.inl ⟨_, _, rfl⟩))
    · exact fin (gives_ptr h hop hy (.inr (.inl ⟨_, rfl⟩)))
    · exact fin (gives_ptr h hop hy (.inr (.inr ⟨_, _, _, _, rfl⟩)))
  | fieldAddr t y f =>
    rw [hop] at he; simp only [evalQ] at he
    split at he
    · rename_i offs _ _ _ e
      split at he
      · rename_i n m hf
        split at he <;> (try (cases he; done))
        all_goals
          rename_i hy
          simp only [Option.some.injEq, Prod.mk.injEq] at he
          obtain ⟨rfl, rfl, _⟩ := he
        · exact fin (gives_fieldAddr hX h hop e hf hy (.inl ⟨_, _, rfl, rfl⟩))
        · exact fin (gives_fieldAddr hX h hop e hf hy (.inr (.inl ⟨_, rfl, rfl⟩)))
        · exact fin (gives_fieldAddr hX h hop e hf hy (.inr (.inr ⟨_, _, _, _, rfl, rfl⟩)))
      · cases he
    · cases he
  | indexAddr t y i =>
    rw [hop] at he; simp only [evalQ] at he
    split at he
    · rename_i e' _ _ _ k n e hi
      split at he
      · rename_i i' e2
        split at he
        · rename_i sz xs hy
          split at he
          · rename_i cs r
            cases hsz : sz == i'.size with
            | false => rw [hsz] at he; simp at he
            | true =>
              rw [hsz] at he
              simp only [cond_true, Option.some.injEq, Prod.mk.injEq] at he
              obtain ⟨rfl, rfl, _⟩ := he
              exact fin (gives_indexAddr hX h hop e hi hy e2 (by simpa using hsz) hφ.1 hφ.2.1 hφ.2.2)
          · cases he
        · rename_i id hy
          split at he
          · rename_i e3 sz xs hg
            cases hsz : e3 == e' && sz == i'.size with
            | false => rw [hsz] at he; simp at he
            | true =>
              rw [hsz] at he
              simp only [cond_true, Option.some.injEq, Prod.mk.injEq] at he
              obtain ⟨rfl, rfl, _⟩ := he
              simp only [Bool.and_eq_true, beq_iff_eq] at hsz
              obtain ⟨rfl, hsz⟩ := hsz
              exact fin (gives_indexOwn hX h hop e hi hy hg e2 hsz hφ.1 hφ.2)
          · rename_i e3 sz _ _ _ _ _ xs hg
            cases hsz : e3 == e' && sz == i'.size with
            | false => rw [hsz] at he; simp at he
            | true =>
              rw [hsz] at he
              simp only [cond_true, Option.some.injEq, Prod.mk.injEq] at he
              obtain ⟨rfl, rfl, _⟩ := he
              simp only [Bool.and_eq_true, beq_iff_eq] at hsz
              obtain ⟨rfl, hsz⟩ := hsz
              exact fin (gives_indexAt hX h hop e hi hy (nrow_len (h.rel.obj _ _ hg)).2.2 e2 hsz hφ.1 hφ.2)
          · cases he
        · rename_i sz id lo m hy
          split at he
          · rename_i hg
            cases hsz : sz == i'.size with
            | false => rw [hsz] at he; simp at he
            | true =>
              rw [hsz] at he
              simp only [cond_true, Option.some.injEq, Prod.mk.injEq] at he
              obtain ⟨rfl, rfl, _⟩ := he
              exact fin (gives_indexSub hX h hop e hi hy hg e2 (by simpa using hsz) hφ.1 hφ.2)
          · cases he
        · cases he
      · cases he
    · cases he
  | index t y i =>
    rw [hop] at he; simp only [evalQ] at he
    split at he
    · rename_i e hy hi
      simp only [Option.some.injEq, Prod.mk.injEq] at he
      obtain ⟨rfl, rfl, _⟩ := he
      exact fin (gives_index hX h hop e hi hy hφ.1 hφ.2)
    · cases he
  | binOp op t y z yt =>
    rw [hop] at he; simp only [evalQ] at he
    split at he
    · rename_i k m k' n hy hz
      split at he
      · rename_i v ψ hi
        simp only [Option.some.injEq, Prod.mk.injEq] at he
        obtain ⟨rfl, rfl, _⟩ := he
        have hs := fun w => shOp_sound (P := P) (k' := k') hi hφ t w
        exact fin (gives_binOp h hop hy hz (fun w => by rw [eqGuard_at_int]; rfl) (fun w => (hs w).1) (hs w).2.1 (hs w).2.2)
      · cases hkk : decide (k = k') with
        | false => rw [hkk] at he; simp at he
        | true =>
          rw [hkk] at he
          have : k = k' := of_decide_eq_true hkk
          subst this
          simp only [cond_true] at he
          split at he
          · rename_i v ψ hi
            simp only [Option.some.injEq, Prod.mk.injEq] at he
            obtain ⟨rfl, rfl, _⟩ := he
            have hs := fun w => intOp_sound (P := P) hi hφ t w
            exact fin (gives_binOp h hop hy hz (fun w => by rw [eqGuard_at_int]; rfl) (fun w => (hs w).1) (hs w).2.1 (hs w).2.2)
          · cases he
    · rename_i xs ys hy hz
      split at he <;> (try (cases he; done))
      all_goals
        rename_i hq
        simp only [Option.some.injEq, Prod.mk.injEq] at he
        obtain ⟨rfl, rfl, _⟩ := he
      · exact fin ((gives_eqSt h hop hy hz hq).1 rfl)
      · exact fin ((gives_eqSt h hop hy hz hq).2 rfl)
    · rename_i m n hy hz
      split at he
      · rename_i v ψ hi
        simp only [Option.some.injEq, Prod.mk.injEq] at he
        obtain ⟨rfl, rfl, _⟩ := he
        have hs := fun w => strOp_sound (P := P) hi hφ t w
        exact fin (gives_binOp h hop hy hz (fun w => by rw [eqGuard_at_string]; rfl) (fun w => (hs w).1) (hs w).2.1 (hs w).2.2)
      · cases he
    · rename_i m n hy hz
      split at he
      all_goals (try (cases he; done))
      all_goals
        rename_i e
        simp only [Option.some.injEq, Prod.mk.injEq] at he
        obtain ⟨rfl, rfl, _⟩ := he
        obtain ⟨_, _, hk⟩ := hX.facts e
        have hd := kOk_bool hk
      · exact fin (gives_binOp h hop hy hz (fun w => by rw [eqGuard_at_bool]; rfl) (fun w => run_eql_bool hd m n w) rfl rfl)
      · exact fin (gives_binOp h hop hy hz (fun w => by rw [eqGuard_at_bool]; rfl) (fun w => run_neq_bool hd m n w) rfl rfl)
    · rename_i sz xs hy hz
      have hz' : a.eval z = .slice none 0 0 := eval_nil h hz
      have hy' := opv_sound h y
      rw [hy] at hy'
      obtain ⟨_, A, n, c, hv⟩ := hy'
      split at he
      all_goals (try (cases he; done))
      all_goals
        rename_i e
        simp only [Option.some.injEq, Prod.mk.injEq] at he
        obtain ⟨rfl, rfl, _⟩ := he
      · exact fin (gives_nilEq hX hop e hv hz' (.inl ⟨rfl, rfl⟩))
      · exact fin (gives_nilEq hX hop e hv hz' (.inr ⟨rfl, rfl⟩))
    · rename_i hy hz
      have hz' : a.eval z = .slice none 0 0 := eval_nil h hz
      have hv : a.eval y = .slice none 0 0 := eval_nil h hy
      split at he
      all_goals (try (cases he; done))
      all_goals
        rename_i e
        simp only [Option.some.injEq, Prod.mk.injEq] at he
        obtain ⟨rfl, rfl, _⟩ := he
      · exact fin (gives_nilEq hX hop e hv hz' (.inl ⟨rfl, rfl⟩))
      · exact fin (gives_nilEq hX hop e hv hz' (.inr ⟨rfl, rfl⟩))
    · cases he
  | unOp u t y =>
    rw [hop] at he
    cases u <;> simp only [evalQ] at he <;> (try (cases he; done))
    split at he
    · rename_i b hy
      simp only [Option.some.injEq, Prod.mk.injEq] at he
      obtain ⟨rfl, rfl, _⟩ := he
      exact fin (gives_not h hop hy)
    · cases he
  | convert s t y =>
    rw [hop] at he; simp only [evalQ] at he
    split at he
    · rename_i es et hy
      simp only [Option.some.injEq, Prod.mk.injEq] at he
      obtain ⟨rfl, rfl, _⟩ := he
      exact fin (gives_convert hX h hop es et hy)
    · cases he
  | makeFunc f first caps =>
    rw [hop] at he
    cases f <;> simp only [evalQ] at he <;> (try (cases he; done))
    split at he
    · rename_i l hf hl
      split at he
      · rename_i cs hc
        simp only [Option.some.injEq, Prod.mk.injEq] at he
        obtain ⟨rfl, rfl, _⟩ := he
        exact fin (gives_makeFunc h hop hf hl hc)
      · cases he
    · cases he
  | slice t y lo hi mx =>
    rw [hop] at he
    cases mx with
    | some _ => simp [evalQ] at he
    | none =>
      simp only [evalQ] at he
      split at he
      · rename_i e' _ _ _ l n e hlo hlen
        split at he
        · rename_i i' m e2 hhi
          split at he
          · rename_i sz xs hy
            have hn : n = xs.length := by
              rw [hy] at hlen; simp [lenQ, e] at hlen; exact hlen.symm
            subst hn
            split at he
            · cases hsz : sz == i'.size with
              | false => rw [hsz] at he; simp at he
              | true =>
                rw [hsz] at he
                simp only [cond_true, Option.some.injEq, Prod.mk.injEq] at he
                obtain ⟨rfl, rfl, _⟩ := he
                have hg := gives_slice hX h hop e e2 hy (by simpa using hsz) (m := xs.length) (boundQ_lo h hlo hφ.1) (.inl ⟨rfl, rfl⟩) (by omega) (Nat.le_refl _)
                rw [List.take_of_length_le (Nat.le_refl _)] at hg
                exact fin hg
            · cases hsz : sz == i'.size with
              | false => rw [hsz] at he; simp at he
              | true =>
                rw [hsz] at he
                simp only [cond_true, Option.some.injEq, Prod.mk.injEq] at he
                obtain ⟨rfl, rfl, _⟩ := he
                exact fin (gives_slice hX h hop e e2 hy (by simpa using hsz) (boundQ_lo h hlo hφ.1) (boundQ_hi h hhi (by omega)) (by omega) (by omega))
          · rename_i id hy
            simp only [Option.some.injEq, Prod.mk.injEq] at he
            obtain ⟨rfl, rfl, _⟩ := he
            cases hg : getO hp id with
            | none => rw [hy] at hlen; simp [lenQ, e, hg] at hlen
            | some ob =>
              cases ob with
              | row e3 sz xs =>
                have hn : n = xs.length := by
                  rw [hy] at hlen; simp [lenQ, e, hg] at hlen; exact hlen.symm
                subst hn
                obtain ⟨vals, q1, _⟩ := h.rel.obj _ _ hg
                have := gives_sliceOwn hX h hop e e2 hy q1 (boundQ_lo h hlo hφ.1) (boundQ_hi h hhi (by omega)) (by omega) (by omega)
                have q : m.toNat - l.toNat = (m - l).toNat := by omega
                rw [q] at this
                exact fin this
              | nrow e3 sz _ _ _ _ _ xs =>
                have hn : n = xs.length := by
                  rw [hy] at hlen; simp [lenQ, e, hg] at hlen; exact hlen.symm
                subst hn
                obtain ⟨⟨vals, q1, _⟩, _⟩ := h.rel.obj _ _ hg
                have := gives_sliceOwn hX h hop e e2 hy q1 (boundQ_lo h hlo hφ.1) (boundQ_hi h hhi (by omega)) (by omega) (by omega)
                have q : m.toNat - l.toNat = (m - l).toNat := by omega
                rw [q] at this
                exact fin this
              | _ => rw [hy] at hlen; simp [lenQ, e, hg] at hlen
          · rename_i hy
            simp only [Option.some.injEq, Prod.mk.injEq] at he
            obtain ⟨rfl, rfl, _⟩ := he
            obtain ⟨rfl, rfl⟩ := hφ
            have hn : n = 0 := by
              rw [hy] at hlen; simp [lenQ, e] at hlen; exact hlen.symm
            subst hn
            exact fin (gives_sliceNil hX h hop e e2 hy (boundQ_lo h hlo (by omega)) (boundQ_hi h hhi (by omega)))
          · cases he
        · cases he
      · rename_i l n e hlo hlen
        split at he
        · rename_i m hhi
          split at he
          · rename_i s hy
            have hn : n = s.size := by
              rw [hy] at hlen; simp [lenQ, e] at hlen; exact hlen.symm
            subst hn
            split at he
            · simp only [Option.some.injEq, Prod.mk.injEq] at he
              obtain ⟨rfl, rfl, _⟩ := he
              exact fin (gives_sliceStr hX h hop e hy (m := s.size) (boundQ_lo h hlo hφ.1) (.inl ⟨rfl, rfl⟩) (by omega) (Nat.le_refl _))
            · simp only [Option.some.injEq, Prod.mk.injEq] at he
              obtain ⟨rfl, rfl, _⟩ := he
              exact fin (gives_sliceStr hX h hop e hy (boundQ_lo h hlo hφ.1) (boundQ_hi h hhi (by omega)) (by omega) (by omega))
          · cases he
        · cases he
      · cases he
  | extract y i =>
    rw [hop] at he; simp only [evalQ] at he
    split at he
    · rename_i l hy
      split at he
      · rename_i z hl
        simp only [Option.some.injEq, Prod.mk.injEq] at he
        obtain ⟨rfl, rfl, _⟩ := he
        exact fin (gives_extract h hop hy hl)
      · cases he
    · cases he
  | lookup t y z ok =>
    rw [hop] at he; simp only [evalQ] at he
    split at he
    · rename_i k e _ _ _ kv r orc2 et hkv
      split at he
      · rename_i id hm
        split at he
        · rename_i kp es hg
          split at he
          · rename_i d
            simp only [Option.some.injEq, Prod.mk.injEq] at he
            obtain ⟨rfl, rfl, _⟩ := he
            exact fin ((gives_lookup hX h hop et hkv hm hg hφ.1 hφ.2.1 (hφ.2.2.1 (keyVal_ok (opv_sound h _) hkv))).1 d hφ.2.2.2)
          · split at he
            · rename_i z' hz
              simp only [Option.some.injEq, Prod.mk.injEq] at he
              obtain ⟨rfl, rfl, _⟩ := he
              exact fin ((gives_lookup hX h hop et hkv hm hg hφ.1 hφ.2.1 (hφ.2.2.1 (keyVal_ok (opv_sound h _) hkv))).2 hφ.2.2.2 z' hz)
            · cases he
        · rename_i kp _ _ _ es hg
          split at he
          · cases he
          · split at he
            · rename_i z' hz
              simp only [Option.some.injEq, Prod.mk.injEq] at he
              obtain ⟨rfl, rfl, _⟩ := he
              exact fin ((gives_lookupN hX h hop et hkv hm hg hφ.1 hφ.2.1 (hφ.2.2.1 (keyVal_ok (opv_sound h _) hkv))).2 hφ.2.2.2 z' hz)
            · cases he
        · cases he
      · cases he
    · rename_i k e _ _ _ kv orc2 et hkv
      split at he
      · rename_i id hm
        split at he
        · rename_i kp _ _ kv' d es hg
          simp only [Option.some.injEq, Prod.mk.injEq] at he
          obtain ⟨rfl, rfl, _⟩ := he
          exact fin ((gives_lookupN hX h hop et hkv hm hg hφ.1 hφ.2.1 (hφ.2.2.1 (keyVal_ok (opv_sound h _) hkv))).1 d (by rw [hφ.2.2.2]))
        · cases he
      · cases he
    · cases he
  | call c =>
    rw [hop] at he; simp only [evalQ] at he
    split at he
    · rename_i hc
      split at he
      · rename_i y t ha ht
        split at he
        · rename_i n hl
          simp only [Option.some.injEq, Prod.mk.injEq] at he
          obtain ⟨rfl, rfl, _⟩ := he
          exact fin (gives_len hop hc ha ht (lenQ_sound hX h hl))
        · cases he
      · cases he
    · rename_i hc
      split at he
      · rename_i y t ha ht
        split at he
        · rename_i hy e
          simp only [Option.some.injEq, Prod.mk.injEq] at he
          obtain ⟨rfl, rfl, _⟩ := he
          obtain ⟨_, _, hk⟩ := hX.facts e
          have hd := kOk_slice hk
          refine fin (gives_cap (n := 0) hop hc ha ht fun ty w => ?_)
          rw [eval_nil h hy]
          simp [Builtin.cap_, run_underlying hd, goInt]
        · cases he
      · cases he
    · rename_i hc
      split at he
      · rename_i y z ha
        split at he
        · rename_i k m k' n hy hz
          simp only [Option.some.injEq, Prod.mk.injEq] at he
          obtain ⟨rfl, rfl, _⟩ := he
          exact fin (gives_mn (mi := true) hop hc ha (eval_v h hy) (eval_v h hz))
        · cases he
      · cases he
    · rename_i hc
      split at he
      · rename_i y z ha
        split at he
        · rename_i k m k' n hy hz
          simp only [Option.some.injEq, Prod.mk.injEq] at he
          obtain ⟨rfl, rfl, _⟩ := he
          exact fin (gives_mn (mi := false) hop hc ha (eval_v h hy) (eval_v h hz))
        · cases he
      · cases he
    · rename_i hc
      split at he
      · rename_i y ha
        split at he
        · rename_i id hy
          split at he
          · rename_i e sz xs hg
            simp only [Option.some.injEq, Prod.mk.injEq] at he
            obtain ⟨rfl, rfl, _⟩ := he
            exact fin (gives_sliceData h hop hc ha hy hg hφ)
          · cases he
        · cases he
      · cases he
    · rename_i f hc
      split at he
      · rename_i k caps args r orc2 hf ha
        cases hr : isDA r with
        | false => rw [hr] at he; simp at he
        | true =>
          rw [hr] at he
          simp only [cond_true, Option.some.injEq, Prod.mk.injEq] at he
          obtain ⟨rfl, rfl, _⟩ := he
          exact wp_call h hop hc hf ha hφ hr hK
      · cases he
    · cases he
  | _ => rw [hop] at he; simp [evalQ] at he

end
end Go.Proofs.Ytajmjfdopminbaa.Sym
