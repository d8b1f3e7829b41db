/- Sym: what a function's body makes is what calling it gives (Spec). Conditions: the table of types is the program's (TabOk). -/
import Derived.Test.YtajmjfdopminbaaSymn
set_option linter.unusedVariables false
set_option linter.unusedSimpArgs false
namespace Go.Proofs.Ytajmjfdopminbaa.Sym
open Go Go.RowKit

def argFr : Nat → List TV → Fr
  | _, [] => []
  | n, x :: r => (n, .t x) :: argFr (n + 1) r
def res1 (X : Tab) (fr : Fr) (hp : Hp) : ResultVar → Option TV
  | .tmp t => match get fr t with
    | .t x => some x
    | _ => none
  | .cell p t => match tiOf X t with
    | some i => match get fr p with
      | .t (.v (.ptr id o)) => match cellsAt hp i.size [] (.t (.v (.ptr id o))) with
        | some (cs, _, _) => match asVal (isAggT X t) cs with
          | some (.t x) => some x
          | _ => none
        | none => none
      | _ => none
    | none => none
def resL (X : Tab) (fr : Fr) (hp : Hp) : List ResultVar → Option (List TV)
  | [] => some []
  | x :: r => match res1 X fr hp x, resL X fr hp r with
    | some y, some l => some (y :: l)
    | _, _ => none
def resOf : List TV → AV
  | [x] => .t x
  | l => .tup l
/-- The results. -/
def resQ (X : Tab) (fr : Fr) (hp : Hp) (rs : List ResultVar) : Option AV := match resL X fr hp rs with
  | some l => some (resOf l)
  | none => none
def Oc.st : Oc → Fr × Hp
  | .nor fr hp => (fr, hp)
  | .ex _ fr hp => (fr, hp)
  | .ret fr hp => (fr, hp)
def Oc.ends : Oc → Bool
  | .ex _ _ _ => false
  | _ => true

section
variable {P : Program} {X : Tab} {E : Env} {w : World} {I : Im} {ι : Lo} {fr : Fr} {hp : Hp} {a : Act}

theorem get_argFr : ∀ (l : List TV) (n s : Nat), get (argFr n l) s = if n ≤ s then (match l[s - n]? with | some x => .t x | none => .u) else .u
  | [], n, s => by simp [argFr, get]
  | x :: r, n, s => by
    simp only [argFr, get]
    by_cases e : n = s
    · subst e; simp
    · have : (n == s) = false := by simpa using e
      rw [this]
      simp only [cond_false]
      rw [get_argFr r (n + 1) s]
      by_cases h : n ≤ s
      · have h' : n + 1 ≤ s := by omega
        have h2 : s - n = (s - (n + 1)) + 1 := by omega
        rw [if_pos h, if_pos h', h2]
        simp
      · have h' : ¬ n + 1 ≤ s := by omega
        rw [if_neg h, if_neg h']

theorem res1_sound (hX : TabOk P X) (h : St E fr hp I ι a w) {x : ResultVar} {y : TV} (he : res1 X fr hp x = some y) :
    ∃ v, (match x with | .tmp t => pure (a.tmps.getD t undef) | .cell p t => (do loadVar t (← asAddr (a.tmps.getD p undef)) : Sem Value) : Sem Value).run P w = .ok v w ∧ RT I ι v y := by
  cases x with
  | tmp t =>
    simp only [res1] at he
    have hs := h.rel.slot t
    split at he
    · rename_i x hx
      simp at he; subst he
      rw [hx] at hs
      exact ⟨_, rfl, hs⟩
    · cases he
  | cell p t =>
    simp only [res1] at he
    split at he
    · rename_i i e
      have hs := h.rel.slot p
      split at he
      · rename_i id o hp'
        rw [hp'] at hs
        split at he
        · rename_i cs φ orc hc
          have hφ : φ := by
            simp only [cellsAt] at hc
            split at hc
            · rename_i l _
              cases hb : Nat.ble (o + i.size) l.length with
              | false => rw [hb] at hc; cases hc
              | true => rw [hb] at hc; simp at hc; exact hc.2.1
            · cases hc
          obtain ⟨ad, vs, h1, h2, h3, h4⟩ := cellsAt_sound h hs hc hφ
          have hrun := run_loadVar (w := w) hX e h2 (by rw [h3.len, h4])
          split at he
          · rename_i x hl
            simp at he; subst he
            have hv : a.tmps.getD p undef = .pointer (some ad) := h1
            refine ⟨(if aggK i.k = true then .agg vs.toArray else vs.getD 0 undef), ?_, ?_⟩
            · simp only [hv]
              rw [Sem.run_bind]
              show (((asAddr (.pointer (some ad))).run P w).andThen _) = _
              simp [asAddr, hrun]
            · rw [isAggT_eq e] at hl
              unfold asVal at hl
              split at hl
              · rename_i hk
                simp at hl; subst hl
                rw [hk]; exact ⟨vs, by simp, h3⟩
              · rename_i q hk
                simp at hl; subst hl
                rw [hk]
                cases h3 with
                | cons hq ht => simpa [RT] using hq.1
              · cases hl
          · cases he
        · cases he
      · cases he
    · cases he

theorem resQ_sound (hX : TabOk P X) (h : St E fr hp I ι a w) {fn : Func} {r : AV} (he : resQ X fr hp fn.results.toList = some r) : ∃ v, (results fn a.tmps).run P w = .ok v w ∧ RV I ι v r := by
  unfold resQ at he
  split at he
  · rename_i l hl
    simp at he; subst he
    have key : ∀ (rs : List ResultVar) (l : List TV), resL X fr hp rs = some l → ∃ vs : List Value, (rs.mapM fun (x : ResultVar) => (match x with | .tmp t => pure (a.tmps.getD t undef) | .cell p t => (do loadVar t (← asAddr (a.tmps.getD p undef)) : Sem Value) : Sem Value)).run P w = .ok vs w ∧ All2 (RT I ι) vs l := by
      intro rs
      induction rs with
      | nil => intro l hl; simp [resL] at hl; subst hl; exact ⟨[], by simp, .nil⟩
      | cons x r ih =>
        intro l hl
        simp only [resL] at hl
        split at hl
        · rename_i y l2 h1 h2
          simp at hl; subst hl
          obtain ⟨v, hv1, hv2⟩ := res1_sound hX h h1
          obtain ⟨vs, hs1, hs2⟩ := ih l2 h2
          refine ⟨v :: vs, ?_, .cons hv2 hs2⟩
          rw [List.mapM_cons, Sem.run_bind, hv1]
          simp only [Result.andThen_ok, Sem.run_bind, hs1, Sem.run_pure]
        · cases hl
    obtain ⟨vs, h1, h2⟩ := key _ _ hl
    have hm : (fn.results.mapM fun (x : ResultVar) => (match x with | .tmp t => pure (a.tmps.getD t undef) | .cell p t => (do loadVar t (← asAddr (a.tmps.getD p undef)) : Sem Value) : Sem Value)).run P w = .ok vs.toArray w := by
      have hfs : fn.results = fn.results.toList.toArray := by simp
      rw [hfs, List.mapM_toArray, map_eq_pure_bind, Sem.run_bind, h1]
      rfl
    refine ⟨(if h : vs.toArray.size = 1 then vs.toArray[0] else .tuple vs.toArray), ?_, ?_⟩
    · unfold results
      rw [Sem.run_bind]
      exact (congrArg (fun (r : Result (Array Value)) => r.andThen fun vs w' => (pure (if h : vs.size = 1 then vs[0] else .tuple vs) : Sem Value).run P w') hm)
    · cases h2 with
      | nil => exact ⟨[], rfl, .nil⟩
      | cons r1 t1 =>
        cases t1 with
        | nil => exact r1
        | cons r2 t2 => exact ⟨_, rfl, .cons r1 (.cons r2 t2)⟩
  · cases he

/-- The function's text is this. -/
structure FnOk (P : Program) (f : FuncId) (c : Code) (N : Nat) (rs : List ResultVar) : Prop where
  fn : ∃ fn, P.funcs[f]? = some fn ∧ fn.body = some c ∧ fn.ntmps = N ∧ fn.results.toList = rs ∧ (fn.name == "runtime.NumGoroutine") = false

theorem Spec.of (hX : TabOk P X) {f : FuncId} {c : Code} {N k : Nat} {rs : List ResultVar} (hf : FnOk P f c N rs) {args : List TV} {hin hout : Hp} {r : AV} {oc : Oc} (hN : args.length ≤ N) (hk : hin.all (fun p => Nat.blt p.1 k) = true)
    (hR : Runs P N k c (argFr 0 args) hin oc) (hend : oc.ends = true) (hres : resQ X oc.st.1 oc.st.2 rs = some r) (hout' : oc.st.2 = hout) : Spec P f args hin r hout := by
  obtain ⟨fn, h1, h2, h3, h4, h5⟩ := hf
  refine ⟨⟨fn, h1, h5, by rw [h2]; rfl⟩, fun I ι w vs hA hvs hL => ?_⟩
  refine calls_of_wp h1 h2 ?_
  have hlen : vs.length = args.length := hvs.len
  let E : Env := { N := N, w0 := w, L := LB w ι hin, I0 := I, k := k, ι0 := ι }
  have hst : St E (argFr 0 args) hin I ι { tmps := vs.toArray ++ Array.replicate (fn.ntmps - vs.toArray.size) undef, defers := [] } w := by
    refine ⟨Bel.refl _ _, Im.le_refl _, fun b o v hb => .inl hb, hA, by simp [h3, E]; omega, rfl, fun _ _ => rfl, fun s => ?_, hL.obj, fun id ob hg B hB => ?_, hL.inj⟩
    · rw [get_argFr]
      simp only [Nat.zero_le, if_true, Nat.sub_zero]
      cases hx : args[s]? with
      | none => trivial
      | some x =>
        obtain ⟨v, hv, hr⟩ := hvs.at s x hx
        have hlt : s < vs.length := (List.getElem?_eq_some_iff.1 hv).1
        have : vals { tmps := vs.toArray ++ Array.replicate (fn.ntmps - vs.toArray.size) undef, defers := [] } s = v := by
          simp only [vals, Array.getD_eq_getD_getElem?]
          rw [Array.getElem?_append_left (by simpa using hlt)]
          simp [hv]
        rw [this]; exact hr
    · exact ⟨.inr ⟨id, ob, hg, hB⟩, hL.own id ob hg B hB⟩
  refine wp_mono (hR E rfl rfl I ι _ w hst) fun e a' w' hq => ?_
  have fin : (∃ I' ι', St E oc.st.1 oc.st.2 I' ι' a' w') → (a'.defers = [] ∧ ∃ v, (results fn a'.tmps).run P w' = .ok v w' ∧ ∃ v_1 I' ι', Ending.returned v = .returned v_1 ∧ Ext (LB w ι hin) I w I' w' ∧ RV I' ι' v_1 r ∧ (∀ id ob, getO hin id = some ob → ι' id = ι id) ∧
      Lent I' ι' w' hout ∧ ∀ id ob B, getO hout id = some ob → owns w' (ι' id) ob B → w.heap.size ≤ B ∨ LB w ι hin B) := fun ⟨I', ι', hs⟩ => by
    obtain ⟨v, hv1, hv2⟩ := resQ_sound hX hs (fn := fn) (by rw [h4]; exact hres)
    subst hout'
    refine ⟨hs.defers, v, hv1, v, I', ι', rfl, ⟨hs.below, hs.le, hs.new, hs.agr⟩, hv2, fun id ob hg => hs.fix id ?_, ⟨hs.rel.obj, fun id ob hg B hB => (hs.rel.own id ob hg B hB).2, hs.rel.inj⟩, fun id ob B hg hB => (hs.rel.own id ob hg B hB).1⟩
    have := List.all_eq_true.1 hk _ (getO_mem hg)
    simpa [Nat.blt_eq] using this
  cases oc with
  | nor fr hp => obtain ⟨rfl, r⟩ := hq; exact fin r
  | ret fr hp => obtain ⟨rfl, r⟩ := hq; exact fin r
  | ex id fr hp => cases hend

end
end Go.Proofs.Ytajmjfdopminbaa.Sym
