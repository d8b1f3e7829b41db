/- Sym: Runs: what a piece of code makes of a frame and of the own objects; its rules. Conditions: the table of types is the program's (TabOk). -/
import Derived.Test.YtajmjfdopminbaaSymmg
import Derived.LoopN
set_option linter.unusedVariables false
set_option linter.unusedSimpArgs false
namespace Go.Proofs.Ytajmjfdopminbaa.Sym
open Go Go.RowKit

inductive Oc : Type where
  | nor (fr : Fr) (hp : Hp)
  | ex (id : Nat) (fr : Fr) (hp : Hp)
  | ret (fr : Fr) (hp : Hp)
def Post (E : Env) : Oc → Exit → Act → World → Prop
  | .nor fr hp, e, a, w => e = .normal ∧ ∃ I ι, St E fr hp I ι a w
  | .ex id fr hp, e, a, w => e = .exit id ∧ ∃ I ι, St E fr hp I ι a w
  | .ret fr hp, e, a, w => e = .ret ∧ ∃ I ι, St E fr hp I ι a w
/-- From this frame and these objects the code ends so. -/
def Runs (P : Program) (N k : Nat) (c : Code) (fr : Fr) (hp : Hp) (oc : Oc) : Prop :=
  ∀ E : Env, E.N = N → E.k = k → ∀ I ι a w, St E fr hp I ι a w → c.wp P (Post E oc) a w

section
variable {P : Program} {N k : Nat} {c x y : Code} {fr fr' : Fr} {hp hp' : Hp} {oc : Oc}

/-! ### Code taken apart -/
def cL : Code → Code
  | .seq x _ => x
  | .cond _ x _ => x
  | .block _ x => x
  | .loop x => x
  | c => c
def cR : Code → Code
  | .seq _ y => y
  | .cond _ _ y => y
  | c => c

theorem Runs.skip (h : c = .skip) : Runs P N k c fr hp (.nor fr hp) := fun E _ _ I ι a w hs => by
  subst h; exact wp_skip ⟨rfl, I, ι, hs⟩
theorem Runs.ret (h : c = .ret) : Runs P N k c fr hp (.ret fr hp) := fun E _ _ I ι a w hs => by
  subst h; exact wp_ret ⟨rfl, I, ι, hs⟩
theorem Runs.exit {id : Nat} (h : c = .exit id) : Runs P N k c fr hp (.ex id fr hp) := fun E _ _ I ι a w hs => by
  subst h; exact wp_exit ⟨rfl, I, ι, hs⟩
theorem Runs.seq (h : c = .seq (cL c) (cR c)) (h1 : Runs P N k (cL c) fr hp (.nor fr' hp')) (h2 : Runs P N k (cR c) fr' hp' oc) : Runs P N k c fr hp oc := fun E e1 e2 I ι a w hs => by
  rw [h]
  refine wp_seq (wp_mono (h1 E e1 e2 I ι a w hs) fun e a w hq => ?_)
  obtain ⟨rfl, I', ι', hs'⟩ := hq
  exact h2 E e1 e2 I' ι' a w hs'
def Oc.stops : Oc → Bool
  | .nor _ _ => false
  | _ => true
theorem Runs.stop (h : c = .seq (cL c) (cR c)) (h1 : Runs P N k (cL c) fr hp oc) (hs : oc.stops = true) : Runs P N k c fr hp oc := fun E e1 e2 I ι a w hst => by
  rw [h]
  refine wp_seq (wp_mono (h1 E e1 e2 I ι a w hst) fun e a w hq => ?_)
  cases oc with
  | nor _ _ => cases hs
  | ex id _ _ => obtain ⟨rfl, r⟩ := hq; exact ⟨rfl, r⟩
  | ret _ _ => obtain ⟨rfl, r⟩ := hq; exact ⟨rfl, r⟩
def condOp : Code → Operand
  | .cond o _ _ => o
  | _ => .const undef
theorem Runs.cond {b : Bool} (h : c = .cond (condOp c) (cL c) (cR c)) (hb : opv fr (condOp c) = .t (.v (.c (.v (.bool b))))) (t : Bool) (ht : b = t) (h1 : Runs P N k (bif t then cL c else cR c) fr hp oc) : Runs P N k c fr hp oc := fun E e1 e2 I ι a w hs => by
  rw [h]
  subst ht
  refine wp_cond (t := b) (eval_v hs hb) ?_
  cases b
  · exact h1 E e1 e2 I ι a w hs
  · exact h1 E e1 e2 I ι a w hs
def blockId : Code → Nat
  | .block id _ => id
  | _ => 0
def Oc.unblock (id : Nat) : Oc → Oc
  | .ex id' fr hp => bif id' == id then .nor fr hp else .ex id' fr hp
  | oc => oc
theorem Runs.block (h : c = .block (blockId c) (cL c)) {oc' : Oc} (h1 : Runs P N k (cL c) fr hp oc') (ho : oc = oc'.unblock (blockId c)) : Runs P N k c fr hp oc := fun E e1 e2 I ι a w hs => by
  rw [h]
  refine wp_block (wp_mono (h1 E e1 e2 I ι a w hs) fun e a w hq => ?_)
  subst ho
  cases oc' with
  | nor _ _ => obtain ⟨rfl, r⟩ := hq; exact ⟨rfl, r⟩
  | ret _ _ => obtain ⟨rfl, r⟩ := hq; exact ⟨rfl, r⟩
  | ex id _ _ =>
    obtain ⟨rfl, r⟩ := hq
    simp only [Exit.inBlock, Oc.unblock]
    by_cases q : id = blockId c
    · subst q; simp only [if_true, BEq.rfl, cond_true]; exact ⟨rfl, r⟩
    · have : (id == blockId c) = false := by simpa using q
      rw [if_neg q, this]; exact ⟨rfl, r⟩

/-- The rounds of a loop. -/
inductive Rounds (P : Program) (N k : Nat) (b : Code) : Fr → Hp → Oc → Prop where
  | last {fr : Fr} {hp : Hp} {oc : Oc} (h : Runs P N k b fr hp oc) (hs : oc.stops = true) : Rounds P N k b fr hp oc
  | more {fr : Fr} {hp : Hp} {fr1 : Fr} {hp1 : Hp} {oc : Oc} (h : Runs P N k b fr hp (.nor fr1 hp1)) (t : Rounds P N k b fr1 hp1 oc) : Rounds P N k b fr hp oc
theorem Rounds.spec {b : Code} (h : Rounds P N k b fr hp oc) : ∃ n, ∀ E : Env, E.N = N → E.k = k → ∀ I ι a w, St E fr hp I ι a w → Code.rounds P b (Post E oc) n a w := by
  induction h with
  | @last fr hp oc h hs =>
    refine ⟨1, fun E e1 e2 I ι a w hst => ?_⟩
    rw [rounds_succ]
    refine wp_mono (h E e1 e2 I ι a w hst) fun e a w hq => ?_
    cases oc with
    | nor _ _ => cases hs
    | ex id _ _ => obtain ⟨rfl, r⟩ := hq; exact ⟨rfl, r⟩
    | ret _ _ => obtain ⟨rfl, r⟩ := hq; exact ⟨rfl, r⟩
  | more h _ ih =>
    obtain ⟨n, hn⟩ := ih
    refine ⟨n + 1, fun E e1 e2 I ι a w hst => ?_⟩
    rw [rounds_succ]
    refine wp_mono (h E e1 e2 I ι a w hst) fun e a w hq => ?_
    obtain ⟨rfl, I', ι', hs'⟩ := hq
    exact hn E e1 e2 I' ι' a w hs'
theorem Runs.loop (h : c = .loop (cL c)) (hr : Rounds P N k (cL c) fr hp oc) : Runs P N k c fr hp oc := fun E e1 e2 I ι a w hs => by
  obtain ⟨n, hn⟩ := hr.spec
  rw [h]
  exact wp_loop_rounds n (hn E e1 e2 I ι a w hs)

/-! ### Less known; other names -/
def idRho (k : Nat) (ρ : Nat → Nat) : Bool := (List.range k).all fun i => ρ i == i
/-- The second frame and objects say less, under other names. -/
structure Weak (k : Nat) (fr : Fr) (hp : Hp) (fr' : Fr) (hp' : Hp) (ρ : List (Nat × Nat)) : Prop where
  f : renF (asg ρ) fr' = pickF fr (fr'.map (·.1))
  h : renH (asg ρ) hp' = pickH hp (asg ρ) (hp'.map (·.1))
  b : (nodupB ((hp'.map (·.1)).map (asg ρ)) && idRho k (asg ρ)) = true
theorem Weak.st {E : Env} {I : Im} {ι : Lo} {a : Act} {w : World} {ρ : List (Nat × Nat)} (h : Weak E.k fr hp fr' hp' ρ) (hs : St E fr hp I ι a w) : ∃ ι', St E fr' hp' I ι' a w := by
  have hb := h.b
  simp only [Bool.and_eq_true, idRho, List.all_eq_true, List.mem_range, beq_iff_eq] at hb
  exact ⟨_, hs.ren (asg ρ) h.f h.h hb.1 hb.2⟩
theorem Runs.pre {ρ : List (Nat × Nat)} (hw : Weak k fr hp fr' hp' ρ) (h : Runs P N k c fr' hp' oc) : Runs P N k c fr hp oc := fun E e1 e2 I ι a w hs => by
  subst e2
  obtain ⟨ι', hs'⟩ := hw.st hs
  exact h E e1 rfl I ι' a w hs'
theorem Rounds.pre {b : Code} {ρ : List (Nat × Nat)} (hw : Weak k fr hp fr' hp' ρ) (h : Rounds P N k b fr' hp' oc) : Rounds P N k b fr hp oc := by
  cases h with
  | last h hs => exact .last (h.pre hw) hs
  | more h t => exact .more (h.pre hw) t
theorem Runs.post {ρ : List (Nat × Nat)} (h : Runs P N k c fr hp (.nor fr' hp')) {fr2 : Fr} {hp2 : Hp} (hw : Weak k fr' hp' fr2 hp2 ρ) : Runs P N k c fr hp (.nor fr2 hp2) := fun E e1 e2 I ι a w hs => by
  subst e2
  refine wp_mono (h E e1 rfl I ι a w hs) fun e a w hq => ?_
  obtain ⟨rfl, I', ι', hs'⟩ := hq
  obtain ⟨ι2, hs2⟩ := hw.st hs'
  exact ⟨rfl, I', ι2, hs2⟩
theorem Runs.postEx {id : Nat} {ρ : List (Nat × Nat)} (h : Runs P N k c fr hp (.ex id fr' hp')) {fr2 : Fr} {hp2 : Hp} (hw : Weak k fr' hp' fr2 hp2 ρ) : Runs P N k c fr hp (.ex id fr2 hp2) := fun E e1 e2 I ι a w hs => by
  subst e2
  refine wp_mono (h E e1 rfl I ι a w hs) fun e a w hq => ?_
  obtain ⟨rfl, I', ι', hs'⟩ := hq
  obtain ⟨ι2, hs2⟩ := hw.st hs'
  exact ⟨rfl, I', ι2, hs2⟩
theorem Runs.postRet {ρ : List (Nat × Nat)} (h : Runs P N k c fr hp (.ret fr' hp')) {fr2 : Fr} {hp2 : Hp} (hw : Weak k fr' hp' fr2 hp2 ρ) : Runs P N k c fr hp (.ret fr2 hp2) := fun E e1 e2 I ι a w hs => by
  subst e2
  refine wp_mono (h E e1 rfl I ι a w hs) fun e a w hq => ?_
  obtain ⟨rfl, I', ι', hs'⟩ := hq
  obtain ⟨ι2, hs2⟩ := hw.st hs'
  exact ⟨rfl, I', ι2, hs2⟩

/-! ### Frozen -/
theorem Runs.frz {id e sz : Nat} {xs : List El} (hg : getO hp id = some (.row e sz xs)) (hf : mapFr (fz id sz xs) fr = fr') (hh : mapHp (fz id sz xs) (delO hp id) = hp') (h : Runs P N k c fr' hp' oc) : Runs P N k c fr hp oc := fun E e1 e2 I ι a w hs => by
  obtain ⟨I', hs'⟩ := hs.frz hg
  rw [hf, hh] at hs'
  exact h E e1 e2 I' ι a w hs'
theorem Runs.frzB {id t : Nat} {l : List CV} (hg : getO hp id = some (.cells t l)) {cs : List C} (hd : allD l = some cs) (hf : mapFr (fb id cs) fr = fr') (hh : mapHp (fb id cs) (delO hp id) = hp') (h : Runs P N k c fr' hp' oc) : Runs P N k c fr hp oc := fun E e1 e2 I ι a w hs => by
  obtain ⟨I', hs'⟩ := hs.frzB hg hd
  rw [hf, hh] at hs'
  exact h E e1 e2 I' ι a w hs'
theorem Runs.postFrz {id e sz : Nat} {xs : List El} (h : Runs P N k c fr hp (.nor fr' hp')) (hg : getO hp' id = some (.row e sz xs)) {fr2 : Fr} {hp2 : Hp} (hf : mapFr (fz id sz xs) fr' = fr2) (hh : mapHp (fz id sz xs) (delO hp' id) = hp2) : Runs P N k c fr hp (.nor fr2 hp2) := fun E e1 e2 I ι a w hs => by
  refine wp_mono (h E e1 e2 I ι a w hs) fun e a w hq => ?_
  obtain ⟨rfl, I', ι', hs'⟩ := hq
  obtain ⟨I2, hs2⟩ := hs'.frz hg
  rw [hf, hh] at hs2
  exact ⟨rfl, I2, ι', hs2⟩
theorem Runs.postFrzB {id t : Nat} {l : List CV} (h : Runs P N k c fr hp (.nor fr' hp')) (hg : getO hp' id = some (.cells t l)) {cs : List C} (hd : allD l = some cs) {fr2 : Fr} {hp2 : Hp} (hf : mapFr (fb id cs) fr' = fr2) (hh : mapHp (fb id cs) (delO hp' id) = hp2) : Runs P N k c fr hp (.nor fr2 hp2) := fun E e1 e2 I ι a w hs => by
  refine wp_mono (h E e1 e2 I ι a w hs) fun e a w hq => ?_
  obtain ⟨rfl, I', ι', hs'⟩ := hq
  obtain ⟨I2, hs2⟩ := hs'.frzB hg hd
  rw [hf, hh] at hs2
  exact ⟨rfl, I2, ι', hs2⟩
end

/-! ### A region in the text's order -/
def guardQ (ops : Array Oper) (fr : Fr) (o : Oper) (orc : Orc) : Option (Bool × Prop × Orc) := match o.guard with
  | none => some (true, True, orc)
  | some (j, want) => match (ops[j]?).bind (·.dst) with
    | some t => match get fr t with
      | .t (.v (.c (.v (.bool e)))) => match orc with
        | .b lit :: orc' => some (lit == want, e = lit, orc')
        | _ => none
      | .tup [] => some (false, True, orc)
      | _ => none
    | none => none
noncomputable def stepE (P : Program) (X : Tab) (k : Nat) (fr : Fr) (hp : Hp) (o : Op) (orc : Orc) : Option (AV × Hp × Prop × Orc) :=
  match evalC P k fr hp o orc with
  | some r => some r
  | none => evalE P X k fr hp o orc
def putD (fr : Fr) (d : Option Nat) (x : AV) : Fr := match d with
  | some d => setS fr d x
  | none => fr
def dstOk (N : Nat) (d : Option Nat) : Bool := match d with
  | some d => Nat.blt d N
  | none => true
/-! ### Operations without a condition -/
def isEl : AV → Bool
  | .t (.v (.el _ _ _ _)) => true
  | _ => false
def isIntA : AV → Bool
  | .t (.v (.c (.v (.int _ _)))) => true
  | _ => false
def trivB : BinOp → Bool → Bool
  | .eql, _ => true
  | .neq, _ => true
  | .lss, _ => true
  | .leq, _ => true
  | .gtr, _ => true
  | .geq, _ => true
  | .sub, _ => true
  | .mul, _ => true
  | .add, b => b
  | _, _ => false
def trivOp (fr : Fr) : Op → Bool
  | .move _ => true
  | .assign _ => true
  | .build _ _ => true
  | .nilCheck _ => true
  | .fieldAddr _ _ _ => true
  | .convert _ _ _ => true
  | .makeFunc _ _ _ => true
  | .extract _ _ => true
  | .alloc _ => true
  | .box _ _ => true
  | .makeMap _ _ => true
  | .unOp _ _ _ => true
  | .load _ a => !isEl (opv fr a)
  | .store _ a _ => !isEl (opv fr a)
  | .binOp op _ x _ _ => trivB op (isIntA (opv fr x))
  | .call c => match c.callee with
    | .builtin .len => true
    | .builtin .min => true
    | .builtin .max => true
    | _ => false
  | _ => false
theorem intOp_triv {op : BinOp} {k : IntKind} {a b : Int} {v : Value} {φ : Prop} (h : intOp op k a b = some (v, φ)) {t : Bool} (ht : trivB op t = true) : φ := by
  unfold intOp at h
  split at h <;> cases h <;> first | trivial | cases ht
theorem strOp_triv {op : BinOp} {a b : ByteArray} {v : Value} {φ : Prop} (h : strOp op a b = some (v, φ)) (ht : trivB op false = true) : φ := by
  unfold strOp at h
  split at h <;> cases h <;> first | trivial | cases ht
theorem shOp_triv {op : BinOp} {k : IntKind} {a b : Int} {v : Value} {φ : Prop} (h : shOp op k a b = some (v, φ)) {t : Bool} (ht : trivB op t = true) : φ := by
  unfold shOp at h
  split at h <;> cases h <;> first | trivial | cases ht
set_option maxHeartbeats 1000000 in
theorem evalQ_triv {P : Program} {X : Tab} {fr : Fr} {hp : Hp} {o : Op} {orc orc' : Orc} {x : AV} {φ : Prop} (he : evalQ P X fr hp o orc = some (x, φ, orc')) (ht : trivOp fr o = true) : φ := by
  have key : ∀ {α β γ : Type} {a a' : α} {ψ : Prop} {b b' : β}, (some (a, True, b) : Option (α × Prop × β)) = some (a', ψ, b') → ψ := fun h => by
    simp only [Option.some.injEq, Prod.mk.injEq] at h; rw [← h.2.1]; trivial
  cases o <;> (try (simp only [trivOp] at ht; cases ht; done)) <;> simp only [evalQ] at he
  case move y => split at he <;> exact key (γ := Unit) he
  case assign y => split at he <;> exact key (γ := Unit) he
  case build t parts =>
    split at he <;> (try (cases he; done))
    split at he <;> (try (cases he; done))
    exact key (γ := Unit) he
  case load t a =>
    simp only [trivOp, Bool.not_eq_true'] at ht
    split at he <;> (try (cases he; done))
    split at he <;> (try (cases he; done))
    rename_i hc
    split at he <;> (try (cases he; done))
    simp only [Option.some.injEq, Prod.mk.injEq] at he
    rw [← he.2.1]
    unfold cellsAt at hc
    split at hc
    · split at hc <;> (try (cases hc; done))
      cases hb : Nat.ble _ _ with
      | false => rw [hb] at hc; cases hc
      | true => rw [hb] at hc; exact key (γ := Unit) hc
    · cases hb : Nat.ble _ _ with
      | false => rw [hb] at hc; cases hc
      | true => rw [hb] at hc; exact key (γ := Unit) hc
    · rename_i heq
      rw [heq] at ht; cases ht
    · cases hc
  case nilCheck y => split at he <;> first | exact key (γ := Unit) he | cases he
  case fieldAddr t y f =>
    split at he <;> (try (cases he; done))
    split at he <;> (try (cases he; done))
    split at he <;> first | exact key (γ := Unit) he | cases he
  case convert s t y => split at he <;> first | exact key (γ := Unit) he | cases he
  case extract y i =>
    split at he <;> (try (cases he; done))
    split at he <;> first | exact key (γ := Unit) he | cases he
  case unOp u t y =>
    cases u <;> simp only [evalQ] at he <;> (try (cases he; done))
    split at he <;> first | exact key (γ := Unit) he | cases he
  case makeFunc f first caps =>
    cases f <;> simp only [evalQ] at he <;> (try (cases he; done))
    split at he <;> (try (cases he; done))
    split at he <;> first | exact key (γ := Unit) he | cases he
  case binOp op t y z yt =>
    simp only [trivOp] at ht
    split at he
    · split at he
      · rename_i hs
        simp only [Option.some.injEq, Prod.mk.injEq] at he
        rw [← he.2.1]; exact shOp_triv hs ht
      · rename_i k1 _ k2 _ _ _ _ _
        cases hk : decide (k1 = k2) with
        | false => rw [hk] at he; cases he
        | true =>
          rw [hk] at he
          simp only [cond_true] at he
          split at he
          · rename_i hs
            simp only [Option.some.injEq, Prod.mk.injEq] at he
            rw [← he.2.1]; exact intOp_triv hs ht
          · cases he
    · split at he <;> first | exact key (γ := Unit) he | cases he
    · rename_i hx _
      split at he
      · rename_i hs
        simp only [Option.some.injEq, Prod.mk.injEq] at he
        rw [← he.2.1]
        rw [hx] at ht
        exact strOp_triv hs ht
      · cases he
    · split at he <;> first | exact key (γ := Unit) he | cases he
    · split at he <;> first | exact key (γ := Unit) he | cases he
    · split at he <;> first | exact key (γ := Unit) he | cases he
    · cases he
  case alloc => cases he
  case box => cases he
  case store => cases he
  case makeMap => cases he
  case call c =>
    simp only [trivOp] at ht
    split at ht
    · rename_i hc
      rw [hc] at he
      simp only at he
      split at he <;> (try (cases he; done))
      split at he <;> first | exact key (γ := Unit) he | cases he
    · rename_i hc
      rw [hc] at he
      simp only at he
      split at he <;> (try (cases he; done))
      split at he <;> first | exact key (γ := Unit) he | cases he
    · rename_i hc
      rw [hc] at he
      simp only at he
      split at he <;> (try (cases he; done))
      split at he <;> first | exact key (γ := Unit) he | cases he
    · cases ht
theorem evalE_triv {P : Program} {X : Tab} {k : Nat} {fr : Fr} {hp hp' : Hp} {o : Op} {orc orc' : Orc} {x : AV} {φ : Prop} (he : evalE P X k fr hp o orc = some (x, hp', φ, orc')) (ht : trivOp fr o = true) : φ := by
  have key : ∀ {α β γ : Type} {a a' : α} {ψ : Prop} {b b' : β} {c c' : γ}, (some (a, c, True, b) : Option (α × γ × Prop × β)) = some (a', c', ψ, b') → ψ := fun h => by
    simp only [Option.some.injEq, Prod.mk.injEq] at h; rw [← h.2.2.1]; trivial
  have quiet : (match evalQ P X fr hp o orc with
    | some (x, φ, orc') => some (x, hp, φ, orc')
    | none => none) = some (x, hp', φ, orc') → φ := fun he => by
    split at he
    · rename_i hq
      simp only [Option.some.injEq, Prod.mk.injEq] at he
      rw [← he.2.2.1]; exact evalQ_triv hq ht
    · cases he
  cases o <;> (try (simp only [trivOp] at ht; cases ht; done)) <;> simp only [evalE] at he
  case alloc t =>
    split at he <;> (try (cases he; done))
    cases hb : fresh k _ fr hp with
    | false => rw [hb] at he; cases he
    | true => rw [hb] at he; exact key he
  case box t y =>
    split at he <;> (try (cases he; done))
    rename_i i cs d _ _ _
    cases hb : fresh k d fr hp && cs.length == i.size && noU cs with
    | false => rw [hb] at he; cases he
    | true => rw [hb] at he; exact key he
  case store t y z =>
    simp only [trivOp, Bool.not_eq_true'] at ht
    split at he
    · split at he <;> (try (cases he; done))
      rename_i i cs id o _ _ _ _ ty l _
      cases hb : cs.length == i.size && noU cs && Nat.ble (o + cs.length) l.length with
      | false => rw [hb] at he; cases he
      | true => rw [hb] at he; exact key he
    · rename_i hx
      rw [hx] at ht; cases ht
    · cases he
  case makeMap t r =>
    cases r with
    | some r => simp only [evalE] at he; exact quiet he
    | none =>
      simp only [evalE] at he
      split at he <;> (try (cases he; done))
      cases hb : fresh k _ fr hp with
      | false => rw [hb] at he; cases he
      | true => rw [hb] at he; exact key he
  case assign y =>
    split at he
    · cases hb : fresh k _ fr hp with
      | false => rw [hb] at he; cases he
      | true => rw [hb] at he; exact key he
    · exact quiet he
  case call c =>
    split at he
    · rename_i hc
      simp only [trivOp, hc] at ht; cases ht
    · rename_i hc
      simp only [trivOp, hc] at ht; cases ht
    · rename_i hc
      simp only [trivOp, hc] at ht; cases ht
    · exact quiet he
  all_goals exact quiet he
/-- The same, in other words. -/
def reEq (dst : Option Nat) (x : AV) (orc : Orc) : AV × Prop × Orc := match dst, orc with
  | some d', .eq d y :: r => bif d == d' then (y, x = y, r) else (x, True, .eq d y :: r)
  | _, orc => (x, True, orc)
theorem reEq_sound {dst : Option Nat} {x : AV} {orc : Orc} (h : (reEq dst x orc).2.1) : x = (reEq dst x orc).1 := by
  unfold reEq at h ⊢
  split
  · rename_i d' d y r
    replace h : (bif d == d' then (y, x = y, r) else (x, True, .eq d y :: r)).2.1 := h
    show x = (bif d == d' then (y, x = y, r) else (x, True, .eq d y :: r)).1
    cases hb : d == d' with
    | true => rw [hb] at h; exact h
    | false => rfl
  · rfl
/-- Own slices that nobody writes any more. -/
def fzO : Orc → Fr → Hp → Fr × Hp × Orc
  | .fz id :: r, fr, hp => match getO hp id with
    | some (.row _ sz xs) => fzO r (mapFr (fz id sz xs) fr) (mapHp (fz id sz xs) (delO hp id))
    | _ => (fr, hp, .fz id :: r)
  | orc, fr, hp => (fr, hp, orc)
theorem fzO_sound {E : Env} {ι : Lo} {a : Act} {w : World} : ∀ (orc : Orc) (fr : Fr) (hp : Hp) (I : Im), St E fr hp I ι a w → ∃ I', St E (fzO orc fr hp).1 (fzO orc fr hp).2.1 I' ι a w
  | [], fr, hp, I, h => ⟨I, h⟩
  | o :: r, fr, hp, I, h => by
    unfold fzO
    split
    · rename_i id r' heq
      cases heq
      split
      · rename_i e sz xs hg
        obtain ⟨I', h'⟩ := h.frz hg
        exact fzO_sound r _ _ I' h'
      · exact ⟨I, h⟩
    · exact ⟨I, h⟩
noncomputable def evalOps (P : Program) (X : Tab) (N k : Nat) (ops : Array Oper) : List Oper → Fr → Hp → Orc → Option (Fr × Hp × Prop)
  | [], fr, hp, _ => some (fr, hp, True)
  | o :: r, fr0, hp0, orc0 => match fzO orc0 fr0 hp0 with
  | (fr, hp, orc) => match guardQ ops fr o orc with
    | some (true, φ, orc1) => match stepE P X k fr hp o.op orc1 with
      | some (x, hp1, χ, orc2) => match reEq o.dst x orc2 with
        | (y, ξ, orc3) => match evalOps P X N k ops r (putD fr o.dst y) hp1 orc3 with
          | some (fr', hp', ψ) => bif dstOk N o.dst then some (fr', hp', φ ∧ χ ∧ ξ ∧ ψ) else none
          | none => none
      | none => none
    | some (false, φ, orc1) => match evalOps P X N k ops r (putD fr o.dst (.tup [])) hp orc1 with
      | some (fr', hp', ψ) => bif dstOk N o.dst then some (fr', hp', φ ∧ ψ) else none
      | none => none
    | none => none

section
variable {P : Program} {X : Tab} {N k : Nat} {c x y : Code} {fr fr' : Fr} {hp hp' : Hp} {oc : Oc} {E : Env} {w : World} {I : Im} {ι : Lo} {a : Act} {o : Oper}

theorem stepE_wp (hX : TabOk P X) (h : St E fr hp I ι a w) {orc orc' : Orc} {x : AV} {hp' : Hp} {φ : Prop} (he : stepE P X E.k fr hp o.op orc = some (x, hp', φ, orc')) (hφ : φ) {next : Act → World → Prop} {Q : Exit → Act → World → Prop}
    (hK : ∀ v I' ι' w', St E fr hp' I' ι' a w' → RV I' ι' v x → (∀ id, id ∉ orcIds orc → ι' id = ι id) → next (a.put o.dst v) w') : o.wp P a w next Q := by
  unfold stepE at he
  split at he
  · rename_i r hr
    cases he
    exact evalC_wp h hr hφ hK
  · exact evalE_wp hX h he hφ hK
theorem St.putD (h : St E fr hp I ι a w) {d : Option Nat} (hd : dstOk E.N d = true) {v : Value} {x : AV} (hx : RV I ι v x) : St E (Sym.putD fr d x) hp I ι (a.put d v) w := by
  cases d with
  | none => exact h
  | some d => exact h.put (by simpa [dstOk, Nat.blt_eq] using hd) hx
theorem yielded_at {ops : Array Oper} {tmps : Array Value} {j t : Nat} (h : (ops[j]?).bind (·.dst) = some t) (ht : t < tmps.size) : yielded ops tmps j = match tmps.getD t undef with | .bool b => some b | _ => none := by
  unfold yielded
  rw [h]
  simp only [Option.bind_some]
  have : tmps[t]? = some (tmps.getD t undef) := by
    rw [Array.getD_eq_getD_getElem?, Array.getElem?_eq_getElem ht]; rfl
  rw [this]
  split <;> simp_all
theorem guardQ_sound (h : St E fr hp I ι a w) {ops : Array Oper} {orc orc1 : Orc} {b : Bool} {φ : Prop} (hg : guardQ ops fr o orc = some (b, φ, orc1)) (hφ : φ) : Region.wanted o (yielded ops a.tmps) = b := by
  unfold guardQ at hg
  unfold Region.wanted
  split at hg
  · rename_i hn
    simp only [Option.some.injEq, Prod.mk.injEq] at hg
    obtain ⟨rfl, _⟩ := hg
    rw [hn]
  · rename_i j want hn
    rw [hn]
    show (yielded ops a.tmps j == some want) = b
    split at hg
    · rename_i t ht
      have hs := h.rel.slot t
      have hlt : ∀ {y : Value}, vals a t = y → y ≠ undef → t < a.tmps.size := fun {y} hy hne => by
        rcases Nat.lt_or_ge t a.tmps.size with q | q
        · exact q
        · exfalso; apply hne
          rw [← hy]
          simp [vals, Array.getD_eq_getD_getElem?, Array.getElem?_eq_none q]
      split at hg
      · rename_i e he
        split at hg
        · rename_i lit orc2
          simp only [Option.some.injEq, Prod.mk.injEq] at hg
          obtain ⟨rfl, rfl, _⟩ := hg
          subst hφ
          rw [he] at hs
          have hv : vals a t = .bool e := RV.v_inv hs
          rw [yielded_at ht (hlt hv (by simp [undef]))]
          have hv' : a.tmps.getD t undef = .bool e := hv
          rw [hv']
          cases e <;> cases want <;> rfl
        · cases hg
      · rename_i he
        simp only [Option.some.injEq, Prod.mk.injEq] at hg
        obtain ⟨rfl, _⟩ := hg
        rw [he] at hs
        obtain ⟨vs, h1, h2⟩ := hs
        cases h2
        have hv' : a.tmps.getD t undef = .tuple #[] := h1
        have : yielded ops a.tmps j = none := by
          unfold yielded
          rw [ht]
          simp only [Option.bind_some]
          cases hq : a.tmps[t]? with
          | none => rfl
          | some u =>
            have : u = .tuple #[] := by
              rw [Array.getD_eq_getD_getElem?, hq] at hv'
              simpa using hv'
            rw [this]
        rw [this]; rfl
      · cases hg
    · cases hg

theorem evalOps_wp (hX : TabOk P X) {ops : Array Oper} {Q : Exit → Act → World → Prop} : ∀ (l : List Oper) (fr : Fr) (hp : Hp) (orc : Orc) (fr' : Fr) (hp' : Hp) (φ : Prop) (I : Im) (ι : Lo) (a : Act) (w : World), St E fr hp I ι a w → evalOps P X E.N E.k ops l fr hp orc = some (fr', hp', φ) → φ →
    (∀ I' ι' a' w', St E fr' hp' I' ι' a' w' → Q .normal a' w') → wpList P ops Q l a w
  | [], fr, hp, orc, fr', hp', φ, I, ι, a, w, hs, he, hφ, hQ => by
    simp only [evalOps, Option.some.injEq, Prod.mk.injEq] at he
    obtain ⟨rfl, rfl, _⟩ := he
    exact hQ _ _ _ _ hs
  | o :: r, fr0, hp0, orc0, fr', hp', φ, I0, ι, a, w, hs0, he, hφ, hQ => by
    simp only [evalOps] at he
    obtain ⟨I, hs⟩ := fzO_sound orc0 fr0 hp0 I0 hs0
    generalize hz : fzO orc0 fr0 hp0 = q at he hs
    obtain ⟨fr, hp, orc⟩ := q
    simp only at he hs
    split at he
    · rename_i φ1 orc1 hg
      split at he
      · rename_i x hp1 χ orc2 hst
        have hre := reEq_sound (dst := o.dst) (x := x) (orc := orc2)
        generalize hq : reEq o.dst x orc2 = q at he hre
        obtain ⟨y, ξ, orc3⟩ := q
        simp only at he hre
        split at he
        · rename_i fr2 hp2 ψ hr
          cases hd : dstOk E.N o.dst with
          | false => rw [hd] at he; cases he
          | true =>
            rw [hd] at he
            simp only [cond_true, Option.some.injEq, Prod.mk.injEq] at he
            obtain ⟨rfl, rfl, rfl⟩ := he
            refine wpList_step fun K hK => ?_
            rw [guardQ_sound hs hg hφ.1, if_pos rfl]
            refine stepE_wp hX hs hst hφ.2.1 fun v I' ι' w' hs' hv _ => hK _ _ ?_
            rw [hre hφ.2.2.1] at hv
            exact evalOps_wp hX r _ _ _ _ _ _ _ _ _ _ (hs'.putD hd hv) hr hφ.2.2.2 hQ
        · cases he
      · cases he
    · rename_i φ1 orc1 hg
      split at he
      · rename_i fr2 hp2 ψ hr
        cases hd : dstOk E.N o.dst with
        | false => rw [hd] at he; cases he
        | true =>
          rw [hd] at he
          simp only [cond_true, Option.some.injEq, Prod.mk.injEq] at he
          obtain ⟨rfl, rfl, rfl⟩ := he
          refine wpList_step fun K hK => ?_
          rw [guardQ_sound hs hg hφ.1]
          simp only [Bool.false_eq_true, if_false]
          exact hK _ _ (evalOps_wp hX r _ _ _ _ _ _ _ _ _ _ (hs.putD hd (show RV _ _ undef (.tup []) from ⟨[], rfl, .nil⟩)) hr hφ.2 hQ)
      · cases he
    · cases he

/-- A region: what is kept of the frame (ks) and of the objects (hs). -/
noncomputable def evalR (P : Program) (X : Tab) (N k : Nat) (c : Code) (fr : Fr) (hp : Hp) (orc : Orc) (ks hs : List Nat) : Option (Fr × Hp × Prop) := match c with
  | .region _ ops false => match evalOps P X N k ops ops.toList fr hp orc with
    | some (fr', hp', φ) => some (pickF fr' ks, hp'.filter (fun p => hasN hs p.1), φ)
    | none => none
  | _ => none
theorem getO_filter {q : Nat → Bool} : ∀ {hp : Hp} {id : Nat} {ob : Ob}, getO (hp.filter fun p => q p.1) id = some ob → getO hp id = some ob
  | [], id, ob, h => h
  | (k, x) :: r, id, ob, h => by
    have hq : q id = true := (List.mem_filter.1 (getO_mem h)).2
    simp only [List.filter_cons] at h
    simp only [getO]
    cases e : k == id with
    | true =>
      have : k = id := by simpa using e
      subst this
      rw [if_pos hq] at h
      simpa [getO] using h
    | false =>
      simp only [cond_false]
      split at h
      · simp only [getO, e, cond_false] at h; exact getO_filter h
      · exact getO_filter h
theorem St.keep (h : St E fr hp I ι a w) (ks hs : List Nat) : St E (pickF fr ks) (hp.filter fun p => hasN hs p.1) I ι a w := by
  have key : ∀ id ob, getO (hp.filter fun p => hasN hs p.1) id = some ob → getO hp id = some ob := fun id ob hg => getO_filter hg
  have hget : ∀ s, get (pickF fr ks) s = .u ∨ get (pickF fr ks) s = get fr s := fun s => by
    induction ks with
    | nil => exact .inl rfl
    | cons q r ih =>
      simp only [pickF, List.map_cons, get]
      cases e : q == s with
      | true => have : q = s := by simpa using e
                subst this; exact .inr rfl
      | false => exact ih
  refine ⟨h.below, h.le, h.new, h.agr, h.size, h.defers, h.fix, fun s => ?_, fun id ob hg => h.rel.obj id ob (key id ob hg), fun id ob hg => h.rel.own id ob (key id ob hg), fun id id' ob ob' h1 h2 => h.rel.inj id id' ob ob' (key _ _ h1) (key _ _ h2)⟩
  rcases hget s with e | e
  · rw [e]; trivial
  · rw [e]; exact h.rel.slot s

theorem Runs.reg (hX : TabOk P X) {orc : Orc} {ks hs : List Nat} {φ : Prop} (he : evalR P X N k c fr hp orc ks hs = some (fr', hp', φ)) (hφ : φ) : Runs P N k c fr hp (.nor fr' hp') := fun E e1 e2 I ι a w hst => by
  subst e1 e2
  unfold evalR at he
  split at he
  · rename_i id ops
    split at he
    · rename_i fr1 hp1 ψ he2
      simp only [Option.some.injEq, Prod.mk.injEq] at he
      obtain ⟨rfl, rfl, rfl⟩ := he
      exact wp_region_list (evalOps_wp hX _ _ _ _ _ _ _ _ _ _ _ hst he2 hφ fun I' ι' a' w' hs' => ⟨rfl, I', ι', hs'.keep ks hs⟩)
    · cases he
  · cases he

end
end Go.Proofs.Ytajmjfdopminbaa.Sym
