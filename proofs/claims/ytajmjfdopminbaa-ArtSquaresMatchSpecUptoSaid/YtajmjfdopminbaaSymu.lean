/- Sym: whole ways through a function's code, told by one script and checked at once (path). Conditions: the table of types is the program's (TabOk); the program follows mixed orders. -/
import Derived.Test.YtajmjfdopminbaaSymt
set_option linter.unusedVariables false
set_option linter.unusedSimpArgs false
namespace Go.Proofs.Ytajmjfdopminbaa.Sym
open Go Go.RowKit

/-! ### Conditions as a list -/
def cj : List Prop → Prop
  | [] => True
  | [p] => p
  | p :: q :: r => p ∧ cj (q :: r)
theorem cj_all : ∀ {l : List Prop}, cj l → ∀ p ∈ l, p
  | [], _, p, hp => by cases hp
  | [q], h, p, hp => by
    have : p = q := by simpa using hp
    rw [this]; exact h
  | q :: q' :: r, h, p, hp => by
    rcases List.mem_cons.1 hp with e | hp
    · rw [e]; exact h.1
    · exact cj_all h.2 p hp

/-! ### Abbreviations of what slots hold -/
abbrev iA (n : Int) : AV := .t (.v (.c (.v (.int .i64 n))))
abbrev bA (b : Bool) : AV := .t (.v (.c (.v (.bool b))))
abbrev sA (s : ByteArray) : AV := .t (.v (.c (.v (.string s))))
abbrev lA (sz : Nat) (l : List El) : AV := .t (.v (.c (.sl sz l)))
abbrev iC (n : Int) : C := .v (.int .i64 n)
abbrev bC (b : Bool) : C := .v (.bool b)
abbrev sC (s : ByteArray) : C := .v (.string s)
abbrev iT (n : Int) : TV := .v (.c (.v (.int .i64 n)))
abbrev bT (b : Bool) : TV := .v (.c (.v (.bool b)))
abbrev sT (s : ByteArray) : TV := .v (.c (.v (.string s)))
abbrev lT (sz : Nat) (l : List El) : TV := .v (.c (.sl sz l))
abbrev gT (l : List C) : TV := .agg (l.map .c)

section
variable {P : Program} {X : Tab} {N k : Nat} {c x y : Code} {fr fr' : Fr} {hp hp' : Hp} {oc : Oc}

/-! ### Regions, with a list of conditions -/
def gTriv (ops : Array Oper) (fr : Fr) (o : Oper) : Bool := match o.guard with
  | none => true
  | some (j, _) => match (ops[j]?).bind (·.dst) with
    | some t => match get fr t with
      | .tup [] => true
      | _ => false
    | none => false
def eTriv (dst : Option Nat) (orc : Orc) : Bool := match dst, orc with
  | some d', .eq d _ :: _ => !(d == d')
  | _, _ => true
def ifnot (b : Bool) (p : Prop) : List Prop := bif b then [] else [p]
theorem ifnot_of {b : Bool} {p : Prop} (h : ∀ q ∈ ifnot b p, q) (hb : b = true → p) : p := by
  cases b with
  | true => exact hb rfl
  | false => exact h p (by simp [ifnot])
theorem guardQ_triv {ops : Array Oper} {o : Oper} {orc orc' : Orc} {b : Bool} {φ : Prop} (h : guardQ ops fr o orc = some (b, φ, orc')) (ht : gTriv ops fr o = true) : φ := by
  unfold guardQ at h
  unfold gTriv at ht
  split at h
  · simp only [Option.some.injEq, Prod.mk.injEq] at h; rw [← h.2.1]; trivial
  · rename_i j want hg
    rw [hg] at ht
    simp only at ht
    split at h
    · rename_i t e
      rw [e] at ht
      simp only at ht
      split at h
      · rename_i e2
        rw [e2] at ht; cases ht
      · simp only [Option.some.injEq, Prod.mk.injEq] at h; rw [← h.2.1]; trivial
      · cases h
    · cases h
theorem reEq_triv {dst : Option Nat} {x : AV} {orc : Orc} (h : eTriv dst orc = true) : (reEq dst x orc).2.1 := by
  cases dst with
  | none => trivial
  | some d' =>
    cases orc with
    | nil => trivial
    | cons g r =>
      cases g with
      | eq d y =>
        have : (d == d') = false := by simpa [eTriv] using h
        simp only [reEq, this, cond_false]
      | _ => trivial
theorem evalC_none {o : Op} {orc : Orc} (ht : trivOp fr o = true) : evalC P k fr hp o orc = none := by
  unfold evalC
  split
  · rename_i c
    split
    · rename_i f hc
      simp only [trivOp, hc] at ht
      cases ht
    · rfl
  · rfl
theorem stepE_triv {o : Op} {orc orc' : Orc} {x : AV} {φ : Prop} (h : stepE P X k fr hp o orc = some (x, hp', φ, orc')) (ht : trivOp fr o = true) : φ := by
  unfold stepE at h
  rw [evalC_none ht] at h
  exact evalE_triv h ht

noncomputable def evalOps2 (P : Program) (X : Tab) (N k : Nat) (ops : Array Oper) : List Oper → Fr → Hp → Orc → Option (Fr × Hp × List Prop)
  | [], fr, hp, _ => some (fr, hp, [])
  | o :: r, fr0, hp0, orc0 => match fzO orc0 fr0 hp0 with
  | (fr, hp, orc) => match guardQ ops fr o orc with
    | some (true, φ, orc1) => match stepE P X k fr hp o.op orc1 with
      | some (x, hp1, χ, orc2) => match reEq o.dst x orc2 with
        | (y, ξ, orc3) => match evalOps2 P X N k ops r (putD fr o.dst y) hp1 orc3 with
          | some (fr', hp', ψ) => bif dstOk N o.dst then some (fr', hp', ifnot (gTriv ops fr o) φ ++ (ifnot (trivOp fr o.op) χ ++ (ifnot (eTriv o.dst orc2) ξ ++ ψ))) else none
          | none => none
      | none => none
    | some (false, φ, orc1) => match evalOps2 P X N k ops r (putD fr o.dst (.tup [])) hp orc1 with
      | some (fr', hp', ψ) => bif dstOk N o.dst then some (fr', hp', ifnot (gTriv ops fr o) φ ++ ψ) else none
      | none => none
    | none => none
theorem evalOps2_of {ops : Array Oper} : ∀ {l : List Oper} {fr : Fr} {hp : Hp} {orc : Orc} {fr' : Fr} {hp' : Hp} {ps : List Prop}, evalOps2 P X N k ops l fr hp orc = some (fr', hp', ps) → (∀ p ∈ ps, p) → ∃ φ, evalOps P X N k ops l fr hp orc = some (fr', hp', φ) ∧ φ
  | [], fr, hp, orc, fr', hp', ps, h, _ => by
    simp only [evalOps2, Option.some.injEq, Prod.mk.injEq] at h
    obtain ⟨rfl, rfl, _⟩ := h
    exact ⟨True, rfl, trivial⟩
  | o :: r, fr0, hp0, orc0, fr', hp', ps, h, hp_ => by
    simp only [evalOps2] at h
    simp only [evalOps]
    generalize fzO orc0 fr0 hp0 = q at h ⊢
    obtain ⟨fr, hp, orc⟩ := q
    simp only at h ⊢
    split at h
    · rename_i φ orc1 hg
      split at h
      · rename_i x hp1 χ orc2 hs
        rw [hg]
        simp only [hs]
        have hre := @reEq_triv o.dst x orc2
        generalize reEq o.dst x orc2 = q at h hre ⊢
        obtain ⟨y, ξ, orc3⟩ := q
        simp only at h hre ⊢
        split at h
        · rename_i fr2 hp2 ψ hr
          cases hd : dstOk N o.dst with
          | false => rw [hd] at h; cases h
          | true =>
            rw [hd] at h
            simp only [cond_true, Option.some.injEq, Prod.mk.injEq] at h
            obtain ⟨rfl, rfl, rfl⟩ := h
            obtain ⟨φ', h1, h2⟩ := evalOps2_of hr fun p hp => hp_ p (by simp [hp])
            rw [h1]
            refine ⟨_, rfl, ifnot_of (fun q hq => hp_ q (List.mem_append_left _ hq)) (guardQ_triv hg), ifnot_of (fun q hq => hp_ q (by simp [hq])) (stepE_triv hs), ifnot_of (fun q hq => hp_ q (by simp [hq])) hre, h2⟩
        · cases h
      · cases h
    · rename_i φ orc1 hg
      split at h
      · rename_i fr2 hp2 ψ hr
        cases hd : dstOk N o.dst with
        | false => rw [hd] at h; cases h
        | true =>
          rw [hd] at h
          simp only [cond_true, Option.some.injEq, Prod.mk.injEq] at h
          obtain ⟨rfl, rfl, rfl⟩ := h
          obtain ⟨φ', h1, h2⟩ := evalOps2_of hr fun p hp => hp_ p (by simp [hp])
          rw [hg]
          simp only [h1]
          exact ⟨_, rfl, ifnot_of (fun q hq => hp_ q (List.mem_append_left _ hq)) (guardQ_triv hg), h2⟩
      · cases h
    · cases h

noncomputable def oneD2 (P : Program) (X : Tab) (k : Nat) (ops : Array Oper) (fr0 : Fr) (hp0 : Hp) (recs : List DR) (o : Oper) (gs : List Nat) (orc : Orc) : Option (DR × List Prop) :=
  let dp := clo recs (befores o)
  let fri := subF recs fr0 dp (looks ops o)
  let hpi := subH recs hp0 dp gs
  match guardQ ops fri o orc with
  | some (false, φ, _) => some (⟨o.dst, .tup [], [], [], false, [], dp⟩, ifnot (gTriv ops fri o) φ)
  | some (true, φ, .kp :: orc1) => match stepE P X k fri hpi o.op orc1 with
    | some (x, out, χ, orc2) => bif (orcIds orc1).isEmpty then some (⟨o.dst, (reEq o.dst x orc2).1, gs, [], false, [], dp⟩, ifnot (gTriv ops fri o) φ ++ ([χ, out = hpi] ++ ifnot (eTriv o.dst orc2) (reEq o.dst x orc2).2.1)) else none
    | none => none
  | some (true, φ, orc1) => match evalQ P X fri hpi o.op orc1 with
    | some (x, χ, orc2) => some (⟨o.dst, (reEq o.dst x orc2).1, gs, [], false, [], dp⟩, ifnot (gTriv ops fri o) φ ++ (ifnot (trivOp fri o.op) χ ++ ifnot (eTriv o.dst orc2) (reEq o.dst x orc2).2.1))
    | none => match stepE P X k fri hpi o.op orc1 with
      | some (x, out, χ, orc2) => some (⟨o.dst, (reEq o.dst x orc2).1, gs, out, true, orcIds orc1, dp⟩, ifnot (gTriv ops fri o) φ ++ (ifnot (trivOp fri o.op) χ ++ ifnot (eTriv o.dst orc2) (reEq o.dst x orc2).2.1))
      | none => none
  | none => none
theorem oneD2_of {ops : Array Oper} {fr0 : Fr} {hp0 : Hp} {recs : List DR} {o : Oper} {gs : List Nat} {orc : Orc} {q : DR} {ps : List Prop} (h : oneD2 P X k ops fr0 hp0 recs o gs orc = some (q, ps)) (hps : ∀ p ∈ ps, p) : ∃ φ, oneD P X k ops fr0 hp0 recs o gs orc = some (q, φ) ∧ φ := by
  unfold oneD2 at h
  unfold oneD
  generalize clo recs (befores o) = dp at h ⊢
  generalize subF recs fr0 dp (looks ops o) = fri at h ⊢
  generalize subH recs hp0 dp gs = hpi at h ⊢
  simp only at h ⊢
  split at h
  · rename_i φ orc1 hg
    simp only [Option.some.injEq, Prod.mk.injEq] at h
    obtain ⟨rfl, rfl⟩ := h
    rw [hg]
    exact ⟨_, rfl, ifnot_of hps (guardQ_triv hg)⟩
  · rename_i φ orc1 hg
    rw [hg]
    simp only
    split at h
    · rename_i x out χ orc2 hs
      cases hb : (orcIds orc1).isEmpty with
      | false => rw [hb] at h; cases h
      | true =>
        rw [hb] at h
        simp only [cond_true, Option.some.injEq, Prod.mk.injEq] at h
        obtain ⟨rfl, rfl⟩ := h
        simp only [hs, hb, cond_true]
        exact ⟨_, rfl, ifnot_of (fun q hq => hps q (List.mem_append_left _ hq)) (guardQ_triv hg), ⟨hps _ (by simp), hps _ (by simp)⟩, ifnot_of (fun q hq => hps q (by simp [hq])) reEq_triv⟩
    · cases h
  · rename_i φ orc1 hnk hg
    rw [hg]
    simp only
    split at h
    · rename_i x χ orc2 he
      simp only [Option.some.injEq, Prod.mk.injEq] at h
      obtain ⟨rfl, rfl⟩ := h
      simp only [he]
      exact ⟨_, rfl, ifnot_of (fun q hq => hps q (List.mem_append_left _ hq)) (guardQ_triv hg), ifnot_of (fun q hq => hps q (by simp [hq])) (evalQ_triv he), ifnot_of (fun q hq => hps q (by simp [hq])) reEq_triv⟩
    · rename_i he
      split at h
      · rename_i x out χ orc2 hs
        simp only [Option.some.injEq, Prod.mk.injEq] at h
        obtain ⟨rfl, rfl⟩ := h
        simp only [he, hs]
        exact ⟨_, rfl, ifnot_of (fun q hq => hps q (List.mem_append_left _ hq)) (guardQ_triv hg), ifnot_of (fun q hq => hps q (by simp [hq])) (stepE_triv hs), ifnot_of (fun q hq => hps q (by simp [hq])) reEq_triv⟩
      · cases h
  · cases h
noncomputable def buildD2 (P : Program) (X : Tab) (k : Nat) (ops : Array Oper) (fr0 : Fr) (hp0 : Hp) : List Oper → List DR → List (List Nat × Orc) → Option (List DR × List Prop)
  | [], recs, _ => some (recs, [])
  | o :: r, recs, (gs, orc) :: hs => match oneD2 P X k ops fr0 hp0 recs o gs orc with
    | some (q, φ) => match buildD2 P X k ops fr0 hp0 r (recs ++ [q]) hs with
      | some (R, ψ) => some (R, φ ++ ψ)
      | none => none
    | none => none
  | _, _, [] => none
theorem buildD2_of {ops : Array Oper} {fr0 : Fr} {hp0 : Hp} : ∀ {l : List Oper} {recs : List DR} {hs : List (List Nat × Orc)} {R : List DR} {ps : List Prop}, buildD2 P X k ops fr0 hp0 l recs hs = some (R, ps) → (∀ p ∈ ps, p) → ∃ φ, buildD P X k ops fr0 hp0 l recs hs = some (R, φ) ∧ φ
  | [], recs, hs, R, ps, h, _ => by
    simp only [buildD2, Option.some.injEq, Prod.mk.injEq] at h
    obtain ⟨rfl, _⟩ := h
    exact ⟨True, by simp [buildD], trivial⟩
  | o :: r, recs, [], R, ps, h, _ => by simp [buildD2] at h
  | o :: r, recs, (gs, orc) :: hs, R, ps, h, hps => by
    simp only [buildD2] at h
    split at h
    · rename_i q φ hq
      split at h
      · rename_i R' ψ hR
        simp only [Option.some.injEq, Prod.mk.injEq] at h
        obtain ⟨rfl, rfl⟩ := h
        obtain ⟨φ', h1, h2⟩ := oneD2_of hq fun p hp => hps p (List.mem_append_left _ hp)
        obtain ⟨ψ', h3, h4⟩ := buildD2_of hR fun p hp => hps p (List.mem_append_right _ hp)
        simp only [buildD, h1, h3]
        exact ⟨_, rfl, h2, h4⟩
      · cases h
    · cases h
noncomputable def evalD2 (P : Program) (X : Tab) (N k : Nat) (ops : Array Oper) (fr : Fr) (hp : Hp) (hints : List (List Nat × Orc)) : Option (Fr × Hp × List Prop) :=
  match buildD2 P X k ops fr hp ops.toList [] hints with
  | some (recs, φ) => bif Region.noSelect ops && allD2 N k ops fr hp recs 0 ops.toList recs then
      some (endF recs fr (fr.map (·.1) ++ recs.filterMap (·.dst)), endH recs hp (ids hp ++ recs.flatMap fun r => ids r.out), φ) else none
  | none => none
theorem Runs.draw2 (hX : TabOk P X) (hm : P.follows .mixedOrders = true) {id : Nat} {ops : Array Oper} {hints : List (List Nat × Orc)} {ps : List Prop} (he : evalD2 P X N k ops fr hp hints = some (fr', hp', ps)) (hps : ∀ p ∈ ps, p) : Runs P N k (.region id ops true) fr hp (.nor fr' hp') := by
  unfold evalD2 at he
  split at he
  · rename_i recs φ hb
    obtain ⟨φ', h1, h2⟩ : ∃ φ', buildD P X k ops fr hp ops.toList [] hints = some (recs, φ') ∧ ((∀ p ∈ φ, p) → φ') := by
      by_cases hq : ∀ p ∈ φ, p
      · obtain ⟨φ', h1, h2⟩ := buildD2_of hb hq
        exact ⟨φ', h1, fun _ => h2⟩
      · cases hc : Region.noSelect ops && allD2 N k ops fr hp recs 0 ops.toList recs with
        | false => rw [hc] at he; cases he
        | true =>
          rw [hc] at he
          simp only [cond_true, Option.some.injEq, Prod.mk.injEq] at he
          rw [he.2.2] at hq
          exact (hq hps).elim
    cases hc : Region.noSelect ops && allD2 N k ops fr hp recs 0 ops.toList recs with
    | false => rw [hc] at he; cases he
    | true =>
      rw [hc] at he
      simp only [cond_true, Option.some.injEq, Prod.mk.injEq] at he
      obtain ⟨rfl, rfl, rfl⟩ := he
      refine Runs.draw hX hm (hints := hints) (ks := fr.map (·.1) ++ recs.filterMap (·.dst)) (hs := ids hp ++ recs.flatMap fun r => ids r.out) (φ := φ') ?_ (h2 hps)
      unfold evalD
      simp only [h1, hc, cond_true]
  · cases he
theorem Runs.reg2 (hX : TabOk P X) {id : Nat} {ops : Array Oper} {orc : Orc} {ps : List Prop} (he : evalOps2 P X N k ops ops.toList fr hp orc = some (fr', hp', ps)) (hps : ∀ p ∈ ps, p) : Runs P N k (.region id ops false) fr hp (.nor fr' hp') := fun E e1 e2 I ι a w hst => by
  subst e1 e2
  obtain ⟨φ, h1, h2⟩ := evalOps2_of he hps
  exact wp_region_list (evalOps_wp hX _ _ _ _ _ _ _ _ _ _ _ hst h1 h2 fun I' ι' a' w' hs' => ⟨rfl, I', ι', hs'⟩)

/-! ### The script -/
/-- r: a region in the text's order; d: one whose order is drawn; b: which way a test goes; s: a piece that is told apart, from less (fr, hp) and other names (ρ: from these to those that are there); w: from here on, less; f, fb: a slice, a variable nobody writes any more; n, na, m: nil for empty (in a slot, in a struct in a slot, in a variable); q: a slot's value in other words; o, os: nil for an own slice of no element (in a variable, in a slot); h: the first part of an own slice for the slice; g: of own slices within. -/
inductive Sg where
  | r (orc : Orc)
  | d (hints : List (List Nat × Orc))
  | b (t : Bool)
  | s (fr : Fr) (hp : Hp) (ρ : List (Nat × Nat)) (oc : Oc)
  | w (fr : Fr) (hp : Hp) (ρ : List (Nat × Nat))
  | f (id : Nat)
  | fb (id : Nat)
  | n (s sz : Nat)
  | na (s q sz : Nat)
  | m (id q sz : Nat)
  | q (s : Nat) (y : AV)
  | o (id q d e sz : Nat)
  | os (s d e sz : Nat)
  | h (s d : Nat) (xs : List El)
  | g (x : Gh)
abbrev Eqn := Fr × List (Nat × Option Ob)
def wkB (k : Nat) (hp' : Hp) (ρ : List (Nat × Nat)) : Bool := nodupB ((hp'.map (·.1)).map (asg ρ)) && idRho k (asg ρ)
def wkL (fr' : Fr) (hp' : Hp) (ρ : List (Nat × Nat)) : Eqn := (renF (asg ρ) fr', renH (asg ρ) hp')
def wkR (fr : Fr) (hp : Hp) (fr' : Fr) (hp' : Hp) (ρ : List (Nat × Nat)) : Eqn := (pickF fr (fr'.map (·.1)), pickH hp (asg ρ) (hp'.map (·.1)))
theorem Weak.of' {ρ : List (Nat × Nat)} (h : wkB k hp' ρ = true) (e : wkL fr' hp' ρ = wkR fr hp fr' hp' ρ) : Weak k fr hp fr' hp' ρ := ⟨congrArg Prod.fst e, congrArg Prod.snd e, h⟩
def isNil : Option CV → Bool
  | some (.c .nil) => true
  | _ => false
abbrev Pre := Fr × Hp × List Prop × List (Eqn × Eqn) × List Sg
noncomputable def pre (k : Nat) : List Sg → Fr → Hp → Pre
  | .f id :: r, fr, hp => match getO hp id with
    | some (.row _ sz xs) => pre k r (mapFr (fz id sz xs) fr) (mapHp (fz id sz xs) (delO hp id))
    | _ => (fr, hp, [], [], .f id :: r)
  | .fb id :: r, fr, hp => match getO hp id with
    | some (.cells _ l) => match allD l with
      | some cs => pre k r (mapFr (fb id cs) fr) (mapHp (fb id cs) (delO hp id))
      | none => (fr, hp, [], [], .fb id :: r)
    | _ => (fr, hp, [], [], .fb id :: r)
  | .n s sz :: r, fr, hp => match get fr s with
    | .t (.v (.c .nil)) => pre k r (setS fr s (.t (.v (.c (.sl sz []))))) hp
    | _ => (fr, hp, [], [], .n s sz :: r)
  | .na s q sz :: r, fr, hp => match get fr s with
    | .t (.agg l) => bif isNil l[q]? then pre k r (setS fr s (.t (.agg (l.set q (.c (.sl sz [])))))) hp else (fr, hp, [], [], .na s q sz :: r)
    | _ => (fr, hp, [], [], .na s q sz :: r)
  | .m id q sz :: r, fr, hp => match getO hp id with
    | some (.cells t l) => bif isNil l[q]? then pre k r fr (setO hp id (.cells t (l.set q (.c (.sl sz []))))) else (fr, hp, [], [], .m id q sz :: r)
    | _ => (fr, hp, [], [], .m id q sz :: r)
  | .q s y :: r, fr, hp => match pre k r (setS fr s y) hp with
    | (a, b, ps, es, sc) => (a, b, (get fr s = y) :: ps, es, sc)
  | .w fr' hp' ρ :: r, fr, hp => bif wkB k hp' ρ then (match pre k r fr' hp' with
      | (a, b, ps, es, sc) => (a, b, ps, (wkL fr' hp' ρ, wkR fr hp fr' hp' ρ) :: es, sc))
    else (fr, hp, [], [], .w fr' hp' ρ :: r)
  | .o id q d e sz :: r, fr, hp => match getO hp id with
    | some (.cells t l) => bif isNil l[q]? && fresh k d fr hp && !(id == d) then pre k r fr (setO (setO hp d (.row e sz [])) id (.cells t (l.set q (.rt d)))) else (fr, hp, [], [], .o id q d e sz :: r)
    | _ => (fr, hp, [], [], .o id q d e sz :: r)
  | .os s d e sz :: r, fr, hp => match get fr s with
    | .t (.v (.c .nil)) => bif fresh k d fr hp then pre k r (setS fr s (.t (.v (.rt d)))) (setO hp d (.row e sz [])) else (fr, hp, [], [], .os s d e sz :: r)
    | _ => (fr, hp, [], [], .os s d e sz :: r)
  | .h s d xs' :: r, fr, hp => match get fr s with
    | .t (.v (.sub sz id 0 n)) => match getO hp id with
      | some (.row e sz' xs) => bif sz == sz' && fresh k d fr hp then (match pre k r (setS fr s (.t (.v (.rt d)))) (setO (delO hp id) d (.row e sz' xs')) with
        | (a, b, ps, es, sc) => (a, b, (xs' = xs.take n) :: ps, es, sc)) else (fr, hp, [], [], .h s d xs' :: r)
      | _ => (fr, hp, [], [], .h s d xs' :: r)
    | _ => (fr, hp, [], [], .h s d xs' :: r)
  | .g x :: r, fr, hp => match ghost k fr hp x with
    | some (hp', φ) => (match pre k r fr hp' with
      | (a, b, ps, es, sc) => (a, b, φ ++ ps, es, sc))
    | none => (fr, hp, [], [], .g x :: r)
  | sc, fr, hp => (fr, hp, [], [], sc)
theorem St.slotTo {E : Env} {I : Im} {ι : Lo} {a : Act} {w : World} (h : St E fr hp I ι a w) (s : Nat) {y : AV} (hy : RV I ι (vals a s) (get fr s) → RV I ι (vals a s) y) : St E (setS fr s y) hp I ι a w :=
  ⟨h.below, h.le, h.new, h.agr, h.size, h.defers, h.fix, fun t => by
    rw [get_setS]
    split
    · rename_i e
      subst e
      exact hy (h.rel.slot t)
    · exact h.rel.slot t, h.rel.obj, h.rel.own, h.rel.inj⟩
theorem St.newNil {E : Env} {I : Im} {ι : Lo} {a : Act} {w : World} (h : St E fr hp I ι a w) {d : Nat} (hd : fresh E.k d fr hp = true) (e sz : Nat) : St E fr (setO hp d (.row e sz [])) I (upd ι d (.slice none 0 0)) a w := by
  obtain ⟨h1, h2⟩ := fresh_spec hd
  refine h.step (L := fun _ => False) (Ext.refl _ h.agr) (fun B q => q.elim) (fun id hid => upd_ne ι _ (show id ≠ d by omega)) ?_
  exact h.rel.new h1 (Nat.le_refl _) (fun id ob hg B hB => ⟨rfl, by simp [blockOf]⟩) ⟨[], World.ownsRow_nil _ _ _ _, fun x hx => (by cases hx), .nil, Nat.zero_le _⟩ (fun B hB => by cases hB) rfl
theorem freshB_delO {d id : Nat} (h : freshB d fr hp = true) : freshB d fr (delO hp id) = true := by
  simp only [freshB, Bool.and_eq_true, List.all_eq_true] at h ⊢
  refine ⟨h.1, fun p hp' => h.2 p ?_⟩
  clear h
  induction hp with
  | nil => simp [delO] at hp'
  | cons p0 r ih =>
    obtain ⟨k0, x0⟩ := p0
    simp only [delO] at hp'
    cases hk : k0 == id with
    | true => rw [hk] at hp'; simp at hp'; exact List.mem_cons_of_mem _ (ih hp')
    | false =>
      rw [hk] at hp'; simp at hp'
      rcases hp' with rfl | hp'
      · simp
      · exact List.mem_cons_of_mem _ (ih hp')
/-- The first part of an own slice is all that is held of it. -/
theorem St.shrink {E : Env} {I : Im} {ι : Lo} {a : Act} {w : World} (h : St E fr hp I ι a w) {s d id e sz n : Nat} {xs : List El} (hs : get fr s = .t (.v (.sub sz id 0 n))) (hg : getO hp id = some (.row e sz xs)) (hd : fresh E.k d fr hp = true) :
    ∃ ι', St E (setS fr s (.t (.v (.rt d)))) (setO (delO hp id) d (.row e sz (xs.take n))) I ι' a w := by
  obtain ⟨h1, h2⟩ := fresh_spec hd
  have hsv := h.rel.slot s
  rw [hs] at hsv
  obtain ⟨A, len, cap, q1, q2, q3⟩ := hsv
  simp only [Nat.zero_add] at q2 q3
  obtain ⟨vals', r1, r2, r3, r4⟩ := h.rel.obj _ _ hg
  have hv : vals a s = .slice A n cap := by
    rw [q3]
    simp only [sliced, Nat.sub_zero, Nat.zero_mul]
    split
    · rfl
    · cases A <;> rfl
  have hbl : blockOf (vals a s) = blockOf (ι id) := by rw [hv, q1]; cases A <;> rfl
  have hown : ∀ B, blockOf (vals a s) = some B → (E.w0.heap.size ≤ B ∨ E.L B) ∧ B < w.heap.size ∧ ∀ o, I B o = none := fun B hB => h.rel.own id _ hg B (.inl (hbl ▸ hB))
  have hrow : RO I (upd ι d (vals a s)) w (vals a s) (.row e sz (xs.take n)) := by
    rcases r1.2 with ⟨r, hn⟩ | ⟨g, cap', cur, r, hb0, hgg, hnc, hcm, hcs, htake⟩
    · rw [q1] at r; simp at r
      obtain ⟨rfl, rfl, rfl⟩ := r
      have hn0 : n = 0 := by omega
      subst hn0
      rw [hv]
      exact ⟨[], by simpa using World.ownsRow_nil w 0 e sz, fun x hx => (by simp at hx), by simpa using All2.nil, by simp⟩
    · rw [q1] at r; simp at r
      obtain ⟨rfl, rfl, rfl⟩ := r
      have hl : (xs.take n).length = n := by rw [List.length_take]; omega
      have hn : n * sz ≤ xs.length * sz := Nat.mul_le_mul_right _ q2
      have hfl : (xs.take n).flatten = xs.flatten.take (n * sz) := by
        have hl1 : (xs.take n).flatten.length = n * sz := by rw [flat_len (sz := sz) _ (fun x hx => r2 x (List.mem_of_mem_take hx)), hl]
        conv => rhs; rw [← List.take_append_drop n xs, List.flatten_append]
        rw [← hl1, List.take_left]
      refine ⟨vals'.take (n * sz), ⟨?_, .inr ⟨g, cap, cur, by rw [hv, hl], hb0, hgg, by omega, hcm, hcs, ?_⟩⟩, fun x hx => r2 x (List.mem_of_mem_take hx), ?_, by omega⟩
      · rw [List.length_take, r1.1, hl]; omega
      · rw [hl, ← htake, List.take_take]; congr 1; omega
      · rw [hfl]; exact r3.take _
  have hd' := h.del id
  have hst : St E fr (setO (delO hp id) d (.row e sz (xs.take n))) I (upd ι d (vals a s)) a w := by
    refine hd'.step (L := fun _ => False) (Ext.refl _ h.agr) (fun B q => q.elim) (fun i hi => upd_ne ι _ (show i ≠ d by omega)) ?_
    refine hd'.rel.new (freshB_delO h1) (Nat.le_refl _) (fun i ob hgi B hB => ⟨rfl, fun hB' => ?_⟩) hrow hown rfl
    rw [getO_delO] at hgi
    split at hgi
    · cases hgi
    · rename_i hne
      exact hne (h.rel.inj i id ob _ hgi hg B hB (.inl (hbl ▸ hB')))
  refine ⟨_, hst.slotTo s fun _ => ⟨(upd_same ι d _).symm, ?_⟩⟩
  rw [hv]; rfl
theorem RC.nil_sl {I : Im} {v : Value} (h : RC I v .nil) (sz : Nat) : RC I v (.sl sz []) := by
  cases h; exact RC.emp none 0 sz (fun _ => rfl)
theorem isNil_set {I : Im} {ι : Lo} {vs : List Value} {l : List CV} {q sz : Nat} (h : All2 (RK I ι) vs l) (hn : isNil l[q]? = true) : All2 (RK I ι) vs (l.set q (.c (.sl sz []))) := by
  refine All2.of (by simpa using h.len) fun i v x hv hx => ?_
  by_cases e : q = i
  · subst e
    have hlt : q < l.length := by
      have := (List.getElem?_eq_some_iff.1 hv).1
      rw [h.len] at this; exact this
    have hx' : x = .c (.sl sz []) := by
      rw [List.getElem?_set_self hlt] at hx; exact (Option.some.inj hx).symm
    subst hx'
    obtain ⟨y, hy, hr⟩ := h.at' q v hv
    rw [hy] at hn
    have : y = .c .nil := by
      unfold isNil at hn
      split at hn
      · rename_i e; exact Option.some.inj e
      · cases hn
    subst this
    exact ⟨RC.nil_sl hr.1 sz, hr.2⟩
  · rw [List.getElem?_set_ne e] at hx
    obtain ⟨y, hy, hr⟩ := h.at' i v hv
    rw [hx] at hy; cases hy
    exact hr
theorem pre_st {E : Env} {a : Act} {w : World} : ∀ {sc : List Sg} {fr : Fr} {hp : Hp} {fr' : Fr} {hp' : Hp} {ps : List Prop} {es : List (Eqn × Eqn)} {sc' : List Sg} {I : Im} {ι : Lo}, pre E.k sc fr hp = (fr', hp', ps, es, sc') → (∀ p ∈ ps, p) → (∀ e ∈ es, e.1 = e.2) → St E fr hp I ι a w → ∃ I' ι', St E fr' hp' I' ι' a w := by
  intro sc
  induction sc with
  | nil =>
    intro fr hp fr' hp' ps es sc' I ι h hq he hs
    simp only [pre, Prod.mk.injEq] at h
    obtain ⟨rfl, rfl, _⟩ := h
    exact ⟨I, ι, hs⟩
  | cons g r ih =>
    intro fr hp fr' hp' ps es sc' I ι h hq he hs
    have same : ∀ {ps' : List Prop} {es' : List (Eqn × Eqn)} {sc'' : List Sg}, (fr, hp, ps', es', sc'') = (fr', hp', ps, es, sc') → ∃ I' ι', St E fr' hp' I' ι' a w := fun h => by
      simp only [Prod.mk.injEq] at h
      obtain ⟨rfl, rfl, _⟩ := h
      exact ⟨I, ι, hs⟩
    cases g with
    | f id =>
      simp only [pre] at h
      split at h
      · rename_i e sz xs hg
        obtain ⟨I2, hs2⟩ := hs.frz hg
        exact ih h hq he hs2
      · exact same h
    | fb id =>
      simp only [pre] at h
      split at h
      · rename_i t l hg
        split at h
        · rename_i cs hd
          obtain ⟨I2, hs2⟩ := hs.frzB hg hd
          exact ih h hq he hs2
        · exact same h
      · exact same h
    | n s sz =>
      simp only [pre] at h
      split at h
      · rename_i hg
        exact ih h hq he (hs.slotTo s fun hx => by rw [hg] at hx; exact RC.nil_sl hx sz)
      · exact same h
    | na s q sz =>
      simp only [pre] at h
      split at h
      · rename_i l hg
        cases hn : isNil l[q]? with
        | false => rw [hn] at h; exact same h
        | true =>
          rw [hn] at h
          refine ih h hq he (hs.slotTo s fun hx => ?_)
          rw [hg] at hx
          obtain ⟨vs, h1, h2⟩ := hx
          exact ⟨vs, h1, isNil_set h2 hn⟩
      · exact same h
    | m id q sz =>
      simp only [pre] at h
      split at h
      · rename_i t l hg
        cases hn : isNil l[q]? with
        | false => rw [hn] at h; exact same h
        | true =>
          rw [hn] at h
          refine ih h hq he (hs.objTo hg (fun hx => ?_) fun B q => .inl (owns_flat rfl q))
          obtain ⟨B, vs, h1, h2, h3⟩ := hx
          exact ⟨B, vs, h1, h2, isNil_set h3 hn⟩
      · exact same h
    | q s y =>
      simp only [pre] at h
      generalize hz : pre E.k r (setS fr s y) hp = z at h
      obtain ⟨a1, b1, ps1, es1, sc1⟩ := z
      simp only [Prod.mk.injEq] at h
      obtain ⟨rfl, rfl, rfl, rfl, rfl⟩ := h
      have e : get fr s = y := hq (get fr s = y) List.mem_cons_self
      exact ih hz (fun p hp => hq p (List.mem_cons_of_mem _ hp)) he (hs.slotTo s fun hx => by rw [e] at hx; exact hx)
    | w fr1 hp1 ρ =>
      simp only [pre] at h
      cases hb : wkB E.k hp1 ρ with
      | false => rw [hb] at h; exact same h
      | true =>
        rw [hb] at h
        simp only [cond_true] at h
        generalize hz : pre E.k r fr1 hp1 = z at h
        obtain ⟨a1, b1, ps1, es1, sc1⟩ := z
        simp only [Prod.mk.injEq] at h
        obtain ⟨rfl, rfl, rfl, rfl, rfl⟩ := h
        obtain ⟨ι2, hs2⟩ := (Weak.of' hb (he (wkL fr1 hp1 ρ, wkR fr hp fr1 hp1 ρ) List.mem_cons_self)).st hs
        exact ih hz hq (fun e h => he e (by simp [h])) hs2
    | o id q d e sz =>
      simp only [pre] at h
      split at h
      · rename_i t l hg
        cases hn : isNil l[q]? && fresh E.k d fr hp && !(id == d) with
        | false => rw [hn] at h; exact same h
        | true =>
          rw [hn] at h
          simp only [Bool.and_eq_true, Bool.not_eq_true', beq_eq_false_iff_ne] at hn
          obtain ⟨⟨hn, hd⟩, hne⟩ := hn
          have hs1 := hs.newNil hd e sz
          have hg1 : getO (setO hp d (.row e sz [])) id = some (.cells t l) := by rw [getO_setO, if_neg hne]; exact hg
          refine ih h hq he (hs1.objTo hg1 (fun hx => ?_) fun B q => .inl (owns_flat rfl q))
          obtain ⟨B, vs, h1, h2, h3⟩ := hx
          refine ⟨B, vs, h1, h2, All2.of (by simpa using h3.len) fun i v x hv hx => ?_⟩
          by_cases e' : q = i
          · subst e'
            have hlt : q < l.length := by
              have := (List.getElem?_eq_some_iff.1 hv).1
              rw [h3.len] at this; exact this
            have hx' : x = .rt d := by
              rw [List.getElem?_set_self hlt] at hx; exact (Option.some.inj hx).symm
            subst hx'
            obtain ⟨y, hy, hr⟩ := h3.at' q v hv
            rw [hy] at hn
            have : y = .c .nil := by
              unfold isNil at hn
              split at hn
              · rename_i e; exact Option.some.inj e
              · cases hn
            subst this
            refine ⟨⟨?_, hr.2⟩, hr.2⟩
            rw [upd_same]
            have h2 : RC I v .nil := hr.1
            cases h2; rfl
          · rw [List.getElem?_set_ne e'] at hx
            obtain ⟨y, hy, hr⟩ := h3.at' i v hv
            rw [hx] at hy; cases hy
            exact hr
      · exact same h
    | os s d e sz =>
      simp only [pre] at h
      split at h
      · rename_i hg
        cases hd : fresh E.k d fr hp with
        | false => rw [hd] at h; exact same h
        | true =>
          rw [hd] at h
          refine ih h hq he ((hs.newNil hd e sz).slotTo s fun hx => ?_)
          rw [hg] at hx
          have h2 : RC I (vals a s) .nil := hx
          refine ⟨?_, h2.one⟩
          rw [upd_same]
          generalize vals a s = v at h2
          cases h2; rfl
      · exact same h
    | h s d xs' =>
      simp only [pre] at h
      split at h
      · rename_i sz id n hg
        split at h
        · rename_i e sz' xs hgo
          cases hd : sz == sz' && fresh E.k d fr hp with
          | false => rw [hd] at h; exact same h
          | true =>
            rw [hd] at h
            simp only [cond_true] at h
            simp only [Bool.and_eq_true, beq_iff_eq] at hd
            obtain ⟨rfl, hd⟩ := hd
            generalize hz : pre E.k r (setS fr s (.t (.v (.rt d)))) (setO (delO hp id) d (.row e sz xs')) = z at h
            obtain ⟨a1, b1, ps1, es1, sc1⟩ := z
            simp only [Prod.mk.injEq] at h
            obtain ⟨rfl, rfl, rfl, rfl, rfl⟩ := h
            have e1 : xs' = xs.take n := hq (xs' = xs.take n) List.mem_cons_self
            subst e1
            obtain ⟨ι2, hs2⟩ := hs.shrink hg hgo hd
            exact ih hz (fun p hp => hq p (List.mem_cons_of_mem _ hp)) he hs2
        · exact same h
      · exact same h
    | g x =>
      simp only [pre] at h
      split at h
      · rename_i hp1 φ hg
        generalize hz : pre E.k r fr hp1 = z at h
        obtain ⟨a1, b1, ps1, es1, sc1⟩ := z
        simp only [Prod.mk.injEq] at h
        obtain ⟨rfl, rfl, rfl, rfl, rfl⟩ := h
        obtain ⟨I2, ι2, hs2⟩ := ghost_st hs hg fun p hp => hq p (List.mem_append_left _ hp)
        exact ih hz (fun p hp => hq p (List.mem_append_right _ hp)) he hs2
      · exact same h
    | r _ => exact same h
    | d _ => exact same h
    | b _ => exact same h
    | s _ _ _ _ => exact same h
abbrev Res := Oc × List Prop × List (Eqn × Eqn) × List Sg
def addE (qs : List Prop) (es : List (Eqn × Eqn)) : Option Res → Option Res
  | some (oc, ps, es', sc) => some (oc, qs ++ ps, es ++ es', sc)
  | none => none
noncomputable def stp (P : Program) (N k : Nat) (c : Code) (sc : List Sg) (fr : Fr) (hp : Hp) (f : List Sg → Fr → Hp → Option Res) : Option Res := match pre k sc fr hp with
  | (fr, hp, qs, es, .s fr' hp' ρ oc :: r) => bif wkB k hp' ρ then some (oc, qs ++ [Runs P N k c fr' hp' oc], es ++ [(wkL fr' hp' ρ, wkR fr hp fr' hp' ρ)], r) else none
  | (fr, hp, qs, es, sc) => addE qs es (f sc fr hp)
def boolOf : AV → Option Bool
  | .t (.v (.c (.v (.bool e)))) => some e
  | _ => none
noncomputable def path (P : Program) (X : Tab) (N k : Nat) : Code → List Sg → Fr → Hp → Option Res
  | .skip, sc, fr, hp => some (.nor fr hp, [], [], sc)
  | .ret, sc, fr, hp => stp P N k .ret sc fr hp fun sc fr hp => some (.ret fr hp, [], [], sc)
  | .exit id, sc, fr, hp => some (.ex id fr hp, [], [], sc)
  | .seq a b, sc, fr, hp => match path P X N k a sc fr hp with
    | some (.nor fr1 hp1, ps, es, sc1) => match path P X N k b sc1 fr1 hp1 with
      | some (oc, qs, es', sc2) => some (oc, ps ++ qs, es ++ es', sc2)
      | none => none
    | some (oc, ps, es, sc1) => some (oc, ps, es, sc1)
    | none => none
  | .cond o a b, sc, fr, hp => stp P N k (.cond o a b) sc fr hp fun sc fr hp => match boolOf (opv fr o), sc with
    | some e, .b true :: r => match path P X N k a r fr hp with
      | some (oc, ps, es, sc1) => some (oc, (e = true) :: ps, es, sc1)
      | none => none
    | some e, .b false :: r => match path P X N k b r fr hp with
      | some (oc, ps, es, sc1) => some (oc, (e = false) :: ps, es, sc1)
      | none => none
    | _, _ => none
  | .block id a, sc, fr, hp => match path P X N k a sc fr hp with
    | some (oc, ps, es, sc1) => some (oc.unblock id, ps, es, sc1)
    | none => none
  | .region id ops false, sc, fr, hp => stp P N k (.region id ops false) sc fr hp fun sc fr hp => match sc with
    | .r orc :: r => match evalOps2 P X N k ops ops.toList fr hp orc with
      | some (fr1, hp1, ps) => some (.nor fr1 hp1, ps, [], r)
      | none => none
    | _ => none
  | .region id ops true, sc, fr, hp => stp P N k (.region id ops true) sc fr hp fun sc fr hp => match sc with
    | .d hints :: r => match evalD2 P X N k ops fr hp hints with
      | some (fr1, hp1, ps) => some (.nor fr1 hp1, ps, [], r)
      | none => none
    | _ => none
  | c, sc, fr, hp => stp P N k c sc fr hp fun _ _ _ => none

theorem stp_ok {c : Code} {sc : List Sg} {f : List Sg → Fr → Hp → Option Res} {ps : List Prop} {es : List (Eqn × Eqn)} {sc' : List Sg} (h : stp P N k c sc fr hp f = some (oc, ps, es, sc')) (hps : ∀ p ∈ ps, p) (hes : ∀ e ∈ es, e.1 = e.2)
    (hf : ∀ {sc1 fr1 hp1 ps1 es1 sc2}, f sc1 fr1 hp1 = some (oc, ps1, es1, sc2) → (∀ p ∈ ps1, p) → (∀ e ∈ es1, e.1 = e.2) → Runs P N k c fr1 hp1 oc) : Runs P N k c fr hp oc := fun E e1 e2 I ι a w hs => by
  unfold stp at h
  generalize hq : pre k sc fr hp = q at h
  obtain ⟨fr1, hp1, qs1, es1, sc1⟩ := q
  have hpre : (∀ p ∈ qs1, p) → (∀ e ∈ es1, e.1 = e.2) → ∃ I' ι', St E fr1 hp1 I' ι' a w := fun hp he => by
    subst e2
    exact pre_st hq hp he hs
  have other : addE qs1 es1 (f sc1 fr1 hp1) = some (oc, ps, es, sc') → c.wp P (Post E oc) a w := fun h => by
    generalize hr : f sc1 fr1 hp1 = q at h
    cases q with
    | none => cases h
    | some q =>
      obtain ⟨oc2, ps2, es2, sc2⟩ := q
      simp only [addE, Option.some.injEq, Prod.mk.injEq] at h
      obtain ⟨rfl, rfl, rfl, rfl⟩ := h
      obtain ⟨I', ι', hs'⟩ := hpre (fun p h => hps p (by simp [h])) fun e h => hes e (by simp [h])
      exact hf hr (fun p h => hps p (by simp [h])) (fun e h => hes e (by simp [h])) E e1 e2 I' ι' a w hs'
  cases sc1 with
  | nil => exact other h
  | cons g r =>
    cases g with
    | s fr2 hp2 ρ oc2 =>
      simp only at h
      cases hb : wkB k hp2 ρ with
      | false => rw [hb] at h; cases h
      | true =>
        rw [hb] at h
        simp only [cond_true, Option.some.injEq, Prod.mk.injEq] at h
        obtain ⟨rfl, rfl, rfl, rfl⟩ := h
        obtain ⟨I', ι', hs'⟩ := hpre (fun p h => hps p (by simp [h])) fun e h => hes e (by simp [h])
        exact Runs.pre (Weak.of' hb (hes (wkL fr2 hp2 ρ, wkR fr1 hp1 fr2 hp2 ρ) (List.mem_append_right _ (List.mem_singleton.2 rfl)))) (hps _ (List.mem_append_right _ (List.mem_singleton.2 rfl))) E e1 e2 I' ι' a w hs'
    | r _ => exact other h
    | d _ => exact other h
    | b _ => exact other h
    | w _ _ _ => exact other h
    | f _ => exact other h
    | fb _ => exact other h
    | n _ _ => exact other h
    | na _ _ _ => exact other h
    | m _ _ _ => exact other h
    | q _ _ => exact other h
    | o _ _ _ _ _ => exact other h
    | os _ _ _ _ => exact other h
    | h _ _ _ => exact other h
    | g _ => exact other h
theorem boolOf_eq {x : AV} {e : Bool} (h : boolOf x = some e) : x = .t (.v (.c (.v (.bool e)))) := by
  unfold boolOf at h
  split at h
  · cases h; rfl
  · cases h
theorem path_ok (hX : TabOk P X) (hm : P.follows .mixedOrders = true) : ∀ (c : Code) {sc : List Sg} {fr : Fr} {hp : Hp} {oc : Oc} {ps : List Prop} {es : List (Eqn × Eqn)} {sc' : List Sg}, path P X N k c sc fr hp = some (oc, ps, es, sc') → (∀ p ∈ ps, p) → (∀ e ∈ es, e.1 = e.2) → Runs P N k c fr hp oc
  | .skip, sc, fr, hp, oc, ps, es, sc', h1, hps, hes => by
    simp only [path, Option.some.injEq, Prod.mk.injEq] at h1
    rw [← h1.1]; exact Runs.skip rfl
  | .ret, sc, fr, hp, oc, ps, es, sc', h, hps, hes => by
    simp only [path] at h
    refine stp_ok h hps hes fun {sc1 fr1 hp1 ps1 es1 sc2} h1 hps he => ?_
    simp only [Option.some.injEq, Prod.mk.injEq] at h1
    rw [← h1.1]; exact Runs.ret rfl
  | .exit id, sc, fr, hp, oc, ps, es, sc', h1, hps, hes => by
    simp only [path, Option.some.injEq, Prod.mk.injEq] at h1
    rw [← h1.1]; exact Runs.exit rfl
  | .loop b, sc, fr, hp, oc, ps, es, sc', h, hps, hes => by
    simp only [path] at h
    exact stp_ok h hps hes fun {sc1 fr1 hp1 ps1 es1 sc2} h1 _ he => by cases h1
  | .rangeFunc _ _ _ _, sc, fr, hp, oc, ps, es, sc', h, hps, hes => by
    simp only [path] at h
    exact stp_ok h hps hes fun {sc1 fr1 hp1 ps1 es1 sc2} h1 _ he => by cases h1
  | .scope _, sc, fr, hp, oc, ps, es, sc', h, hps, hes => by
    simp only [path] at h
    exact stp_ok h hps hes fun {sc1 fr1 hp1 ps1 es1 sc2} h1 _ he => by cases h1
  | .label _, sc, fr, hp, oc, ps, es, sc', h, hps, hes => by
    simp only [path] at h
    exact stp_ok h hps hes fun {sc1 fr1 hp1 ps1 es1 sc2} h1 _ he => by cases h1
  | .refuse _, sc, fr, hp, oc, ps, es, sc', h, hps, hes => by
    simp only [path] at h
    exact stp_ok h hps hes fun {sc1 fr1 hp1 ps1 es1 sc2} h1 _ he => by cases h1
  | .goto _, sc, fr, hp, oc, ps, es, sc', h, hps, hes => by
    simp only [path] at h
    exact stp_ok h hps hes fun {sc1 fr1 hp1 ps1 es1 sc2} h1 _ he => by cases h1
  | .seq a b, sc, fr, hp, oc, ps, es, sc', h1, hps, he => by
    simp only [path] at h1
    split at h1
    · rename_i fr2 hp2 ps2 es2 sc3 ha
      split at h1
      · rename_i oc3 qs es3 sc4 hb
        simp only [Option.some.injEq, Prod.mk.injEq] at h1
        obtain ⟨rfl, rfl, rfl, rfl⟩ := h1
        exact Runs.seq rfl (path_ok hX hm a ha (fun p hp => hps p (by simp [hp])) fun e h => he e (by simp [h])) (path_ok hX hm b hb (fun p hp => hps p (by simp [hp])) fun e h => he e (by simp [h]))
      · cases h1
    · rename_i oc2 ps2 es2 sc3 hno ha
      simp only [Option.some.injEq, Prod.mk.injEq] at h1
      obtain ⟨rfl, rfl, rfl, rfl⟩ := h1
      refine Runs.stop rfl (path_ok hX hm a ha hps he) ?_
      cases oc2 with
      | nor f g => exact (hno f g rfl).elim
      | ex _ _ _ => rfl
      | ret _ _ => rfl
    · cases h1
  | .cond o a b, sc, fr, hp, oc, ps, es, sc', h, hps, hes => by
    simp only [path] at h
    refine stp_ok h hps hes fun {sc1 fr1 hp1 ps1 es1 sc2} h1 hps he => ?_
    split at h1
    · rename_i e r hb
      split at h1
      · rename_i oc2 ps2 es2 sc3 ha
        simp only [Option.some.injEq, Prod.mk.injEq] at h1
        obtain ⟨rfl, rfl, rfl, rfl⟩ := h1
        exact Runs.cond rfl (boolOf_eq hb) true (hps _ (by simp)) (path_ok hX hm a ha (fun p hp => hps p (by simp [hp])) he)
      · cases h1
    · rename_i e r hb
      split at h1
      · rename_i oc2 ps2 es2 sc3 ha
        simp only [Option.some.injEq, Prod.mk.injEq] at h1
        obtain ⟨rfl, rfl, rfl, rfl⟩ := h1
        exact Runs.cond rfl (boolOf_eq hb) false (hps _ (by simp)) (path_ok hX hm b ha (fun p hp => hps p (by simp [hp])) he)
      · cases h1
    · cases h1
  | .block id a, sc, fr, hp, oc, ps, es, sc', h1, hps, he => by
    simp only [path] at h1
    split at h1
    · rename_i oc2 ps2 es2 sc3 ha
      simp only [Option.some.injEq, Prod.mk.injEq] at h1
      obtain ⟨rfl, rfl, rfl, rfl⟩ := h1
      exact Runs.block rfl (path_ok hX hm a ha hps he) rfl
    · cases h1
  | .region id ops false, sc, fr, hp, oc, ps, es, sc', h, hps, hes => by
    simp only [path] at h
    refine stp_ok h hps hes fun {sc1 fr1 hp1 ps1 es1 sc2} h1 hps he => ?_
    split at h1
    · split at h1
      · rename_i fr2 hp2 ps2 ho
        simp only [Option.some.injEq, Prod.mk.injEq] at h1
        obtain ⟨rfl, rfl, rfl, rfl⟩ := h1
        exact Runs.reg2 hX ho hps
      · cases h1
    · cases h1
  | .region id ops true, sc, fr, hp, oc, ps, es, sc', h, hps, hes => by
    simp only [path] at h
    refine stp_ok h hps hes fun {sc1 fr1 hp1 ps1 es1 sc2} h1 hps he => ?_
    split at h1
    · split at h1
      · rename_i fr2 hp2 ps2 ho
        simp only [Option.some.injEq, Prod.mk.injEq] at h1
        obtain ⟨rfl, rfl, rfl, rfl⟩ := h1
        exact Runs.draw2 hX hm ho hps
      · cases h1
    · cases h1

/-! ### A piece's whole way -/
def Oc.kind : Oc → Nat × Nat
  | .nor _ _ => (0, 0)
  | .ex id _ _ => (1, id)
  | .ret _ _ => (2, 0)
noncomputable def preOc (k : Nat) (sc : List Sg) : Oc → Oc × List Prop × List (Eqn × Eqn)
  | .nor fr hp => match pre k sc fr hp with
    | (fr, hp, ps, es, _) => (.nor fr hp, ps, es)
  | .ex id fr hp => match pre k sc fr hp with
    | (fr, hp, ps, es, _) => (.ex id fr hp, ps, es)
  | .ret fr hp => match pre k sc fr hp with
    | (fr, hp, ps, es, _) => (.ret fr hp, ps, es)
theorem preOc_ok {sc : List Sg} {oc1 : Oc} {ps : List Prop} {es : List (Eqn × Eqn)} (h : preOc k sc oc = (oc1, ps, es)) (hps : ∀ p ∈ ps, p) (he : ∀ e ∈ es, e.1 = e.2) (hr : Runs P N k c fr hp oc) : Runs P N k c fr hp oc1 := fun E e1 e2 I ι a w hs => by
  refine wp_mono (hr E e1 e2 I ι a w hs) fun e a w hq => ?_
  subst e2
  cases oc with
  | nor f g =>
    obtain ⟨rfl, I', ι', hs'⟩ := hq
    simp only [preOc] at h
    generalize hz : pre E.k sc f g = z at h
    obtain ⟨f1, g1, ps1, es1, sc1⟩ := z
    simp only [Prod.mk.injEq] at h
    obtain ⟨rfl, rfl, rfl⟩ := h
    exact ⟨rfl, pre_st hz hps he hs'⟩
  | ex id f g =>
    obtain ⟨rfl, I', ι', hs'⟩ := hq
    simp only [preOc] at h
    generalize hz : pre E.k sc f g = z at h
    obtain ⟨f1, g1, ps1, es1, sc1⟩ := z
    simp only [Prod.mk.injEq] at h
    obtain ⟨rfl, rfl, rfl⟩ := h
    exact ⟨rfl, pre_st hz hps he hs'⟩
  | ret f g =>
    obtain ⟨rfl, I', ι', hs'⟩ := hq
    simp only [preOc] at h
    generalize hz : pre E.k sc f g = z at h
    obtain ⟨f1, g1, ps1, es1, sc1⟩ := z
    simp only [Prod.mk.injEq] at h
    obtain ⟨rfl, rfl, rfl⟩ := h
    exact ⟨rfl, pre_st hz hps he hs'⟩
theorem Runs.postAny {ρ : List (Nat × Nat)} {oc oc' : Oc} (h : Runs P N k c fr hp oc) (hk : oc.kind = oc'.kind) (hw : Weak k oc.st.1 oc.st.2 oc'.st.1 oc'.st.2 ρ) : Runs P N k c fr hp oc' := by
  cases oc <;> cases oc' <;> simp only [Oc.kind, Prod.mk.injEq] at hk <;> first
    | exact h.post hw
    | (obtain ⟨_, rfl⟩ := hk; exact h.postEx hw)
    | exact h.postRet hw
    | (exfalso; omega)
abbrev Sum6 := (Nat × Nat) × Prop × List Eqn × Fr × List (Nat × Option Ob) × Bool
noncomputable def sumL (P : Program) (X : Tab) (N k : Nat) (c : Code) (sc : List Sg) (fr : Fr) (hp : Hp) (oc : Oc) (ρ : List (Nat × Nat)) : Option Sum6 := match path P X N k c sc fr hp with
  | some (oc0, ps, es, sc') => match preOc k sc' oc0 with
    | (oc1, ps', es') => some (oc1.kind, cj (ps ++ ps'), (es ++ es').map (·.1), pickF oc1.st.1 (oc.st.1.map (·.1)), pickH oc1.st.2 (asg ρ) (oc.st.2.map (·.1)), wkB k oc.st.2 ρ)
  | none => none
noncomputable def sumR (P : Program) (X : Tab) (N k : Nat) (c : Code) (sc : List Sg) (fr : Fr) (hp : Hp) (oc : Oc) (ρ : List (Nat × Nat)) (φ : Prop) : Option Sum6 := match path P X N k c sc fr hp with
  | some (oc0, ps, es, sc') => match preOc k sc' oc0 with
    | (oc1, ps', es') => some (oc.kind, φ, (es ++ es').map (·.2), renF (asg ρ) oc.st.1, renH (asg ρ) oc.st.2, true)
  | none => some ((9, 9), φ, [], [], [], true)
theorem map_eq_all {α β : Type} {f g : α → β} : ∀ {l : List α}, l.map f = l.map g → ∀ x ∈ l, f x = g x
  | [], _, x, hx => by cases hx
  | a :: l, h, x, hx => by
    simp only [List.map_cons, List.cons.injEq] at h
    rcases List.mem_cons.1 hx with e | hx
    · rw [e]; exact h.1
    · exact map_eq_all h.2 x hx
theorem Runs.path (hX : TabOk P X) (hm : P.follows .mixedOrders = true) (sc : List Sg) (ρ : List (Nat × Nat)) {φ : Prop} (hφ : φ) (h : sumL P X N k c sc fr hp oc ρ = sumR P X N k c sc fr hp oc ρ φ) : Runs P N k c fr hp oc := by
  unfold sumL sumR at h
  generalize hq : Sym.path P X N k c sc fr hp = q at h
  cases q with
  | none => cases h
  | some q =>
    obtain ⟨oc0, ps, es, sc'⟩ := q
    simp only at h
    generalize hz : preOc k sc' oc0 = z at h
    obtain ⟨oc1, ps', es'⟩ := z
    simp only [Option.some.injEq, Prod.mk.injEq] at h
    obtain ⟨h1, h2, h3, h4, h5, h6⟩ := h
    have he := map_eq_all h3
    have hps : ∀ p ∈ ps ++ ps', p := cj_all (by rw [h2]; exact hφ)
    have r := preOc_ok hz (fun p h => hps p (by simp [h])) (fun e h => he e (by simp [h])) (path_ok hX hm c hq (fun p h => hps p (by simp [h])) fun e h => he e (by simp [h]))
    exact r.postAny h1 (Weak.of' h6 (by unfold wkL wkR; rw [h4, h5]))

/-! ### A function's whole way -/
abbrev Sum5 := Option AV × Prop × List Eqn × List (Nat × Option Ob) × Bool
noncomputable def speL (P : Program) (X : Tab) (N k : Nat) (c : Code) (rs : List ResultVar) (sc : List Sg) (args : List TV) (hin hout : Hp) : Option Sum5 := match path P X N k c sc (argFr 0 args) hin with
  | some (oc0, ps, es, sc') => match preOc k sc' oc0 with
    | (oc1, ps', es') => some (resQ X oc1.st.1 oc1.st.2 rs, cj (ps ++ ps'), (es ++ es').map (·.1), pickH oc1.st.2 (asg []) (hout.map (·.1)), oc1.ends && (wkB k hout [] && (Nat.ble args.length N && hin.all (fun p => Nat.blt p.1 k))))
  | none => none
noncomputable def speR (P : Program) (X : Tab) (N k : Nat) (c : Code) (sc : List Sg) (args : List TV) (hin hout : Hp) (r : AV) (φ : Prop) : Option Sum5 := match path P X N k c sc (argFr 0 args) hin with
  | some (oc0, ps, es, sc') => match preOc k sc' oc0 with
    | (oc1, ps', es') => some (some r, φ, (es ++ es').map (·.2), renH (asg []) hout, true)
  | none => some (none, φ, [], [], true)
/-- Spec.of, where of the objects only some are handed on. -/
theorem Spec.of2 (hX : TabOk P X) {f : FuncId} {rs : List ResultVar} (hf : FnOk P f c N rs) {args : List TV} {hin hout : Hp} {r : AV} {oc : Oc} (hN : args.length ≤ N) (hk : hin.all (fun p => Nat.blt p.1 k) = true)
    (hR : Runs P N k c (argFr 0 args) hin oc) (hend : oc.ends = true) (hres : resQ X oc.st.1 oc.st.2 rs = some r) (hb : wkB k hout [] = true) (hh : pickH oc.st.2 (asg []) (hout.map (·.1)) = renH (asg []) hout) : Spec P f args hin r hout := by
  obtain ⟨fn, h1, h2, h3, h4, h5⟩ := hf
  refine ⟨⟨fn, h1, h5, by rw [h2]; rfl⟩, fun I ι w vs hA hvs hL => ?_⟩
  refine calls_of_wp h1 h2 ?_
  have hlen : vs.length = args.length := hvs.len
  let E : Env := { N := N, w0 := w, L := LB w ι hin, I0 := I, k := k, ι0 := ι }
  have hst : St E (argFr 0 args) hin I ι { tmps := vs.toArray ++ Array.replicate (fn.ntmps - vs.toArray.size) undef, defers := [] } w := by
    refine ⟨Bel.refl _ _, Im.le_refl _, fun b o v hb => .inl hb, hA, by simp [h3, E]; omega, rfl, fun _ _ => rfl, fun s => ?_, hL.obj, fun id ob hg B hB => ?_, hL.inj⟩
    · rw [get_argFr]
      simp only [Nat.zero_le, if_true, Nat.sub_zero]
      cases hx : args[s]? with
      | none => trivial
      | some x =>
        obtain ⟨v, hv, hr⟩ := hvs.at s x hx
        have hlt : s < vs.length := (List.getElem?_eq_some_iff.1 hv).1
        have : vals { tmps := vs.toArray ++ Array.replicate (fn.ntmps - vs.toArray.size) undef, defers := [] } s = v := by
          simp only [vals, Array.getD_eq_getD_getElem?]
          rw [Array.getElem?_append_left (by simpa using hlt)]
          simp [hv]
        rw [this]; exact hr
    · exact ⟨.inr ⟨id, ob, hg, hB⟩, hL.own id ob hg B hB⟩
  refine wp_mono (hR E rfl rfl I ι _ w hst) fun e a' w' hq => ?_
  have fin : (∃ I' ι', St E oc.st.1 oc.st.2 I' ι' a' w') → (a'.defers = [] ∧ ∃ v, (results fn a'.tmps).run P w' = .ok v w' ∧ ∃ v_1 I' ι', Ending.returned v = .returned v_1 ∧ Ext (LB w ι hin) I w I' w' ∧ RV I' ι' v_1 r ∧ (∀ id ob, getO hin id = some ob → ι' id = ι id) ∧
      Lent I' ι' w' hout ∧ ∀ id ob B, getO hout id = some ob → owns w' (ι' id) ob B → w.heap.size ≤ B ∨ LB w ι hin B) := fun ⟨I', ι', hs⟩ => by
    obtain ⟨v, hv1, hv2⟩ := resQ_sound hX hs (fn := fn) (by rw [h4]; exact hres)
    have hb' := hb
    simp only [wkB, Bool.and_eq_true] at hb'
    have hs2 : St E [] hout I' ι' a' w' := hs.ren (asg []) (fr' := []) rfl hh.symm hb'.1 (fun id _ => rfl)
    refine ⟨hs.defers, v, hv1, v, I', ι', rfl, ⟨hs.below, hs.le, hs.new, hs.agr⟩, hv2, fun id ob hg => hs.fix id ?_, ⟨hs2.rel.obj, fun id ob hg B hB => (hs2.rel.own id ob hg B hB).2, hs2.rel.inj⟩, fun id ob B hg hB => (hs2.rel.own id ob hg B hB).1⟩
    have := List.all_eq_true.1 hk _ (getO_mem hg)
    simpa [Nat.blt_eq] using this
  cases oc with
  | nor fr hp => obtain ⟨rfl, r⟩ := hq; exact fin r
  | ret fr hp => obtain ⟨rfl, r⟩ := hq; exact fin r
  | ex id fr hp => cases hend
theorem Spec.path (hX : TabOk P X) (hm : P.follows .mixedOrders = true) {f : FuncId} {rs : List ResultVar} (hf : FnOk P f c N rs) (k : Nat) {args : List TV} {hin hout : Hp} {r : AV} (sc : List Sg) {φ : Prop} (hφ : φ)
    (h : speL P X N k c rs sc args hin hout = speR P X N k c sc args hin hout r φ) : Spec P f args hin r hout := by
  unfold speL speR at h
  generalize hq : Sym.path P X N k c sc (argFr 0 args) hin = q at h
  cases q with
  | none => cases h
  | some q =>
    obtain ⟨oc0, ps, es, sc'⟩ := q
    simp only at h
    generalize hz : preOc k sc' oc0 = z at h
    obtain ⟨oc1, ps', es'⟩ := z
    simp only [Option.some.injEq, Prod.mk.injEq, Bool.and_eq_true] at h
    obtain ⟨h1, h2, h3, h4, h5, h6, h7, h8⟩ := h
    have he := map_eq_all h3
    have hps : ∀ p ∈ ps ++ ps', p := cj_all (by rw [h2]; exact hφ)
    have R := preOc_ok hz (fun p h => hps p (by simp [h])) (fun e h => he e (by simp [h])) (path_ok hX hm c hq (fun p h => hps p (by simp [h])) fun e h => he e (by simp [h]))
    exact Spec.of2 hX hf (Nat.le_of_ble_eq_true h7) h8 R h5 h1 h6 h4
end
end Go.Proofs.Ytajmjfdopminbaa.Sym
