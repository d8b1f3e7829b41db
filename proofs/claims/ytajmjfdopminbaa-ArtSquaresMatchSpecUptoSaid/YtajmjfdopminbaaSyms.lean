/- Sym: facts that a frame gives; the words in which a function's plain form is written (cnd, grd, bnd, aft, forN, loop), and the rules for loops. Conditions: none. -/
import Derived.Test.YtajmjfdopminbaaSymr
set_option linter.unusedVariables false
set_option linter.unusedSimpArgs false
namespace Go.Proofs.Ytajmjfdopminbaa.Sym
open Go Go.RowKit

section
variable {P : Program} {X : Tab} {N k : Nat} {c : Code} {fr fr' : Fr} {hp hp' : Hp} {oc : Oc}

theorem Runs.len {s sz : Nat} {xs : List El} (hg : get fr s = .t (.v (.c (.sl sz xs)))) (h : xs.length ≤ lim → Runs P N k c fr hp oc) : Runs P N k c fr hp oc := fun E e1 e2 I ι a w hs => by
  have hx := hs.rel.slot s
  rw [hg] at hx
  refine h ?_ E e1 e2 I ι a w hs
  rcases RC.sl_inv (show RC I _ (.sl sz xs) from hx) with ⟨_, _, _, rfl, _⟩ | ⟨_, _, _, _, _, _, hM, _⟩
  · exact Nat.zero_le _
  · exact hM
theorem Runs.slen {s : Nat} {b : ByteArray} (hg : get fr s = .t (.v (.c (.v (.string b))))) (h : b.size ≤ lim → Runs P N k c fr hp oc) : Runs P N k c fr hp oc := fun E e1 e2 I ι a w hs => by
  have hx := hs.rel.slot s
  rw [hg] at hx
  refine h ?_ E e1 e2 I ι a w hs
  have hx' : RC I (vals a s) (.v (.string b)) := hx
  generalize vals a s = u at hx'
  cases hx' with
  | v _ _ hw => exact Nat.le_of_ble_eq_true hw
theorem Runs.rlen {id e sz : Nat} {xs : List El} (hg : getO hp id = some (.row e sz xs)) (h : xs.length ≤ lim → Runs P N k c fr hp oc) : Runs P N k c fr hp oc := fun E e1 e2 I ι a w hs => by
  obtain ⟨_, _, _, _, h4⟩ := hs.rel.obj _ _ hg
  exact h h4 E e1 e2 I ι a w hs
/-- A slot's slice that is nil is an empty one. -/
theorem Runs.dnil {s : Nat} (sz : Nat) (hg : get fr s = .t (.v (.c .nil))) (h : Runs P N k c (setS fr s (.t (.v (.c (.sl sz []))))) hp oc) : Runs P N k c fr hp oc := fun E e1 e2 I ι a w hs => by
  refine h E e1 e2 I ι a w ⟨hs.below, hs.le, hs.new, hs.agr, hs.size, hs.defers, hs.fix, fun t => ?_, hs.rel.obj, hs.rel.own, hs.rel.inj⟩
  rw [get_setS]
  split
  · rename_i e
    subst e
    have hx := hs.rel.slot t
    rw [hg] at hx
    have hx' : RC I (vals a t) .nil := hx
    generalize vals a t = u at hx'
    cases hx'
    exact RC.emp none 0 sz (fun _ => rfl)
  · exact hs.rel.slot t
theorem Runs.shape (hf : fr = fr') (hh : hp = hp') (h : Runs P N k c fr' hp' oc) : Runs P N k c fr hp oc := by subst hf hh; exact h

/-! ### Code's shapes, looked at -/
def isSeq : Code → Bool
  | .seq _ _ => true
  | _ => false
def isCond : Code → Bool
  | .cond _ _ _ => true
  | _ => false
def isBlock (id : Nat) : Code → Bool
  | .block i _ => i == id
  | _ => false
def isLoop : Code → Bool
  | .loop _ => true
  | _ => false
def isRet : Code → Bool
  | .ret => true
  | _ => false
def isSkip : Code → Bool
  | .skip => true
  | _ => false
def isExit (id : Nat) : Code → Bool
  | .exit i => i == id
  | _ => false
theorem Runs.seq' (h : isSeq c = true) (h1 : Runs P N k (cL c) fr hp (.nor fr' hp')) (h2 : Runs P N k (cR c) fr' hp' oc) : Runs P N k c fr hp oc := by
  refine Runs.seq ?_ h1 h2
  cases c <;> first | rfl | cases h
theorem Runs.stop' (h : isSeq c = true) (h1 : Runs P N k (cL c) fr hp oc) (hs : oc.stops = true) : Runs P N k c fr hp oc := by
  refine Runs.stop ?_ h1 hs
  cases c <;> first | rfl | cases h
theorem Runs.cond' {b : Bool} (t : Bool) (h : (isCond c && true) = true) (hb : opv fr (condOp c) = .t (.v (.c (.v (.bool b))))) (ht : b = t) (h1 : Runs P N k (bif t then cL c else cR c) fr hp oc) : Runs P N k c fr hp oc := by
  refine Runs.cond ?_ hb t ht h1
  cases c <;> first | rfl | cases h
theorem Runs.block' (id : Nat) (h : isBlock id c = true) {oc' : Oc} (h1 : Runs P N k (cL c) fr hp oc') (ho : oc = oc'.unblock id) : Runs P N k c fr hp oc := by
  cases c <;> first | cases h | skip
  rename_i i x
  have : i = id := by simpa [isBlock] using h
  subst this
  exact Runs.block rfl h1 ho
theorem Runs.loop' (h : isLoop c = true) (hr : Rounds P N k (cL c) fr hp oc) : Runs P N k c fr hp oc := by
  refine Runs.loop ?_ hr
  cases c <;> first | rfl | cases h
theorem Runs.ret' (h : isRet c = true) : Runs P N k c fr hp (.ret fr hp) := Runs.ret (by cases c <;> first | rfl | cases h)
theorem Runs.skip' (h : isSkip c = true) : Runs P N k c fr hp (.nor fr hp) := Runs.skip (by cases c <;> first | rfl | cases h)
theorem Runs.exit' {id : Nat} (h : isExit id c = true) : Runs P N k c fr hp (.ex id fr hp) := Runs.exit (by
  cases c <;> first | cases h | skip
  rename_i i
  have : i = id := by simpa [isExit] using h
  rw [this])
end

/-! ### The words -/
def cnd {α : Type} (b : Bool) (x y : Option α) : Option α := bif b then x else y
theorem cnd_e {α : Type} {b : Bool} {x y : Option α} {r : α} (h : cnd b x y = some r) : (b = true ∧ x = some r) ∨ (b = false ∧ y = some r) := by
  cases b
  · exact .inr ⟨rfl, h⟩
  · exact .inl ⟨rfl, h⟩
def grd {α : Type} (p : Prop) [Decidable p] (x : Option α) : Option α := if p then x else none
theorem grd_e {α : Type} {p : Prop} [Decidable p] {x : Option α} {r : α} (h : grd p x = some r) : p ∧ x = some r := by
  unfold grd at h
  split at h
  · exact ⟨by assumption, h⟩
  · cases h
def bnd {α β : Type} (x : Option α) (f : α → Option β) : Option β := match x with
  | some a => f a
  | none => none
theorem bnd_e {α β : Type} {x : Option α} {f : α → Option β} {r : β} (h : bnd x f = some r) : ∃ a, x = some a ∧ f a = some r := by
  unfold bnd at h
  split at h
  · rename_i a; exact ⟨a, rfl, h⟩
  · cases h
inductive Stp (σ ρ : Type) : Type where
  | go (s : σ)
  | brk (s : σ)
  | ret (r : ρ)
inductive Fin' (σ ρ : Type) : Type where
  | fin (s : σ)
  | ret (r : ρ)
def aft {σ ρ γ : Type} (x : Option (Fin' σ ρ)) (f : σ → Option γ) (g : ρ → Option γ) : Option γ := match x with
  | some (.fin s) => f s
  | some (.ret r) => g r
  | none => none
theorem aft_e {σ ρ γ : Type} {x : Option (Fin' σ ρ)} {f : σ → Option γ} {g : ρ → Option γ} {r : γ} (h : aft x f g = some r) : (∃ s, x = some (.fin s) ∧ f s = some r) ∨ ∃ q, x = some (.ret q) ∧ g q = some r := by
  unfold aft at h
  split at h
  · exact .inl ⟨_, rfl, h⟩
  · exact .inr ⟨_, rfl, h⟩
  · cases h
/-- A counted loop: n rounds more, from round i on. -/
def forN {σ ρ : Type} (body : Nat → σ → Option (Stp σ ρ)) : Nat → Nat → σ → Option (Fin' σ ρ)
  | 0, _, s => some (.fin s)
  | n + 1, i, s => match body i s with
    | some (.go s') => forN body n (i + 1) s'
    | some (.brk s') => some (.fin s')
    | some (.ret r) => some (.ret r)
    | none => none
/-- A loop, n rounds at most. -/
def iter {σ ρ : Type} (body : σ → Option (Stp σ ρ)) : Nat → σ → Option (Fin' σ ρ)
  | 0, _ => none
  | n + 1, s => match body s with
    | some (.go s') => iter body n s'
    | some (.brk s') => some (.fin s')
    | some (.ret r) => some (.ret r)
    | none => none
theorem iter_mono {σ ρ : Type} {body : σ → Option (Stp σ ρ)} : ∀ {n m : Nat} {s : σ} {r : Fin' σ ρ}, iter body n s = some r → n ≤ m → iter body m s = some r
  | 0, _, _, _, h, _ => by cases h
  | n + 1, 0, _, _, _, hm => by omega
  | n + 1, m + 1, s, r, h, hm => by
    simp only [iter] at h ⊢
    cases hb : body s with
    | none => rw [hb] at h; cases h
    | some o =>
      rw [hb] at h
      cases o with
      | go s' => exact iter_mono (n := n) h (by omega)
      | brk s' => exact h
      | ret r' => exact h
noncomputable def loop {σ ρ : Type} (body : σ → Option (Stp σ ρ)) (s : σ) : Option (Fin' σ ρ) := by
  classical exact if h : ∃ n r, iter body n s = some r then iter body h.choose s else none
theorem loop_e {σ ρ : Type} {body : σ → Option (Stp σ ρ)} {s : σ} {r : Fin' σ ρ} (h : loop body s = some r) : ∃ n, iter body n s = some r := by
  classical
  unfold loop at h
  split at h
  · exact ⟨_, h⟩
  · cases h
theorem loop_i {σ ρ : Type} {body : σ → Option (Stp σ ρ)} {s : σ} {r : Fin' σ ρ} {n : Nat} (h : iter body n s = some r) : loop body s = some r := by
  classical
  unfold loop
  have hex : ∃ n r, iter body n s = some r := ⟨n, r, h⟩
  rw [dif_pos hex]
  obtain ⟨r', hr'⟩ := hex.choose_spec
  have h1 := iter_mono hr' (Nat.le_max_left _ n)
  have h2 := iter_mono h (Nat.le_max_right hex.choose n)
  rw [h1] at h2
  rw [hr', h2]

section
variable {P : Program} {X : Tab} {N k : Nat} {b : Code}
def stpOc {σ ρ : Type} (G : σ → Oc) (B : σ → Oc) (R : ρ → Oc) : Stp σ ρ → Oc
  | .go s => G s
  | .brk s => B s
  | .ret r => R r
def finOc {σ ρ : Type} (B : σ → Oc) (R : ρ → Oc) : Fin' σ ρ → Oc
  | .fin s => B s
  | .ret r => R r
theorem forN_rounds {σ ρ : Type} {body : Nat → σ → Option (Stp σ ρ)} {F : Nat → σ → Fr} {H : Nat → σ → Hp} {B : σ → Oc} {R : ρ → Oc} {M : Nat} (hB : ∀ s, (B s).stops = true) (hR : ∀ r, (R r).stops = true)
    (h0 : ∀ s, Runs P N k b (F M s) (H M s) (B s))
    (hb : ∀ i s o, i < M → body i s = some o → Runs P N k b (F i s) (H i s) (stpOc (fun s' => .nor (F (i + 1) s') (H (i + 1) s')) B R o)) :
    ∀ (n i : Nat) (s : σ) (r : Fin' σ ρ), i + n = M → forN body n i s = some r → Rounds P N k b (F i s) (H i s) (finOc B R r)
  | 0, i, s, r, hi, h => by
    simp only [forN, Option.some.injEq] at h
    subst h
    have : i = M := by omega
    subst this
    exact .last (h0 s) (hB s)
  | n + 1, i, s, r, hi, h => by
    simp only [forN] at h
    cases hbo : body i s with
    | none => rw [hbo] at h; cases h
    | some o =>
      rw [hbo] at h
      have hr := hb i s o (by omega) hbo
      cases o with
      | go s' => exact .more hr (forN_rounds hB hR h0 hb n (i + 1) s' r (by omega) h)
      | brk s' => simp only [Option.some.injEq] at h; subst h; exact .last hr (hB s')
      | ret r' => simp only [Option.some.injEq] at h; subst h; exact .last hr (hR r')
theorem loop_rounds {σ ρ : Type} {body : σ → Option (Stp σ ρ)} {F : σ → Fr} {H : σ → Hp} {B : σ → Oc} {R : ρ → Oc} (hB : ∀ s, (B s).stops = true) (hR : ∀ r, (R r).stops = true)
    (hb : ∀ s o, body s = some o → Runs P N k b (F s) (H s) (stpOc (fun s' => .nor (F s') (H s')) B R o)) {s : σ} {r : Fin' σ ρ} (h : loop body s = some r) : Rounds P N k b (F s) (H s) (finOc B R r) := by
  obtain ⟨n, hn⟩ := loop_e h
  clear h
  induction n generalizing s with
  | zero => cases hn
  | succ n ih =>
    simp only [iter] at hn
    cases hbo : body s with
    | none => rw [hbo] at hn; cases hn
    | some o =>
      rw [hbo] at hn
      have hr := hb s o hbo
      cases o with
      | go s' => exact .more hr (ih hn)
      | brk s' => simp only [Option.some.injEq] at hn; subst hn; exact .last hr (hB s')
      | ret r' => simp only [Option.some.injEq] at hn; subst hn; exact .last hr (hR r')
theorem wrap_succ {i n : Nat} (h : i < n) (hn : n ≤ lim) : IntKind.i64.wrap ((i : Int) + 1) = ((i + 1 : Nat) : Int) := by
  have : lim = 1099511627776 := rfl
  rw [IntKind.wrap_i64]; omega
theorem lt_true {i n : Nat} (h : i < n) : decide ((i : Int) < (n : Int)) = true := by simpa using h
theorem lt_false (n : Nat) : decide ((n : Int) < (n : Int)) = false := by simp
end

/-! ### Several values -/
def bnd0 {ω : Type} (x : Option Unit) (f : Option ω) : Option ω := match x with
  | some _ => f
  | none => none
theorem bnd0_e {ω : Type} {x : Option Unit} {f : Option ω} {r : ω} (h : bnd0 x f = some r) : x = some () ∧ f = some r := by
  unfold bnd0 at h
  split at h
  · exact ⟨rfl, h⟩
  · cases h
def aft0 {ρ ω : Type} (x : Option (Fin' Unit ρ)) (f : Option ω) (g : ρ → Option ω) : Option ω := aft x (fun _ => f) g
theorem aft0_e {ρ ω : Type} {x : Option (Fin' Unit ρ)} {f : Option ω} {g : ρ → Option ω} {r : ω} (h : aft0 x f g = some r) : (x = some (.fin ()) ∧ f = some r) ∨ ∃ q, x = some (.ret q) ∧ g q = some r := by
  rcases aft_e h with ⟨_, h1, h2⟩ | h
  · exact .inl ⟨h1, h2⟩
  · exact .inr h
def bnd1 {α ω : Type} (x : Option (α)) (f : α → Option ω) : Option ω := match x with
  | some q => f q
  | none => none
theorem bnd1_e {α ω : Type} {x : Option (α)} {f : α → Option ω} {r : ω} (h : bnd1 x f = some r) : ∃ a, x = some a ∧ f a = some r := by
  unfold bnd1 at h
  split at h
  · exact ⟨_, rfl, h⟩
  · cases h
def aft1 {α ρ ω : Type} (x : Option (Fin' (α) ρ)) (f : α → Option ω) (g : ρ → Option ω) : Option ω := aft x (fun q => f q) g
theorem aft1_e {α ρ ω : Type} {x : Option (Fin' (α) ρ)} {f : α → Option ω} {g : ρ → Option ω} {r : ω} (h : aft1 x f g = some r) : (∃ a, x = some (.fin a) ∧ f a = some r) ∨ ∃ q, x = some (.ret q) ∧ g q = some r := by
  rcases aft_e h with ⟨s, h1, h2⟩ | h
  · exact .inl ⟨_, h1, h2⟩
  · exact .inr h
def bnd2 {α β ω : Type} (x : Option (α × β)) (f : α → β → Option ω) : Option ω := match x with
  | some q => f q.1 q.2
  | none => none
theorem bnd2_e {α β ω : Type} {x : Option (α × β)} {f : α → β → Option ω} {r : ω} (h : bnd2 x f = some r) : ∃ a b, x = some (a, b) ∧ f a b = some r := by
  unfold bnd2 at h
  split at h
  · exact ⟨_, _, rfl, h⟩
  · cases h
def aft2 {α β ρ ω : Type} (x : Option (Fin' (α × β) ρ)) (f : α → β → Option ω) (g : ρ → Option ω) : Option ω := aft x (fun q => f q.1 q.2) g
theorem aft2_e {α β ρ ω : Type} {x : Option (Fin' (α × β) ρ)} {f : α → β → Option ω} {g : ρ → Option ω} {r : ω} (h : aft2 x f g = some r) : (∃ a b, x = some (.fin (a, b)) ∧ f a b = some r) ∨ ∃ q, x = some (.ret q) ∧ g q = some r := by
  rcases aft_e h with ⟨s, h1, h2⟩ | h
  · exact .inl ⟨_, _, h1, h2⟩
  · exact .inr h
def bnd3 {α β γ ω : Type} (x : Option (α × β × γ)) (f : α → β → γ → Option ω) : Option ω := match x with
  | some q => f q.1 q.2.1 q.2.2
  | none => none
theorem bnd3_e {α β γ ω : Type} {x : Option (α × β × γ)} {f : α → β → γ → Option ω} {r : ω} (h : bnd3 x f = some r) : ∃ a b c, x = some (a, b, c) ∧ f a b c = some r := by
  unfold bnd3 at h
  split at h
  · exact ⟨_, _, _, rfl, h⟩
  · cases h
def aft3 {α β γ ρ ω : Type} (x : Option (Fin' (α × β × γ) ρ)) (f : α → β → γ → Option ω) (g : ρ → Option ω) : Option ω := aft x (fun q => f q.1 q.2.1 q.2.2) g
theorem aft3_e {α β γ ρ ω : Type} {x : Option (Fin' (α × β × γ) ρ)} {f : α → β → γ → Option ω} {g : ρ → Option ω} {r : ω} (h : aft3 x f g = some r) : (∃ a b c, x = some (.fin (a, b, c)) ∧ f a b c = some r) ∨ ∃ q, x = some (.ret q) ∧ g q = some r := by
  rcases aft_e h with ⟨s, h1, h2⟩ | h
  · exact .inl ⟨_, _, _, h1, h2⟩
  · exact .inr h
def bnd4 {α β γ δ ω : Type} (x : Option (α × β × γ × δ)) (f : α → β → γ → δ → Option ω) : Option ω := match x with
  | some q => f q.1 q.2.1 q.2.2.1 q.2.2.2
  | none => none
theorem bnd4_e {α β γ δ ω : Type} {x : Option (α × β × γ × δ)} {f : α → β → γ → δ → Option ω} {r : ω} (h : bnd4 x f = some r) : ∃ a b c d, x = some (a, b, c, d) ∧ f a b c d = some r := by
  unfold bnd4 at h
  split at h
  · exact ⟨_, _, _, _, rfl, h⟩
  · cases h
def aft4 {α β γ δ ρ ω : Type} (x : Option (Fin' (α × β × γ × δ) ρ)) (f : α → β → γ → δ → Option ω) (g : ρ → Option ω) : Option ω := aft x (fun q => f q.1 q.2.1 q.2.2.1 q.2.2.2) g
theorem aft4_e {α β γ δ ρ ω : Type} {x : Option (Fin' (α × β × γ × δ) ρ)} {f : α → β → γ → δ → Option ω} {g : ρ → Option ω} {r : ω} (h : aft4 x f g = some r) : (∃ a b c d, x = some (.fin (a, b, c, d)) ∧ f a b c d = some r) ∨ ∃ q, x = some (.ret q) ∧ g q = some r := by
  rcases aft_e h with ⟨s, h1, h2⟩ | h
  · exact .inl ⟨_, _, _, _, h1, h2⟩
  · exact .inr h
def bnd5 {α β γ δ ε ω : Type} (x : Option (α × β × γ × δ × ε)) (f : α → β → γ → δ → ε → Option ω) : Option ω := match x with
  | some q => f q.1 q.2.1 q.2.2.1 q.2.2.2.1 q.2.2.2.2
  | none => none
theorem bnd5_e {α β γ δ ε ω : Type} {x : Option (α × β × γ × δ × ε)} {f : α → β → γ → δ → ε → Option ω} {r : ω} (h : bnd5 x f = some r) : ∃ a b c d e, x = some (a, b, c, d, e) ∧ f a b c d e = some r := by
  unfold bnd5 at h
  split at h
  · exact ⟨_, _, _, _, _, rfl, h⟩
  · cases h
def aft5 {α β γ δ ε ρ ω : Type} (x : Option (Fin' (α × β × γ × δ × ε) ρ)) (f : α → β → γ → δ → ε → Option ω) (g : ρ → Option ω) : Option ω := aft x (fun q => f q.1 q.2.1 q.2.2.1 q.2.2.2.1 q.2.2.2.2) g
theorem aft5_e {α β γ δ ε ρ ω : Type} {x : Option (Fin' (α × β × γ × δ × ε) ρ)} {f : α → β → γ → δ → ε → Option ω} {g : ρ → Option ω} {r : ω} (h : aft5 x f g = some r) : (∃ a b c d e, x = some (.fin (a, b, c, d, e)) ∧ f a b c d e = some r) ∨ ∃ q, x = some (.ret q) ∧ g q = some r := by
  rcases aft_e h with ⟨s, h1, h2⟩ | h
  · exact .inl ⟨_, _, _, _, _, h1, h2⟩
  · exact .inr h
def bnd6 {α β γ δ ε ζ ω : Type} (x : Option (α × β × γ × δ × ε × ζ)) (f : α → β → γ → δ → ε → ζ → Option ω) : Option ω := match x with
  | some q => f q.1 q.2.1 q.2.2.1 q.2.2.2.1 q.2.2.2.2.1 q.2.2.2.2.2
  | none => none
theorem bnd6_e {α β γ δ ε ζ ω : Type} {x : Option (α × β × γ × δ × ε × ζ)} {f : α → β → γ → δ → ε → ζ → Option ω} {r : ω} (h : bnd6 x f = some r) : ∃ u1 u2 u3 u4 u5 u6, x = some (u1, u2, u3, u4, u5, u6) ∧ f u1 u2 u3 u4 u5 u6 = some r := by
  unfold bnd6 at h
  split at h
  · exact ⟨_, _, _, _, _, _, rfl, h⟩
  · cases h
def aft6 {α β γ δ ε ζ ρ ω : Type} (x : Option (Fin' (α × β × γ × δ × ε × ζ) ρ)) (f : α → β → γ → δ → ε → ζ → Option ω) (g : ρ → Option ω) : Option ω := aft x (fun q => f q.1 q.2.1 q.2.2.1 q.2.2.2.1 q.2.2.2.2.1 q.2.2.2.2.2) g
theorem aft6_e {α β γ δ ε ζ ρ ω : Type} {x : Option (Fin' (α × β × γ × δ × ε × ζ) ρ)} {f : α → β → γ → δ → ε → ζ → Option ω} {g : ρ → Option ω} {r : ω} (h : aft6 x f g = some r) : (∃ u1 u2 u3 u4 u5 u6, x = some (.fin (u1, u2, u3, u4, u5, u6)) ∧ f u1 u2 u3 u4 u5 u6 = some r) ∨ ∃ q, x = some (.ret q) ∧ g q = some r := by
  rcases aft_e h with ⟨s, h1, h2⟩ | h
  · exact .inl ⟨_, _, _, _, _, _, h1, h2⟩
  · exact .inr h

/-! ### Typed words -/
def w64 (x : Int) : Int := IntKind.i64.wrap x
def sEq (a b : ByteArray) : Bool := a.toList == b.toList
def sNe (a b : ByteArray) : Bool := !(a.toList == b.toList)
def sLt (a b : ByteArray) : Bool := Op.bytesLess a.toList b.toList
def sLe (a b : ByteArray) : Bool := Op.bytesLess a.toList b.toList || a.toList == b.toList
def sGt (a b : ByteArray) : Bool := !(Op.bytesLess a.toList b.toList || a.toList == b.toList)
def sGe (a b : ByteArray) : Bool := !Op.bytesLess a.toList b.toList
def atI {α : Type} (xs : List α) (n : Int) : Option α := if 0 ≤ n then xs[n.toNat]? else none
theorem atI_nat {α : Type} (xs : List α) (i : Nat) : atI xs (i : Int) = xs[i]? := by simp [atI]
theorem idx_ok {α β : Type} {xs : List α} {n : Int} {x : α} (f : α → β) (h : atI xs n = some x) : 0 ≤ n ∧ n < ((List.map f xs).length : Int) ∧ (List.map f xs)[n.toNat]? = some (f x) := by
  unfold atI at h
  split at h
  · rename_i h0
    have hlt := (List.getElem?_eq_some_iff.1 h).1
    refine ⟨h0, ?_, by rw [List.getElem?_map, h]; rfl⟩
    rw [List.length_map]; omega
  · cases h
theorem idx_lt {α β : Type} {xs : List α} {n : Int} {x : α} (f : α → β) (h : atI xs n = some x) : 0 ≤ n ∧ n < ((List.map f xs).length : Int) := ⟨(idx_ok f h).1, (idx_ok f h).2.1⟩
theorem idx_el {α β : Type} {xs : List α} {n : Int} {x : α} (f : α → β) (h : atI xs n = some x) : (List.map f xs)[n.toNat]? = some (f x) := (idx_ok f h).2.2
theorem len_eq {α β : Type} (f : α → β) (xs : List α) : AV.t (.v (.c (.v (.int .i64 ((List.map f xs).length : Int))))) = AV.t (.v (.c (.v (.int .i64 (xs.length : Int))))) := by rw [List.length_map]
theorem int_eq {a b : Int} {k : IntKind} (h : a = b) : AV.t (.v (.c (.v (.int k a)))) = AV.t (.v (.c (.v (.int k b)))) := by rw [h]
theorem sl_eq {sz : Nat} {xs ys : List El} (h : xs = ys) : AV.t (.v (.c (.sl sz xs))) = AV.t (.v (.c (.sl sz ys))) := by rw [h]
theorem len_of {α β : Type} {f : α → β} {xs : List α} (h : (List.map f xs).length ≤ lim) : xs.length ≤ lim := by simpa using h
/-- A part of a list. -/
def cutI {α : Type} (xs : List α) (l h : Int) : Option (List α) := if 0 ≤ l ∧ l ≤ h ∧ h ≤ (xs.length : Int) then some ((xs.take h.toNat).drop l.toNat) else none
theorem map_snoc {α β : Type} (f : α → β) (xs : List α) (x : α) : List.map f (xs ++ [x]) = List.map f xs ++ [f x] := by simp
theorem map_app {α β : Type} (f : α → β) (xs ys : List α) : List.map f (xs ++ ys) = List.map f xs ++ List.map f ys := by simp
end Go.Proofs.Ytajmjfdopminbaa.Sym
