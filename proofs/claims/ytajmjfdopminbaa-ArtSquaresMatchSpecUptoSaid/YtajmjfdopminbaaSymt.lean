/- Sym: contracts of the library that turn nothing, as Spec; look-ups and entries of typed maps. Conditions: none. -/
import Derived.Test.YtajmjfdopminbaaSyms
set_option linter.unusedVariables false
set_option linter.unusedSimpArgs false
namespace Go.Proofs.Ytajmjfdopminbaa.Sym
open Go Go.RowKit

section
variable {P : Program}
theorem plain_args {I : Im} {ι : Lo} {vs : List Value} : ∀ {xs : List Value}, All2 (RT I ι) vs (xs.map fun x => TV.v (CV.c (C.v x))) → vs = xs
  | [], h => by cases h; rfl
  | x :: xs, h => by
    cases h with
    | cons h1 t =>
      rw [plain_args t]
      congr 1
      rename_i v _
      have h' : RC I v (.v x) := h1
      cases h'; rfl
/-- A call that turns nothing, of plain values. -/
theorem Spec.leaf {f : FuncId} (xs : List Value) (y : Value) (hc : callable P f) (h1 : y.oneCell' = true) (h2 : okV y = true) (h : ∀ w, Calls P f xs.toArray w fun e w' => e = .returned y ∧ w' = w) :
    Spec P f (xs.map fun x => TV.v (CV.c (C.v x))) [] (.t (.v (.c (.v y)))) [] := by
  refine ⟨hc, fun I ι w vs hA hv _ => ?_⟩
  rw [plain_args hv]
  refine (h w).mono fun e w' hq => ?_
  obtain ⟨he, hw⟩ := hq
  subst hw
  exact ⟨y, I, ι, he, Ext.refl _ hA, RC.v y h1 h2, fun _ _ _ => rfl, ⟨fun _ _ q => (by cases q), fun _ _ q => (by cases q), fun _ _ _ _ q => (by cases q)⟩, fun _ _ _ q => by cases q⟩
/-- The same, of several results. -/
theorem Spec.leafT {f : FuncId} (xs ys : List Value) (hc : callable P f) (h1 : ∀ y ∈ ys, y.oneCell' = true ∧ okV y = true) (h : ∀ w, Calls P f xs.toArray w fun e w' => e = .returned (.tuple ys.toArray) ∧ w' = w) :
    Spec P f (xs.map fun x => TV.v (CV.c (C.v x))) [] (.tup (ys.map fun y => TV.v (CV.c (C.v y)))) [] := by
  refine ⟨hc, fun I ι w vs hA hv _ => ?_⟩
  rw [plain_args hv]
  refine (h w).mono fun e w' hq => ?_
  obtain ⟨he, hw⟩ := hq
  subst hw
  refine ⟨_, I, ι, he, Ext.refl _ hA, ⟨ys, rfl, ?_⟩, fun _ _ _ => rfl, ⟨fun _ _ q => (by cases q), fun _ _ q => (by cases q), fun _ _ _ _ q => (by cases q)⟩, fun _ _ _ q => by cases q⟩
  clear he h
  induction ys with
  | nil => exact .nil
  | cons y r ih => exact .cons (RC.v y (h1 y (by simp)).1 (h1 y (by simp)).2) (ih fun z hz => h1 z (by simp [hz]))
end

/-! ### Typed maps -/
noncomputable def tlook {K V : Type} (l : List (K × V)) (k : K) : Option V := by
  classical exact (l.find? fun q => decide (q.1 = k)).map (·.2)
noncomputable def tput {K V : Type} (l : List (K × V)) (k : K) (v : V) : List (K × V) := by
  classical exact if l.any (fun q => decide (q.1 = k)) then l.map (fun q => if q.1 = k then (k, v) else q) else l ++ [(k, v)]
def encM {K V : Type} (kf : K → Value) (df : V → DV) (l : List (K × V)) : List (Value × DV) := l.map fun q => (kf q.1, df q.2)
theorem look_enc {K V : Type} {kf : K → Value} {df : V → DV} (hi : ∀ a b, kf a = kf b → a = b) (l : List (K × V)) (k : K) : look (encM kf df l) (kf k) = (tlook l k).map df := by
  classical
  unfold look tlook encM
  induction l with
  | nil => rfl
  | cons q r ih =>
    simp only [List.map_cons, List.find?_cons]
    by_cases e : q.1 = k
    · simp [e]
    · have : ¬ kf q.1 = kf k := fun h => e (hi _ _ h)
      simp only [e, this, decide_false]
      exact ih
theorem putE_enc {K V : Type} {kf : K → Value} {df : V → DV} (hi : ∀ a b, kf a = kf b → a = b) (l : List (K × V)) (k : K) (v : V) : encM kf df (tput l k v) = putE (encM kf df l) (kf k) (df v) := by
  classical
  unfold putE tput encM
  have hany : ((l.map fun q => (kf q.1, df q.2)).any fun q => decide (q.1 = kf k)) = l.any fun q => decide (q.1 = k) := by
    rw [List.any_map]
    congr 1
    funext q
    simp only [Function.comp]
    by_cases e : q.1 = k
    · simp [e]
    · have : ¬ kf q.1 = kf k := fun h => e (hi _ _ h)
      simp [e, this]
  rw [hany]
  split
  · rw [List.map_map, List.map_map]
    apply List.map_congr_left
    intro q _
    simp only [Function.comp]
    by_cases e : q.1 = k
    · simp [e]
    · have : ¬ kf q.1 = kf k := fun h => e (hi _ _ h)
      simp [e, this]
  · simp
def opt {α β : Type} (m : Option α) (f : α → Option β) (g : Option β) : Option β := match m with
  | some a => f a
  | none => g
theorem opt_e {α β : Type} {m : Option α} {f : α → Option β} {g : Option β} {r : β} (h : opt m f g = some r) : (∃ a, m = some a ∧ f a = some r) ∨ (m = none ∧ g = some r) := by
  cases m with
  | none => exact .inr ⟨rfl, h⟩
  | some a => exact .inl ⟨a, rfl, h⟩

/-! ### A nil slice where an empty one is asked for -/
inductive FitC : CV → CV → Prop where
  | same (x : CV) : FitC x x
  | nil (sz : Nat) : FitC (.c .nil) (.c (.sl sz []))
inductive FitT : TV → TV → Prop where
  | v {x y : CV} (h : FitC x y) : FitT (.v x) (.v y)
  | agg {l m : List CV} (h : All2 FitC l m) : FitT (.agg l) (.agg m)
theorem FitC.sound {I : Im} {ι : Lo} {v : Value} {x y : CV} (h : FitC x y) (r : RV1 I ι v x) : RV1 I ι v y := by
  cases h with
  | same => exact r
  | nil sz =>
    have h' : RC I v .nil := r
    cases h'
    exact RC.emp none 0 sz (fun _ => rfl)
theorem FitT.sound {I : Im} {ι : Lo} {v : Value} {x y : TV} (h : FitT x y) (r : RT I ι v x) : RT I ι v y := by
  cases h with
  | v h => exact h.sound r
  | agg h =>
    obtain ⟨vs, h1, h2⟩ := r
    refine ⟨vs, h1, All2.of (h2.len.trans h.len) fun i u c hu hc => ?_⟩
    obtain ⟨b, hb, hr⟩ := h2.at' i u hu
    obtain ⟨b', hb', hf⟩ := h.at i c hc
    rw [hb] at hb'; cases hb'
    exact ⟨hf.sound hr.1, hr.2⟩
theorem Spec.fit {P : Program} {f : FuncId} {args args' : List TV} {hin hout : Hp} {r : AV} (h : Spec P f args hin r hout) (hf : All2 FitT args' args) : Spec P f args' hin r hout :=
  ⟨h.1, fun I ι w vs hA hv hL => h.2 I ι w vs hA (All2.of (hv.len.trans hf.len) fun i u c hu hc => by
    obtain ⟨b, hb, hr⟩ := hv.at' i u hu
    obtain ⟨b', hb', hq⟩ := hf.at i c hc
    rw [hb] at hb'; cases hb'
    exact hq.sound hr) hL⟩
end Go.Proofs.Ytajmjfdopminbaa.Sym
