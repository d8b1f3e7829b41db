/- Sym: the words of which the generator's proofs consist. Conditions: none. -/
import Derived.Test.YtajmjfdopminbaaSymu
set_option linter.unusedVariables false
set_option linter.unusedSimpArgs false
namespace Go.Proofs.Ytajmjfdopminbaa.Sym
open Go Go.RowKit

theorem an {a b : Prop} (p : a) (q : b) : a ∧ b := ⟨p, q⟩
theorem cut_l {α β : Type} {xs : List α} {l : Int} (f : α → β) (h : (0 : Int) ≤ l ∧ l ≤ (xs.length : Int)) : (0 : Int) ≤ l ∧ l ≤ ((List.map f xs).length : Int) := by rw [List.length_map]; exact h
theorem cut_lh {α β : Type} {xs : List α} {l r : Int} (f : α → β) (h : (0 : Int) ≤ l ∧ l ≤ r ∧ r ≤ (xs.length : Int)) : (0 : Int) ≤ l ∧ l ≤ r ∧ r ≤ ((List.map f xs).length : Int) := by rw [List.length_map]; exact h
theorem drop_eq {α : Type} (sz : Nat) (f : α → El) (xs : List α) (n : Nat) : lA sz ((List.map f xs).drop n) = lA sz (List.map f (xs.drop n)) := by rw [List.map_drop]
theorem cut_eq {α : Type} (sz : Nat) (f : α → El) (xs : List α) (m n : Nat) : lA sz (((List.map f xs).take m).drop n) = lA sz (List.map f ((xs.take m).drop n)) := by rw [List.map_drop, List.map_take]
theorem app_ok {α : Type} {xs ys : List α} (f : α → El) (h : xs.length + ys.length ≤ lim) : List.map f (xs ++ ys) = List.map f xs ++ List.map f ys ∧ (List.map f xs).length + (List.map f ys).length ≤ lim := ⟨by simp, by simpa using h⟩
theorem app_ok0 {α : Type} {ys : List α} (f : α → El) (h : ([] : List α).length + ys.length ≤ lim) : List.map f ys = [] ++ List.map f ys ∧ ([] : List El).length + (List.map f ys).length ≤ lim := ⟨by simp, by simpa using h⟩
theorem app_okn {α : Type} {xs : List α} (f : α → El) (h : xs.length + ([] : List α).length ≤ lim) : List.map f (xs ++ []) = List.map f xs ++ [] ∧ (List.map f xs).length + ([] : List El).length ≤ lim := ⟨by simp, by simpa using h⟩
theorem tl_some {K V : Type} {kf : K → Value} (df : V → DV) (hi : ∀ a b, kf a = kf b → a = b) {l : List (K × V)} {k : K} {v : V} (h : tlook l k = some v) : look (encM kf df l) (kf k) = some (df v) := by rw [look_enc hi, h]; rfl
theorem tl_none {K V : Type} {kf : K → Value} (df : V → DV) (hi : ∀ a b, kf a = kf b → a = b) {l : List (K × V)} {k : K} (h : tlook l k = none) : look (encM kf df l) (kf k) = none := by rw [look_enc hi, h]; rfl
theorem put_ok {K V : Type} {kf : K → Value} (df : V → DV) (hi : ∀ a b, kf a = kf b → a = b) (l : List (K × V)) (k : K) (v : V) : encM kf df (tput l k v) = putE (encM kf df l) (kf k) (df v) := putE_enc hi l k v
theorem wrap_eq {i n : Nat} (h : i < n) (hn : n ≤ lim) : iA (IntKind.i64.wrap ((i : Int) + 1)) = iA ((i + 1 : Nat) : Int) := by rw [wrap_succ h hn]
theorem leni_eq {α β : Type} (f : α → β) (xs : List α) : iA ((List.map f xs).length : Int) = iA (xs.length : Int) := by rw [List.length_map]
theorem mk_ok {α : Type} {l : Int} (f : α → El) (x : α) (h : (0 : Int) ≤ l ∧ l ≤ (lim : Int)) : (0 : Int) ≤ l ∧ l ≤ l ∧ l ≤ (lim : Int) ∧ List.map f (List.replicate l.toNat x) = List.replicate l.toNat (f x) := ⟨h.1, Int.le_refl _, h.2, by simp⟩
theorem set_ok {α : Type} {xs : List α} {n : Int} {v : α} (f : α → El) (h : atI xs n = some v) (y : α) (o : Nat) (ds : El) (e : f y = spl (f v) o ds) : (List.map f xs)[n.toNat]? = some (f v) ∧ List.map f (xs.set n.toNat y) = (List.map f xs).set n.toNat (spl (f v) o ds) :=
  ⟨idx_el f h, by rw [List.map_set, e]⟩
theorem sub_eq {α : Type} (sz id lo : Nat) (l : Int) (f : α → El) (xs : List α) : AV.t (.v (.sub sz id lo (((List.map f xs).length : Int) - l).toNat)) = AV.t (.v (.sub sz id lo ((xs.length : Int) - l).toNat)) := by rw [List.length_map]
theorem cut_n {α β : Type} {xs : List α} {l : Int} (f : α → β) (h : (0 : Int) ≤ l ∧ l ≤ (xs.length : Int)) : (0 : Int) ≤ l ∧ l ≤ ((List.map f xs).length : Int) ∧ ((List.map f xs).length : Int) ≤ ((List.map f xs).length : Int) := by rw [List.length_map]; exact ⟨h.1, h.2, Int.le_refl _⟩
theorem app0_ok {α : Type} {n : Int} (f : α → El) (x : α) (h : (0 : Int) ≤ n ∧ n ≤ (lim : Int)) : List.map f (List.replicate n.toNat x) = List.replicate n.toNat (f x) ∧ (0 : Int) ≤ n ∧ n ≤ (lim : Int) := ⟨by simp, h⟩
theorem clear_ok {α : Type} (f : α → El) (x : α) (xs : List α) (lo n : Nat) : List.map f (xs.take lo ++ (List.replicate n x ++ xs.drop (lo + n))) = (List.map f xs).take lo ++ (List.replicate n (f x) ++ (List.map f xs).drop (lo + n)) := by simp [List.map_take, List.map_drop]
theorem take_ok {α : Type} (f : α → El) (xs : List α) (n : Nat) : List.map f (xs.take n) = (List.map f xs).take n := by rw [List.map_take]
/-- A function at a slice that may be nil. -/
theorem Spec.nilcase {P : Program} {f : FuncId} {pre post : List TV} {hin hout : Hp} {r : AV} {sz : Nat} {xs : List El} (h1 : xs = [] → Spec P f (pre ++ .v (.c .nil) :: post) hin r hout) (h2 : Spec P f (pre ++ .v (.sn sz xs) :: post) hin r hout) : Spec P f (pre ++ .v (.c (.sl sz xs)) :: post) hin r hout := by
  refine ⟨h2.1, fun I ι w vs hA hvs hL => ?_⟩
  have hput : ∀ {y : TV}, (∀ v, vs[pre.length]? = some v → RT I ι v y) → All2 (RT I ι) vs (pre ++ y :: post) := fun {y} hy => by
    refine All2.of (by have := hvs.len; simpa using this) fun i v x hv hx => ?_
    by_cases e : i = pre.length
    · subst e
      simp at hx; subst hx
      exact hy v hv
    · obtain ⟨x', hx', hr⟩ := hvs.at' i v hv
      have : x' = x := by
        rcases Nat.lt_or_gt_of_ne e with q | q
        · rw [List.getElem?_append_left q] at hx hx'
          rw [hx] at hx'; exact (Option.some.inj hx').symm
        · obtain ⟨j, rfl⟩ : ∃ j, i = pre.length + (j + 1) := ⟨i - pre.length - 1, by omega⟩
          rw [List.getElem?_append_right (by omega)] at hx hx'
          have e2 : pre.length + (j + 1) - pre.length = j + 1 := by omega
          rw [e2] at hx hx'
          simp at hx hx'
          rw [hx] at hx'; exact (Option.some.inj hx').symm
      subst this; exact hr
  obtain ⟨v, hv, hr⟩ := hvs.at pre.length (.v (.c (.sl sz xs))) (by simp)
  have hrc : RC I v (.sl sz xs) := hr
  rcases RC.sl_inv hrc with ⟨A, c, e, hn, h0⟩ | ⟨b, off, c, _, e, _⟩
  · cases A with
    | none =>
      have hc := h0 rfl
      subst hc
      subst hn
      refine (h1 rfl).2 I ι w vs hA (hput fun v' hv' => ?_) hL
      rw [hv] at hv'; cases hv'
      rw [e]; exact RC.nil
    | some A =>
      refine h2.2 I ι w vs hA (hput fun v' hv' => ?_) hL
      rw [hv] at hv'; cases hv'
      exact ⟨hrc, A, _, _, e⟩
  · refine h2.2 I ι w vs hA (hput fun v' hv' => ?_) hL
    rw [hv] at hv'; cases hv'
    exact ⟨hrc, _, _, _, e⟩
/-- A string of one byte. -/
def one1 (s : ByteArray) : Option UInt8 := match s.data.toList with
  | [c] => some c
  | _ => none
theorem one1_e {s : ByteArray} {c : UInt8} (h : one1 s = some c) : s = ⟨#[c]⟩ := by
  unfold one1 at h
  split at h
  · rename_i d hd
    cases h
    cases s with
    | mk a =>
      congr 1
      rw [← Array.toArray_toList (xs := a)]
      simp only at hd
      rw [hd]
  · cases h
end Go.Proofs.Ytajmjfdopminbaa.Sym
