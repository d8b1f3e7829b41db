/- Plain facts of no program: slices.Grow at nil, slices.Concat, loops that append to two and to three slices. Conditions: none. -/
import Derived.Test.YtlbndchfmdogeaaGreatDoorPld
set_option linter.unusedVariables false
set_option linter.unusedSimpArgs false
namespace Go.Proofs.YtlbndchfmdogeaaGreatDoor.Sym
open Go Go.RowKit

noncomputable def GROW {α : Type} (z : α) (a1 : Int) : Option (List α) :=
 bnd0 (cnd (decide (a1 < 0)) (none) (some ())) <|
 bnd1 (cnd (decide ((w64 (a1 - (w64 (0 - 0)))) > 0)) (grd (0 = (0 : Int) ∧ 0 = (0 : Int)) <|
 grd ((0 : Int) ≤ w64 (a1 - (w64 (0 - 0))) ∧ w64 (a1 - (w64 (0 - 0))) ≤ (lim : Int)) <|
 grd ((0 : Int) ≤ (0 : Int) ∧ (0 : Int) ≤ (0 : Int) ∧ (0 : Int) ≤ ((List.replicate (Int.toNat (w64 (a1 - (w64 (0 - 0))))) z).length : Int)) <|
 some ((List.replicate (Int.toNat (w64 (a1 - (w64 (0 - 0))))) z).take (((0 : Int) - (0 : Int)).toNat))) (some [])) fun v5 =>
 some v5
noncomputable def CONCAT {α : Type} (z : α) (a0 : List (List α)) : Option (List α) :=
 aft1 (forN (ρ := List α) (fun i1 y2 => bnd (atI a0 (i1 : Int)) fun x3 =>
   bnd0 (cnd (decide ((w64 (y2 + (x3.length : Int))) < 0)) (none) (some ())) <|
   some (.go (w64 (y2 + (x3.length : Int))))) (a0.length) 0 0) (fun u9 =>
 bnd (GROW z u9) fun r12 =>
 aft1 (forN (ρ := List α) (fun i14 y15 => bnd (atI a0 (i14 : Int)) fun x16 =>
   grd (y15.length + x16.length ≤ lim) <|
   some (.go (y15 ++ x16))) (a0.length) 0 r12) (fun u19 =>
 some u19)
 (fun r21 =>
 some r21))
 (fun r11 =>
 some r11)
theorem GROW_eq {α : Type} (z : α) {n : Int} (h0 : 0 ≤ n) (h : n ≤ (lim : Int)) : GROW z n = some [] := by
  have hlim : lim = 1099511627776 := rfl
  have e0 : w64 (0 - 0) = 0 := w64_id (by omega) (by omega)
  have e1 : w64 (n - 0) = n := by rw [Int.sub_zero]; exact w64_id (by omega) (by omega)
  unfold GROW
  rw [decide_eq_false (by omega), cnd_f, bnd0_some, e0, e1]
  by_cases hn : n > 0
  · rw [decide_eq_true hn, cnd_t, grd_pos ⟨rfl, rfl⟩, grd_pos ⟨h0, h⟩, grd_pos ⟨by omega, by omega, by omega⟩]
    rfl
  · rw [decide_eq_false hn]; rfl
theorem take_flat_len {α : Type} (xss : List (List α)) (j : Nat) : (xss.take j).flatten.length ≤ xss.flatten.length := by
  conv => rhs; rw [← List.take_append_drop j xss]
  rw [List.flatten_append, List.length_append]; omega
theorem CONCAT_eq {α : Type} (z : α) {xss : List (List α)} (h : xss.flatten.length ≤ lim) : CONCAT z xss = some xss.flatten := by
  have hlim : lim = 1099511627776 := rfl
  unfold CONCAT
  obtain ⟨s, h1, h2⟩ := forN_go (ρ := List α) (b := fun i1 y2 => bnd (atI xss (i1 : Int)) fun x3 => bnd0 (cnd (decide ((w64 (y2 + (x3.length : Int))) < 0)) (none) (some ())) <| some (.go (w64 (y2 + (x3.length : Int))))) (N := xss.length)
    (fun j s => s = ((xss.take j).flatten.length : Int)) (fun j s hj hR => by
      have hb := take_flat_len xss (j + 1)
      rw [List.take_succ_eq_append_getElem hj] at hb ⊢
      simp only [List.flatten_append, List.flatten_cons, List.flatten_nil, List.append_nil, List.length_append] at hb ⊢
      have e : w64 (s + (xss[j].length : Int)) = s + (xss[j].length : Int) := w64_id (by omega) (by omega)
      refine ⟨s + (xss[j].length : Int), ?_, by omega⟩
      rw [atI_lt hj, bnd_some, e, decide_eq_false (by omega), cnd_f, bnd0_some]) xss.length 0 0 (Nat.zero_add _) (by simp)
  rw [h1, aft1_fin]
  rw [List.take_of_length_le (Nat.le_refl _)] at h2
  rw [GROW_eq z (by omega) (by omega), bnd_some]
  obtain ⟨s', h3, h4⟩ := forN_go (ρ := List α) (b := fun i14 y15 => bnd (atI xss (i14 : Int)) fun x16 => grd (y15.length + x16.length ≤ lim) <| some (.go (y15 ++ x16))) (N := xss.length)
    (fun j s => s = (xss.take j).flatten) (fun j s hj hR => by
      have hb := take_flat_len xss (j + 1)
      rw [List.take_succ_eq_append_getElem hj] at hb ⊢
      simp only [List.flatten_append, List.flatten_cons, List.flatten_nil, List.append_nil, List.length_append] at hb ⊢
      refine ⟨s ++ xss[j], ?_, by rw [hR]⟩
      rw [atI_lt hj, bnd_some, grd_pos (by rw [hR]; omega)]) xss.length 0 [] (Nat.zero_add _) (by simp)
  rw [h3, aft1_fin, h4, List.take_of_length_le (Nat.le_refl _)]

/-- Loops that append to two, to three slices. -/
theorem forN_app2 {α β γ ρ : Type} {xs : List α} {f : α → List β} {g : α → List γ} {b : Nat → List β × List γ → Option (Stp (List β × List γ) ρ)} (L M : Nat)
    (h : ∀ j (hj : j < xs.length) (l : List β) (m : List γ), l.length ≤ L + ((xs.take j).flatMap f).length → m.length ≤ M + ((xs.take j).flatMap g).length → b j (l, m) = some (.go (l ++ f xs[j], m ++ g xs[j]))) {l : List β} {m : List γ} (hl : l.length ≤ L) (hm : m.length ≤ M) :
    forN b xs.length 0 (l, m) = some (.fin (l ++ xs.flatMap f, m ++ xs.flatMap g)) := by
  obtain ⟨s', h1, h2⟩ := forN_go (b := b) (N := xs.length) (fun j s => s = (l ++ (xs.take j).flatMap f, m ++ (xs.take j).flatMap g)) (fun j s hj hR => by
    subst hR
    refine ⟨_, h j hj _ _ (by rw [List.length_append]; omega) (by rw [List.length_append]; omega), ?_⟩
    rw [List.take_succ_eq_append_getElem hj]
    simp only [List.flatMap_append, List.flatMap_cons, List.flatMap_nil, List.append_nil, List.append_assoc]) xs.length 0 (l, m) (Nat.zero_add _) (by simp)
  rw [h1, h2]; simp
theorem forN_app3 {α β γ δ ρ : Type} {xs : List α} {f : α → List β} {g : α → List γ} {k : α → List δ} {b : Nat → List β × List γ × List δ → Option (Stp (List β × List γ × List δ) ρ)}
    (h : ∀ j (hj : j < xs.length) (l : List β) (m : List γ) (n : List δ), l.length ≤ ((xs.take j).flatMap f).length → m.length ≤ ((xs.take j).flatMap g).length → n.length ≤ ((xs.take j).flatMap k).length → b j (l, m, n) = some (.go (l ++ f xs[j], m ++ g xs[j], n ++ k xs[j]))) :
    forN b xs.length 0 ([], [], []) = some (.fin (xs.flatMap f, xs.flatMap g, xs.flatMap k)) := by
  obtain ⟨s', h1, h2⟩ := forN_go (b := b) (N := xs.length) (fun j s => s = ((xs.take j).flatMap f, (xs.take j).flatMap g, (xs.take j).flatMap k)) (fun j s hj hR => by
    subst hR
    refine ⟨_, h j hj _ _ _ (Nat.le_refl _) (Nat.le_refl _) (Nat.le_refl _), ?_⟩
    rw [List.take_succ_eq_append_getElem hj]
    simp only [List.flatMap_append, List.flatMap_cons, List.flatMap_nil, List.append_nil]) xs.length 0 ([], [], []) (Nat.zero_add _) (by simp)
  rw [h1, h2]; simp
theorem flatMap_len {α β : Type} (f : α → List β) (B : Nat) (h : ∀ x, (f x).length ≤ B) : ∀ (l : List α), (l.flatMap f).length ≤ l.length * B
  | [] => by simp
  | x :: l => by
    have := flatMap_len f B h l
    have := h x
    simp only [List.flatMap_cons, List.length_append, List.length_cons, Nat.succ_mul]
    omega
theorem flatMap_take_len {α β : Type} (f : α → List β) (B N : Nat) (h : ∀ x, (f x).length ≤ B) {l : List α} (hl : l.length ≤ N) (j : Nat) : ((l.take j).flatMap f).length ≤ N * B := by
  have h1 := flatMap_len f B h (l.take j)
  have h2 : (l.take j).length ≤ N := by rw [List.length_take]; omega
  exact Nat.le_trans h1 (Nat.mul_le_mul_right _ h2)
end Go.Proofs.YtlbndchfmdogeaaGreatDoor.Sym
