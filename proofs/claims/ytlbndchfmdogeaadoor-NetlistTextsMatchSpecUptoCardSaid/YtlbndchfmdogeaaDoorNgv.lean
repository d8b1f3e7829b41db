/- Plain facts on chapter 2's Read: lines, the program's side. Conditions: none. -/
import Derived.Test.YtlbndchfmdogeaaDoorNgb
set_option linter.unusedVariables false
set_option linter.unusedSimpArgs false
namespace Go.Proofs.YtlbndchfmdogeaaDoor.Sym
open Go Go.RowKit

def pinW (w : ByteArray) : Option Pin := if (cutF 46 w).2.2 && (plainW (cutF 46 w).1 && plainW (cutF 46 w).2.1) then some ⟨(cutF 46 w).1, (cutF 46 w).2.1⟩ else none
def pinsW : List ByteArray → List Pin → Option (List Pin)
  | [], acc => some acc
  | w :: ws, acc => match pinW w with
    | some p => pinsW ws (acc ++ [p])
    | none => none
theorem pins_loop {ρ : Type} {b : Nat → List Pin → Option (Stp (List Pin) ρ)} {l : List ByteArray} (R : List Pin → ρ)
    (h : ∀ j y (hj : j < l.length), y.length ≤ j → b j y = some (match pinW l[j] with | some p => .go (y ++ [p]) | none => .ret (R y))) :
    ∀ n i y, i + n = l.length → y.length ≤ i → (∃ ps, pinsW (l.drop i) y = some ps ∧ forN b n i y = some (.fin ps)) ∨ (pinsW (l.drop i) y = none ∧ ∃ y', forN b n i y = some (.ret (R y')))
  | 0, i, y, hi, hy => by
    rw [List.drop_of_length_le (by omega)]
    exact .inl ⟨y, rfl, rfl⟩
  | n + 1, i, y, hi, hy => by
    have hil : i < l.length := by omega
    rw [List.drop_eq_getElem_cons hil]
    simp only [pinsW, forN, h i y hil hy]
    cases hp : pinW l[i] with
    | none => exact .inr ⟨rfl, y, rfl⟩
    | some p => exact pins_loop R h n (i + 1) (y ++ [p]) (by omega) (by simp; omega)
theorem pins_body {y : List Pin} {w : ByteArray} (hw : w.size < lim) (hy : y.length + 1 ≤ lim) {ρ : Type} (r : ρ) :
    (bnd (strings_Cut w (⟨#[46]⟩ : ByteArray)) fun r45 => bnd1 (cnd (!r45.2.2) (some true) (bnd (nl_isPlain r45.1) fun r51 => cnd (!r51) (some true) (bnd (nl_isPlain r45.2.1) fun r54 => some (!r54)))) fun v47 =>
      cnd v47 (some (.ret r)) (grd (y.length + [(⟨r45.1, r45.2.1⟩ : Pin)].length ≤ lim) <| some (Stp.go (y ++ [(⟨r45.1, r45.2.1⟩ : Pin)])))) = some (match pinW w with | some p => .go (y ++ [p]) | none => .ret r) := by
  rw [cut_eq1 hw, bnd_some]
  unfold pinW
  generalize cutF 46 w = k
  simp only [nl_word_text, bnd_some]
  cases k.2.2 <;> cases plainW k.1 <;> cases plainW k.2.1 <;> first | rfl | (simp only [Bool.not_true, cnd_f, bnd1_some, Bool.and_true, Bool.and_self, if_true]; rw [grd_pos (by simpa using hy)])
theorem nl_text_eq : nl_isPlain = ref_isListWord := by
  funext s
  rw [nl_word_text, ref_word_text]
abbrev sPart : ByteArray := ⟨#[112, 97, 114, 116]⟩
abbrev sNet : ByteArray := ⟨#[110, 101, 116]⟩
/-- The words of a line. -/
noncomputable def lineWs (s : ByteArray) : List ByteArray := (strings_Split s (⟨#[32]⟩ : ByteArray)).getD []
def lineK (parts : List Part) (nets : List Net) (l : List ByteArray) : Option (List Part × List Net) :=
  if l.head? = some sPart ∧ l.length = 3 ∧ nets = [] then
    (match l with
     | [_, a, b] => if plainW a && plainW b then some (parts ++ [⟨a, b⟩], nets) else none
     | _ => none)
  else if l.head? = some sNet ∧ 2 ≤ l.length then
    (match l with
     | _ :: a :: r => match pinsW r [] with
       | some ps => if plainW a then some (parts, nets ++ [⟨a, ps, []⟩]) else none
       | none => none
     | _ => none)
  else none
theorem atI_cons0 {α : Type} (x : α) (l : List α) : atI (x :: l) 0 = some x := by unfold atI; simp
theorem atI_cons1 {α : Type} (x y : α) (l : List α) : atI (x :: y :: l) 1 = some y := by unfold atI; simp
theorem atI_cons2 {α : Type} (x y z : α) (l : List α) : atI (x :: y :: z :: l) 2 = some z := by unfold atI; simp

theorem nl_line_eq {p : List Part} {n : List Net} {s : ByteArray} (hs : s.size + 3 ≤ lim) (hp : p.length + 1 ≤ lim) (hn : n.length + 1 ≤ lim) :
    ∃ q, nl_readLine ⟨p, n⟩ s = some q ∧ (match lineK p n (lineWs s) with | some (a, b) => q = (true, ⟨a, b⟩) | none => q.1 = false) := by
  obtain ⟨l, h1, h2, h3, h4⟩ := split_some' (a := s) (s := ⟨#[32]⟩) (c := 32) rfl (by omega)
  have hl : lineWs s = l := by unfold lineWs; rw [h1]; rfl
  rw [hl]
  unfold nl_readLine
  rw [h1, bnd_some]
  cases l with
  | nil => exact (h3 rfl).elim
  | cons w0 l =>
  simp only [atI_cons0, bnd_some, sEq_iff]
  unfold lineK
  simp only [List.head?_cons, Option.some.injEq]
  by_cases c1 : w0 = sPart ∧ (w0 :: l).length = 3 ∧ n = []
  · rw [if_pos c1]
    obtain ⟨c2, c3, c4⟩ := c1
    obtain ⟨a, b, rfl⟩ : ∃ a b, l = [a, b] := by
      match l, c3 with
      | [a, b], _ => exact ⟨a, b, rfl⟩
    subst c4
    rw [decide_eq_true c2, cnd_t]
    have e3 : (((w0 :: [a, b] : List ByteArray).length : Int) == 3) = true := rfl
    rw [e3, cnd_t]
    have e0 : ((([] : List Net).length : Int) == 0) = true := rfl
    rw [e0, bnd1_some, cnd_t]
    simp only [atI_cons1, atI_cons2, bnd_some, nl_word_text]
    rw [grd_pos (by simpa using hp)]
    cases plainW a <;> cases plainW b <;> exact ⟨_, rfl, rfl⟩
  · rw [if_neg c1]
    have e1 : bnd1 (cnd (decide (w0 = sPart)) (cnd (((w0 :: l).length : Int) == 3) (some ((n.length : Int) == 0)) (some false)) (some false)) = bnd1 (ω := Bool × Netlist) (some false) := by
      by_cases d1 : w0 = sPart
      · rw [decide_eq_true d1, cnd_t]
        by_cases d2 : (w0 :: l).length = 3
        · have e3 : (((w0 :: l).length : Int) == 3) = true := by rw [d2]; rfl
          rw [e3, cnd_t]
          have d3 : ¬ n = [] := fun e => c1 ⟨d1, d2, e⟩
          have e4 : ((n.length : Int) == 0) = false := by
            have : n.length ≠ 0 := fun e => d3 (List.eq_nil_of_length_eq_zero e)
            simp [this]
          rw [e4]
        · have e3 : (((w0 :: l).length : Int) == 3) = false := by
            rw [beq_eq_false_iff_ne]; omega
          rw [e3, cnd_f]
      · rw [decide_eq_false d1, cnd_f]
    rw [e1, bnd1_some, cnd_f]
    by_cases c2 : w0 = sNet ∧ 2 ≤ (w0 :: l).length
    · rw [if_pos c2]
      obtain ⟨d1, d2⟩ := c2
      obtain ⟨a, r, rfl⟩ : ∃ a r, l = a :: r := by
        cases l with
        | nil => simp at d2
        | cons a r => exact ⟨a, r, rfl⟩
      rw [decide_eq_true d1, cnd_t, decide_eq_true (by simp only [ge_iff_le]; omega), bnd1_some, cnd_t]
      simp only [atI_cons1, bnd_some]
      rw [grd_pos (by omega)]
      have hd : (w0 :: a :: r).drop (Int.toNat 2) = r := rfl
      rw [hd]
      have hloop := pins_loop (b := fun i41 s => nl_readLine_b0 ⟨p, n⟩ (w0 :: a :: r) a i41 s) (l := r) (fun _ => (false, (⟨p, n⟩ : Netlist))) (fun j y hj hy => by
        unfold nl_readLine_b0
        rw [hd, atI_lt hj, bnd_some]
        have hw := h4 r[j] (List.mem_cons_of_mem _ (List.mem_cons_of_mem _ (List.getElem_mem hj)))
        simp only [List.length_cons] at h2
        exact pins_body (by omega) (by omega) _) r.length 0 [] (Nat.zero_add _) (Nat.zero_le _)
      rw [List.drop_zero] at hloop
      rcases hloop with ⟨ps, k1, k2⟩ | ⟨k1, y', k2⟩
      · simp only [k1]
        rw [k2, aft1_fin, grd_pos (by simpa using hn), nl_word_text, bnd_some]
        cases plainW a <;> exact ⟨_, rfl, rfl⟩
      · simp only [k1]
        rw [k2, aft1_ret]
        exact ⟨_, rfl, rfl⟩
    · rw [if_neg c2]
      have e2 : bnd1 (cnd (decide (w0 = sNet)) (some (decide (((w0 :: l).length : Int) ≥ 2))) (some false)) = bnd1 (ω := Bool × Netlist) (some false) := by
        by_cases d1 : w0 = sNet
        · rw [decide_eq_true d1, cnd_t, decide_eq_false (fun q => c2 ⟨d1, by simp only [ge_iff_le] at q; omega⟩)]
        · rw [decide_eq_false d1, cnd_f]
      rw [e2, bnd1_some, cnd_f]
      exact ⟨_, rfl, rfl⟩

noncomputable def stepF (y2 : ByteArray) (y3 : Int) (y4 : List Part) (y5 : List Net) : Stp (ByteArray × Int × List Part × List Net) (Netlist × Int × Int) :=
  if y2 = ⟨#[]⟩ then .brk (y2, y3, y4, y5) else
  match (cutF 10 y2).2.2, lineK y4 y5 (lineWs (cutF 10 y2).1) with
  | true, some (a, b) => .go ((cutF 10 y2).2.1, w64 (y3 + 1), a, b)
  | _, _ => .ret (⟨[], []⟩, y3, 10)

theorem nl_step {y2 : ByteArray} {y3 : Int} {y4 : List Part} {y5 : List Net} (hs : y2.size + 3 ≤ lim) (hp : y4.length + 1 ≤ lim) (hn : y5.length + 1 ≤ lim) : nl_Read_b0 y2 y3 y4 y5 = some (stepF y2 y3 y4 y5) := by
  unfold nl_Read_b0 stepF
  rw [sNe_iff]
  by_cases h0 : y2 = ⟨#[]⟩
  · rw [decide_eq_false (fun q => q h0), cnd_f, if_pos h0]
  · rw [decide_eq_true h0, cnd_t, if_neg h0, cut_eq1 (by omega), bnd_some]
    have hc := (cutF_size (c := 10) (a := y2)).1
    generalize cutF 10 y2 = k at hc
    cases hk : k.2.2 with
    | false => rfl
    | true =>
      simp only [Bool.not_true, cnd_f]
      obtain ⟨q, h1, h2⟩ := nl_line_eq (p := y4) (n := y5) (s := k.1) (by omega) hp hn
      rw [h1, bnd_some]
      cases hl : lineK y4 y5 (lineWs k.1) with
      | none =>
        rw [hl] at h2
        simp only at h2
        rw [h2]; rfl
      | some ab =>
        obtain ⟨a, b⟩ := ab
        rw [hl] at h2
        simp only at h2
        subst h2; rfl

end Go.Proofs.YtlbndchfmdogeaaDoor.Sym
