/- Plain facts of no program: slices.DeleteFunc, loops that write each element anew. Conditions: none. -/
import Derived.Test.YtajmjfdopminbaaPld
set_option linter.unusedVariables false
set_option linter.unusedSimpArgs false
namespace Go.Proofs.Ytajmjfdopminbaa.Sym
open Go Go.RowKit

noncomputable def IDXo {α : Type} (a0 : List α) (a1 : α → Option Bool) : Option (Int × List α) :=
 aft0 (forN (ρ := Int × List α) (fun i1 _ => bnd (atI a0 (i1 : Int)) fun x2 =>
 bnd (a1 x2) fun r4 =>
 cnd r4 (some (.ret ((i1 : Int), a0))) (some (.go ()))) (a0.length) 0 ()) (
 some ((-1), a0))
 (fun r8 =>
 some r8)
noncomputable def DELb {α : Type} (a1 : α → Option Bool) (y4 : Int) (y5 : Int) (y6 : List α) : Option (Stp (Int × Int × List α) (List α)) :=
 cnd (decide (y5 < (y6.length : Int))) (bnd (atI y6 y5) fun x8 =>
 bnd (a1 x8) fun r10 =>
 bnd2 (cnd (!r10) (bnd (atI y6 y4) fun x17 =>
 some (w64 (y4 + 1), y6.set (Int.toNat y4) x8)) (some (y4, y6))) fun v12 v13 =>
 some (.go (v12, w64 (y5 + 1), v13))) (some (.brk (y4, y5, y6)))
noncomputable def DEL {α : Type} (z : α) (a0 : List α) (a1 : α → Option Bool) : Option (List α) :=
 bnd (IDXo a0 a1) fun r1 =>
 cnd (r1.1 == (-1)) (some r1.2) (aft3 (loop (fun s => DELb a1 s.1 s.2.1 s.2.2) (r1.1, w64 (r1.1 + 1), r1.2)) (fun u24 u25 u26 =>
 grd ((0 : Int) ≤ u24 ∧ u24 ≤ (u26.length : Int)) <|
 grd ((0 : Int) ≤ (0 : Int) ∧ (0 : Int) ≤ u24 ∧ u24 ≤ ((u26.take (Int.toNat u24) ++ (List.replicate (((u26.length : Int) - u24).toNat) z ++ u26.drop (Int.toNat u24 + ((u26.length : Int) - u24).toNat))).length : Int)) <|
 some ((u26.take (Int.toNat u24) ++ (List.replicate (((u26.length : Int) - u24).toNat) z ++ u26.drop (Int.toNat u24 + ((u26.length : Int) - u24).toNat))).take ((u24 - (0 : Int)).toNat)))
 (fun r28 =>
 some r28))

theorem IDXo_eq {α : Type} {xs : List α} {f : α → Option Bool} {p : α → Bool} (hf : ∀ x ∈ xs, f x = some (p x)) : IDXo xs f = some (ixBy p xs, xs) := by
  unfold IDXo
  have key : ∀ (n i : Nat), i + n = xs.length → (∀ j (hj : j < xs.length), j < i → p xs[j] = false) → aft0 (forN (ρ := Int × List α) (fun i1 _ => bnd (atI xs (i1 : Int)) fun x2 => bnd (f x2) fun r4 => cnd r4 (some (.ret ((i1 : Int), xs))) (some (.go ()))) n i ()) (some ((-1), xs)) (fun r8 => some r8) = some (ixBy p xs, xs) := by
    intro n
    induction n with
    | zero =>
      intro i hi h0
      have hneg : ixBy p xs < 0 := ixBy_neg.2 fun x hx => by
        obtain ⟨j, hj, rfl⟩ := List.mem_iff_getElem.1 hx
        exact h0 j hj (by omega)
      have hge := (ixBy_ge p xs).1
      have : ixBy p xs = -1 := by omega
      rw [this]; rfl
    | succ n ih =>
      intro i hi h0
      have hil : i < xs.length := by omega
      simp only [forN]
      rw [atI_lt hil, bnd_some, hf _ (List.getElem_mem hil), bnd_some]
      cases hp : p xs[i] with
      | true =>
        have hix : ixBy p xs = (i : Int) := by
          rcases Int.lt_or_le (ixBy p xs) 0 with q | q
          · have := ixBy_neg.1 q _ (List.getElem_mem hil)
            rw [hp] at this; cases this
          · obtain ⟨hk, h1, h2⟩ := ixBy_at q
            rcases Nat.lt_trichotomy (ixBy p xs).toNat i with r | r | r
            · have := h0 _ hk r
              rw [h1] at this; cases this
            · omega
            · have := h2 i hil r
              rw [hp] at this; cases this
        rw [hix]; rfl
      | false =>
        simp only [cnd_f]
        exact ih (i + 1) (by omega) fun j hj hji => by
          rcases Nat.lt_or_ge j i with r | r
          · exact h0 j hj r
          · have : j = i := by omega
            subst this; exact hp
  exact key xs.length 0 (Nat.zero_add _) fun j _ h => by omega

theorem DEL_loop {α : Type} {xs : List α} {f : α → Option Bool} {p : α → Bool} (hf : ∀ x ∈ xs, f x = some (p x)) (hl : xs.length ≤ lim) : ∀ (n i j : Nat) (l : List α), j + n = xs.length → i < j → l.length = xs.length → l.take i = (xs.take j).filter (fun x => !p x) → l.drop j = xs.drop j →
    ∃ (i' : Nat) (l' : List α), iter (fun s : Int × Int × List α => DELb f s.1 s.2.1 s.2.2) (n + 1) ((i : Int), (j : Int), l) = some (.fin ((i' : Int), (xs.length : Int), l')) ∧ i' ≤ xs.length ∧ l'.length = xs.length ∧ l'.take i' = xs.filter (fun x => !p x)
  | 0, i, j, l, hj, hij, hll, ht, hd => by
    refine ⟨i, l, ?_, by omega, hll, ?_⟩
    · have hb : DELb f (i : Int) (j : Int) l = some (.brk ((i : Int), (j : Int), l)) := by
        unfold DELb
        rw [decide_eq_false (by omega), cnd_f]
      have e : (xs.length : Int) = (j : Int) := by omega
      rw [iter, e]
      simp only [hb]
    · rw [ht, List.take_of_length_le (by omega)]
  | n + 1, i, j, l, hj, hij, hll, ht, hd => by
    have hlim : lim = 1099511627776 := rfl
    have hjx : j < xs.length := by omega
    have hjl : j < l.length := by omega
    have hil : i < l.length := by omega
    have hlj : l[j] = xs[j] := by
      have e1 : (l.drop j)[0]? = (xs.drop j)[0]? := by rw [hd]
      rw [List.getElem?_drop, List.getElem?_drop, Nat.add_zero, List.getElem?_eq_getElem hjl, List.getElem?_eq_getElem hjx] at e1
      exact Option.some.inj e1
    have htk : (xs.take (j + 1)).filter (fun x => !p x) = (xs.take j).filter (fun x => !p x) ++ if p xs[j] then [] else [xs[j]] := by
      rw [List.take_succ_eq_append_getElem hjx, List.filter_append]
      cases hp : p xs[j] <;> simp [hp]
    have hdr : ∀ {m : List α}, m.drop j = xs.drop j → m.drop (j + 1) = xs.drop (j + 1) := fun h => by
      have := congrArg (List.drop 1) h
      simpa [List.drop_drop, Nat.add_comm] using this
    have e1 : w64 ((j : Int) + 1) = ((j + 1 : Nat) : Int) := by rw [w64_id (by omega) (by omega)]; omega
    have e2 : w64 ((i : Int) + 1) = ((i + 1 : Nat) : Int) := by rw [w64_id (by omega) (by omega)]; omega
    cases hp : p xs[j] with
    | true =>
      have hb : DELb f (i : Int) (j : Int) l = some (.go ((i : Int), ((j + 1 : Nat) : Int), l)) := by
        unfold DELb
        rw [decide_eq_true (by omega), cnd_t, atI_lt hjl, bnd_some, hlj, hf _ (List.getElem_mem hjx), bnd_some, hp, show (!true) = false from rfl, cnd_f, bnd2_some, e1]
      rw [hp, if_pos rfl, List.append_nil] at htk
      obtain ⟨i', l', k1, k2⟩ := DEL_loop hf hl n i (j + 1) l (by omega) (by omega) hll (ht.trans htk.symm) (hdr hd)
      refine ⟨i', l', ?_, k2⟩
      rw [iter]
      simp only [hb]
      exact k1
    | false =>
      have hb : DELb f (i : Int) (j : Int) l = some (.go (((i + 1 : Nat) : Int), ((j + 1 : Nat) : Int), l.set i xs[j])) := by
        unfold DELb
        rw [decide_eq_true (by omega), cnd_t, atI_lt hjl, bnd_some, hlj, hf _ (List.getElem_mem hjx), bnd_some, hp, show (!false) = true from rfl, cnd_t, atI_lt hil, bnd_some, bnd2_some, e1, e2, show Int.toNat (i : Int) = i by simp]
      rw [hp, if_neg (by simp)] at htk
      obtain ⟨i', l', k1, k2⟩ := DEL_loop hf hl n (i + 1) (j + 1) (l.set i xs[j]) (by omega) (by omega) (by simpa using hll) (by
        rw [htk, ← ht, List.take_succ_eq_append_getElem (by simpa using hil), List.getElem_set_self, List.take_set_of_le (Nat.le_refl _)]) (by
        rw [List.drop_set_of_lt (by omega)]
        exact hdr hd)
      refine ⟨i', l', ?_, k2⟩
      rw [iter]
      simp only [hb]
      exact k1
theorem DEL_eq {α : Type} (z : α) {xs : List α} {f : α → Option Bool} {p : α → Bool} (hf : ∀ x ∈ xs, f x = some (p x)) (hl : xs.length ≤ lim) : DEL z xs f = some (xs.filter fun x => !p x) := by
  have hlim : lim = 1099511627776 := rfl
  unfold DEL
  rw [IDXo_eq hf, bnd_some]
  simp only
  rcases Int.lt_or_le (ixBy p xs) 0 with q | q
  · have hge := (ixBy_ge p xs).1
    have e : ixBy p xs = -1 := by omega
    rw [e, show (((-1 : Int)) == (-1)) = true from rfl, cnd_t]
    congr 1
    refine (List.filter_eq_self.2 fun x hx => ?_).symm
    rw [ixBy_neg.1 q x hx]; rfl
  · obtain ⟨hk, h1, h2⟩ := ixBy_at q
    have hne : (ixBy p xs == -1) = false := by rw [beq_eq_false_iff_ne]; omega
    rw [hne, cnd_f]
    generalize hi : (ixBy p xs).toNat = i at hk h1 h2
    have e0 : ixBy p xs = (i : Int) := by omega
    have e1 : w64 ((i : Int) + 1) = ((i + 1 : Nat) : Int) := by rw [w64_id (by omega) (by omega)]; omega
    rw [e0, e1]
    have hft : (xs.take i).filter (fun x => !p x) = xs.take i := List.filter_eq_self.2 fun x hx => by
      obtain ⟨j, hj, rfl⟩ := List.mem_iff_getElem.1 hx
      rw [List.length_take] at hj
      rw [List.getElem_take, h2 j (by omega) (by omega)]; rfl
    obtain ⟨i', l', k1, k2, k3, k4⟩ := DEL_loop hf hl (xs.length - (i + 1)) i (i + 1) xs (by omega) (by omega) rfl (by
      rw [List.take_succ_eq_append_getElem hk, List.filter_append, hft]
      simp [h1]) rfl
    rw [loop_i k1, aft3_fin, grd_pos ⟨by omega, by omega⟩]
    have hlen : (l'.take (Int.toNat (i' : Int)) ++ (List.replicate (((l'.length : Int) - (i' : Int)).toNat) z ++ l'.drop (Int.toNat (i' : Int) + ((l'.length : Int) - (i' : Int)).toNat))).length = xs.length := by
      simp only [List.length_append, List.length_take, List.length_replicate, List.length_drop]
      omega
    rw [hlen, grd_pos ⟨by omega, by omega, by omega⟩]
    congr 1
    have ht : Int.toNat (i' : Int) = i' := by simp
    have ht2 : ((i' : Int) - (0 : Int)).toNat = i' := by omega
    rw [ht, ht2, ← k4, List.take_append_of_le_length (by rw [List.length_take]; omega), List.take_take, Nat.min_self]

/-- Each element is written anew. -/
theorem forN_upd {α ρ : Type} {xs : List α} {g : α → α} {b : Nat → List α → Option (Stp (List α) ρ)} (h : ∀ j (hj : j < xs.length) (s : List α) (hs : s.length = xs.length) (e : s[j] = xs[j]), b j s = some (.go (s.set j (g xs[j])))) :
    forN b xs.length 0 xs = some (.fin (xs.map g)) := by
  obtain ⟨s', h1, h2, h3⟩ := forN_go (b := b) (N := xs.length) (fun j s => s.length = xs.length ∧ ∀ i, s[i]? = if i < j then (xs[i]?).map g else xs[i]?) (fun j s hj hR => by
    obtain ⟨r1, r2⟩ := hR
    have e : s[j] = xs[j] := by
      have := r2 j
      rw [if_neg (Nat.lt_irrefl _), List.getElem?_eq_getElem (by omega), List.getElem?_eq_getElem hj] at this
      exact Option.some.inj this
    refine ⟨_, h j hj s r1 e, by simpa using r1, fun i => ?_⟩
    by_cases hij : j = i
    · subst hij
      rw [List.getElem?_set_self (by omega), if_pos (Nat.lt_succ_self _), List.getElem?_eq_getElem hj]; rfl
    · rw [List.getElem?_set_ne hij, r2 i]
      by_cases hlt : i < j
      · rw [if_pos hlt, if_pos (by omega)]
      · rw [if_neg hlt, if_neg (by omega)]) xs.length 0 xs (Nat.zero_add _) ⟨rfl, fun i => by simp⟩
  rw [h1]
  congr 2
  refine List.ext_getElem? fun i => ?_
  rw [h3 i, List.getElem?_map]
  by_cases hi : i < xs.length
  · rw [if_pos hi]
  · rw [if_neg hi, List.getElem?_eq_none (by omega)]; rfl
end Go.Proofs.Ytajmjfdopminbaa.Sym
