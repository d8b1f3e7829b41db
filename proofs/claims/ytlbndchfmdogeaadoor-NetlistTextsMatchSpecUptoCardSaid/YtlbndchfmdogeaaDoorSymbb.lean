/- Sym: contracts of strings.Builder, as specs of a lent variable that holds nil or a pointer to itself and own bytes. Conditions: none. -/
import Derived.Test.YtlbndchfmdogeaaDoorSymw
import Derived.Below
set_option linter.unusedVariables false
set_option linter.unusedSimpArgs false
namespace Go.Proofs.YtlbndchfmdogeaaDoor.Sym
open Go Go.RowKit

theorem strE_append (a b : ByteArray) : strE (a ++ b) = strE a ++ strE b := by
  unfold strE
  rw [← List.map_append]
  congr 1
theorem strE_len (a : ByteArray) : (strE a).length = a.size := by
  unfold strE
  rw [List.length_map, Array.length_toList]; rfl
theorem strE_app {a b : ByteArray} (h : a.size + b.size ≤ lim) : strE (a ++ b) = strE a ++ strE b ∧ (strE a).length + b.size ≤ lim := ⟨strE_append a b, by rw [strE_len]; exact h⟩
theorem strE_pos {a : ByteArray} (h : a.size ≠ 0) : 0 < (strE a).length := by rw [strE_len]; omega
theorem strE_leni (a : ByteArray) : (Sym.iA ((strE a).length : Int)) = Sym.iA (a.size : Int) := by rw [strE_len]

/-- The lent builder: its variable and its bytes. -/
abbrev bldH (t te : Nat) (xs : List El) : Hp := [(0, .cells t [.sp 0, .rt 1]), (1, .row te 1 xs)]
theorem bldH_get {t te : Nat} {xs : List El} {id : Nat} {ob : Ob} (h : getO (bldH t te xs) id = some ob) : (id = 0 ∧ ob = .cells t [.sp 0, .rt 1]) ∨ (id = 1 ∧ ob = .row te 1 xs) := by
  match id, h with
  | 0, h => exact .inl ⟨rfl, (Option.some.inj h).symm⟩
  | 1, h => exact .inr ⟨rfl, (Option.some.inj h).symm⟩
  | n + 2, h => cases h
/-- What is lent lies so. -/
theorem bldH_lies {I : Im} {ι : Lo} {w : World} {t te : Nat} {xs : List El} (hL : Lent I ι w (bldH t te xs)) : ∃ B p, ι 0 = .pointer (some ⟨B, 0, none⟩) ∧ w.heap[B]? = some (.cells #[p, ι 1] t (0, 0)) ∧ (p = .pointer none ∨ p = .pointer (some ⟨B, 0, none⟩)) ∧ p.oneCell' = true ∧ (ι 1).oneCell' = true ∧ B < w.heap.size ∧ (∀ o, I B o = none) ∧ blockOf (ι 1) ≠ some B := by
  obtain ⟨B, vs, h1, h2, h3⟩ := hL.obj 0 _ rfl
  obtain ⟨h4, h5⟩ := hL.own 0 _ rfl B (.inl (by rw [h1]; rfl))
  cases h3 with
  | cons k1 k2 =>
  cases k2 with
  | cons k3 k4 =>
  cases k4
  rename_i p s
  obtain ⟨k5, k6⟩ := k1
  obtain ⟨⟨rfl, k8⟩, _⟩ := k3
  refine ⟨B, p, h1, h2, ?_, k6, k8, h4, h5, fun e => ?_⟩
  · rcases k5 with rfl | ⟨B', h6, rfl⟩
    · exact .inl rfl
    · rw [h1] at h6; cases h6; exact .inr rfl
  · have := hL.inj 0 1 _ _ rfl rfl B (.inl (by rw [h1]; rfl)) (.inl e)
    cases this

/-- copyCheck: the builder is as it was, or knows itself. -/
theorem Spec.copyCheck {P : Program} {f t te : Nat} (hc : callable P f)
    (hf : ∀ (b : Nat) (w : World), w.cell? ⟨b, 0, none⟩ = some (.pointer none) → w.shape? b = some (t, 2) → w.frozen? ⟨b, 0, none⟩ = false →
      Calls P f #[.pointer (some ⟨b, 0, none⟩)] w fun e w' => e = .returned (.tuple #[]) ∧ w' = w.setCell ⟨b, 0, none⟩ (.pointer (some ⟨b, 0, none⟩)))
    (hu : ∀ (b : Nat) (w : World), w.cell? ⟨b, 0, none⟩ = some (.pointer (some ⟨b, 0, none⟩)) → Calls P f #[.pointer (some ⟨b, 0, none⟩)] w fun e w' => e = .returned (.tuple #[]) ∧ w' = w)
    (xs : List El) : Spec P f [.v (.ptr 0 0)] (bldH t te xs) (.tup []) (bldH t te xs) := by
  refine ⟨hc, fun I ι w vs hA hvs hL => ?_⟩
  cases hvs with
  | cons hv ht =>
  cases ht
  rename_i v
  obtain ⟨B, p, h1, h2, h3, h4, h5, h6, h7, h8⟩ := bldH_lies hL
  obtain ⟨B', h9, rfl⟩ := hv
  rw [h1] at h9; cases h9
  have hcell : w.cell? ⟨B, 0, none⟩ = some p := by simp [World.cell?, h2]
  show Calls P f #[.pointer (some ⟨B, 0, none⟩)] w _
  rcases h3 with rfl | rfl
  · refine (hf B w hcell (by simp [World.shape?, h2]) (by simp [World.frozen?, h2])).mono fun e' w' ⟨q1, q2⟩ => ?_
    have hother : ∀ k, k ≠ B → w'.heap[k]? = w.heap[k]? := fun k hk => by
      rw [q2]; simp [World.setCell, Array.getElem?_modify, Ne.symm hk]
    have hnew : w'.heap[B]? = some (.cells #[.pointer (some ⟨B, 0, none⟩), ι 1] t (0, 0)) := by
      rw [q2]; simp [World.setCell, Array.getElem?_modify, h2]
    have hsz : w'.heap.size = w.heap.size := by rw [q2]; simp [World.setCell]
    have hLB : LB w ι (bldH t te xs) B := ⟨0, _, rfl, .inl (by rw [h1]; rfl)⟩
    have hrow := hL.obj 1 _ rfl
    have hmove : ∀ B', blockOf (ι 1) = some B' → w'.heap[B']? = w.heap[B']? := fun B' hB' => hother B' fun e => h8 (by rw [hB', e])
    have howns0 : ∀ B', owns w' (ι 0) (.cells t [.sp 0, .rt 1]) B' → B' = B := fun B' hB' => by
      have := owns_flat rfl hB'
      rw [h1] at this; cases this; rfl
    refine ⟨.tuple #[], I, ι, q1, ⟨⟨by rw [q2]; rfl, by rw [q2]; rfl, by rw [q2]; rfl, by rw [hsz]; exact Nat.le_refl _, fun k hk hn => hother k fun e => hn (by rw [e]; exact hLB)⟩, Im.le_refl _, fun b o v hb => .inl hb, fun b o v hb => ?_⟩, ⟨[], rfl, .nil⟩, fun _ _ _ => rfl, ⟨fun id ob hg => ?_, fun id ob hg B' hB' => ?_, fun id id' ob ob' hg hg' B' hB hB' => ?_⟩, fun id ob B' hg hB' => ?_⟩
    · have hne : b ≠ B := fun e => by rw [e, h7] at hb; cases hb
      rw [cell_cong (hother b hne)]; exact hA b o v hb
    · rcases bldH_get hg with ⟨rfl, rfl⟩ | ⟨rfl, rfl⟩
      · exact ⟨B, _, h1, hnew, .cons ⟨.inr ⟨B, h1, rfl⟩, rfl⟩ (.cons ⟨⟨rfl, h5⟩, h5⟩ .nil)⟩
      · exact RRow.cong (v := ι 1) hrow (Im.le_refl _) hmove
    · rcases bldH_get hg with ⟨rfl, rfl⟩ | ⟨rfl, rfl⟩
      · rw [howns0 B' hB', hsz]; exact ⟨h6, h7⟩
      · have hb := owns_flat rfl hB'
        rw [hsz]; exact hL.own 1 _ rfl B' (.inl hb)
    · rcases bldH_get hg with ⟨rfl, rfl⟩ | ⟨rfl, rfl⟩ <;> rcases bldH_get hg' with ⟨rfl, rfl⟩ | ⟨rfl, rfl⟩
      · rfl
      · exfalso; have hb := owns_flat rfl hB'; rw [howns0 B' hB] at hb; exact h8 hb
      · exfalso; have hb := owns_flat rfl hB; rw [howns0 B' hB'] at hb; exact h8 hb
      · rfl
    · rcases bldH_get hg with ⟨rfl, rfl⟩ | ⟨rfl, rfl⟩
      · rw [howns0 B' hB']; exact .inr hLB
      · exact .inr ⟨1, _, rfl, .inl (owns_flat rfl hB')⟩
  · refine (hu B w hcell).mono fun e' w' ⟨q1, q2⟩ => ?_
    subst q2
    exact ⟨.tuple #[], I, ι, q1, Ext.refl _ hA, ⟨[], rfl, .nil⟩, fun _ _ _ => rfl, hL, fun id ob B hg hB => .inr ⟨id, ob, hg, hB⟩⟩

/-- String of no bytes. -/
theorem Spec.strEmpty {P : Program} {f t te : Nat} (hc : callable P f)
    (h1 : ∀ (b : Nat) (p : Value) (w : World), w.heap[b]? = some (.cells #[p, .slice none 0 0] t (0, 0)) → Calls P f #[.pointer (some ⟨b, 0, none⟩)] w fun e w' => e = .returned (.string ⟨#[]⟩) ∧ Below w.heap.size w w')
    (h2 : ∀ (b g cap : Nat) (p : Value) (w : World), cap ≠ 0 → w.heap[b]? = some (.cells #[p, .slice (some ⟨g, 0, none⟩) 0 cap] t (0, 0)) → Calls P f #[.pointer (some ⟨b, 0, none⟩)] w fun e w' => e = .returned (.string ⟨#[]⟩) ∧ Below w.heap.size w w')
    (h3 : ∀ (b g : Nat) (p : Value) (cur : Array Value) (w : World), w.heap[b]? = some (.cells #[p, .slice (some ⟨g, 0, none⟩) 0 0] t (0, 0)) → w.heap[g]? = some (.cells cur te (0, 0)) → Calls P f #[.pointer (some ⟨b, 0, none⟩)] w fun e w' => e = .returned (.string ⟨#[]⟩) ∧ Below w.heap.size w w') :
    Spec P f [.v (.ptr 0 0)] (bldH t te []) (.c (.v (.string ⟨#[]⟩))) [] := by
  refine ⟨hc, fun I ι w vs hA hvs hL => ?_⟩
  cases hvs with
  | cons hv ht =>
  cases ht
  rename_i v
  obtain ⟨B, p, k1, k2, k3, k4, k5, k6, k7, k8⟩ := bldH_lies hL
  obtain ⟨B', k9, rfl⟩ := hv
  rw [k1] at k9; cases k9
  obtain ⟨vals, q1, _⟩ := hL.obj 1 _ rfl
  have key : Calls P f #[.pointer (some ⟨B, 0, none⟩)] w fun e w' => e = .returned (.string ⟨#[]⟩) ∧ Below w.heap.size w w' := by
    rcases q1.2 with ⟨hn, _⟩ | ⟨g, cap, cur, hn, _, hg, _⟩
    · rw [hn] at k2; exact h1 B p w k2
    · rw [hn] at k2
      by_cases hz : cap = 0
      · subst hz; exact h3 B g p cur w k2 hg
      · exact h2 B g cap p w hz k2
  refine key.mono fun e' w' ⟨r1, r2⟩ => ?_
  exact ⟨_, I, ι, r1, ⟨⟨r2.os, r2.tape, r2.output, r2.size, fun k hk _ => r2.block k hk⟩, Im.le_refl _, fun b o v hb => .inl hb, fun b o v hb => by
    have hc := hA b o v hb
    have hbs : b < w.heap.size := by
      rcases Nat.lt_or_ge b w.heap.size with q | q
      · exact q
      · simp [World.cell?, Array.getElem?_eq_none q] at hc
    rw [cell_cong (r2.block b hbs)]; exact hc⟩, .v _ rfl rfl, fun _ _ _ => rfl, ⟨fun id ob hg => (by cases hg), fun id ob hg => (by cases hg), fun id id' ob ob' hg => (by cases hg)⟩, fun id ob B hg => (by cases hg)⟩
end Go.Proofs.YtlbndchfmdogeaaDoor.Sym
