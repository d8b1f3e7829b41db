/- Plain facts on chapter 2's lists: an own copy. Conditions: none. -/
import Derived.Test.YtlbndchfmdogeaaDoorNlf
import Derived.Test.YtlbndchfmdogeaaDoorPlg
import Derived.Test.YtlbndchfmdogeaaDoorNgj
set_option linter.unusedVariables false
set_option linter.unusedSimpArgs false
namespace Go.Proofs.YtlbndchfmdogeaaDoor.Sym
open Go Go.RowKit

/-! ### A copy -/
theorem clone_eq {α : Type} {xs : List α} (h : xs.length ≤ lim) : (grd (([] : List α).length + xs.length ≤ lim) <| some (([] : List α) ++ xs)) = some xs := by
  rw [grd_pos (by simpa using h), List.nil_append]
theorem nl_Own_eq {x : Netlist} (h1 : x.Parts.length ≤ lim) (h2 : x.Nets.length ≤ lim) (h3 : ∀ n ∈ x.Nets, n.Pins.length ≤ lim) : nl_Own x = some ⟨x.Parts, x.Nets.map fun n => ⟨n.Name, n.Pins, []⟩⟩ := by
  unfold nl_Own
  have e1 : slices_Clone_api_Part_api_Part_new x.Parts = some x.Parts := clone_eq h1
  have e2 : slices_Clone_api_Net_api_Net_new x.Nets = some x.Nets := clone_eq h2
  rw [e1, bnd_some, e2, bnd_some, grd_pos h2, forN_upd (g := fun n : Net => (⟨n.Name, n.Pins, []⟩ : Net)) fun j hj s hs e => ?_, aft1_fin, grd_pos (by simp)]
  have hjs : j < s.length := by omega
  have e3 : slices_Clone_api_Pin_api_Pin_new x.Nets[j].Pins = some x.Nets[j].Pins := clone_eq (h3 _ (List.getElem_mem hj))
  unfold nl_Own_b0
  rw [atI_lt hjs, e, bnd_some, e3, bnd_some, bnd_some, bnd_some, show Int.toNat (j : Int) = j by simp, List.set_set]

end Go.Proofs.YtlbndchfmdogeaaDoor.Sym

/- Plain facts on chapter 2's Joined: what the program makes of two nets; the reference's pins in order. Conditions: none. -/
set_option linter.unusedVariables false
set_option linter.unusedSimpArgs false
namespace Go.Proofs.YtlbndchfmdogeaaDoor.Sym
open Go Go.RowKit

theorem nl_net_at {x : Netlist} {s : ByteArray} (hr : Rising (·.Name) x.Nets) (hl : x.Nets.length ≤ lim) : nl_NetAt x s = some (ixN (·.Name) x.Nets s) := by
  have e : nl_NetAt x s = (bnd (BS x.Nets s fun z0 z1 => nl_NetAt_1 z0 z1) fun r1 => cnd (!r1.2) (some (-1)) (some r1.1)) := rfl
  rw [e]
  exact at_name (f := fun x : Net => x.Name) (fun x _ => by unfold nl_NetAt_1; rw [strings_Compare_eq]; rfl) hr hl
theorem sortF_eq {l : List Pin} (h : 0 < l.length) : h_SortFunc_Pin l = some (sortP l) := by
  unfold h_SortFunc_Pin
  rw [grd_pos h]
  rfl
theorem delete_eq {l : List Net} {k : Nat} (h : k < l.length) : h_Delete_Net l (k : Int) ((k + 1 : Nat) : Int) = some (l.eraseIdx k) := by
  unfold h_Delete_Net
  rw [grd_pos ⟨by omega, by omega, by omega⟩, Int.toNat_natCast, Int.toNat_natCast, List.eraseIdx_eq_take_drop_succ]
theorem own_right {t : List PartType} {x : Netlist} (hs : Small t x) (h : Right t x) : nl_Own x = some x := by
  rw [nl_Own_eq hs.lp hs.ln hs.lnp]
  congr 1
  have e : (x.Nets.map fun n => (⟨n.Name, n.Pins, []⟩ : Net)) = x.Nets := by
    conv => rhs; rw [← List.map_id x.Nets]
    refine List.map_congr_left fun n hn => ?_
    have := h.port n hn
    cases n
    simp only at this
    subst this; rfl
  rw [e]
noncomputable def joinG (x : Netlist) (ia ib : Int) : Netlist × Int :=
  if ia < 0 ∨ ib < 0 then (⟨[], []⟩, 9)
  else if ia = ib then (⟨[], []⟩, 12)
  else if h : ia.toNat < x.Nets.length ∧ ib.toNat < x.Nets.length then
    if (x.Nets[ia.toNat]'h.1).Pins.length + (x.Nets[ib.toNat]'h.2).Pins.length > 500 then (⟨[], []⟩, 2)
    else (⟨x.Parts, joinN x.Nets (min ia.toNat ib.toNat) (max ia.toNat ib.toNat) (by have := h.1; omega) (by have := h.1; have := h.2; omega)⟩, 0)
  else (⟨[], []⟩, 0)
/-- What Joined answers. -/
noncomputable def joinR (t : List PartType) (x : Netlist) (a b : ByteArray) : Netlist × Int :=
  if listF t x ≠ 0 then (⟨[], []⟩, listF t x) else joinG x (ixN (·.Name) x.Nets a) (ixN (·.Name) x.Nets b)
theorem ixN_lt {α : Type} {f : α → ByteArray} {xs : List α} {s : ByteArray} (h : ¬ ixN f xs s < 0) : (ixN f xs s).toNat < xs.length := by
  have := (ixBy_ge (fun x => decide (f x = s)) xs).2
  have e : ixN f xs s = ixBy (fun x => decide (f x = s)) xs := rfl
  rw [e] at h ⊢
  omega
theorem joined_core {t : List PartType} {x : Netlist} (hs : Small t x) (hr : Right t x) {i k : Nat} (hi : i < x.Nets.length) (hk : k < x.Nets.length) (hik : i < k) (hlen : x.Nets[i].Pins.length + x.Nets[k].Pins.length ≤ 500) :
    (bnd (nl_Own x) fun r20 => bnd (atI r20.Nets (i : Int)) fun x22 => bnd (atI r20.Nets (k : Int)) fun x24 => grd ((Int.toNat (i : Int)) ≠ (Int.toNat (k : Int))) <| grd (x22.Pins.length + x24.Pins.length ≤ lim) <|
      bnd (h_SortFunc_Pin ((⟨x22.Name, x22.Pins ++ x24.Pins, x22.Ports⟩ : Net).Pins)) fun r28 =>
      bnd (h_Delete_Net (((r20.Nets.set (Int.toNat (i : Int)) (⟨x22.Name, x22.Pins ++ x24.Pins, x22.Ports⟩ : Net)).set (Int.toNat (k : Int)) x24).set (Int.toNat (i : Int)) (⟨(⟨x22.Name, x22.Pins ++ x24.Pins, x22.Ports⟩ : Net).Name, r28, (⟨x22.Name, x22.Pins ++ x24.Pins, x22.Ports⟩ : Net).Ports⟩ : Net)) (k : Int) (w64 ((k : Int) + 1))) fun r30 =>
      some ((⟨r20.Parts, r30⟩ : Netlist), (0 : Int))) = some (⟨x.Parts, joinN x.Nets i k hi hk⟩, 0) := by
  have hlim : lim = 1099511627776 := rfl
  have hl := hs.ln
  rw [own_right hs hr, bnd_some, atI_lt hi, bnd_some, atI_lt hk, bnd_some, Int.toNat_natCast, Int.toNat_natCast, grd_pos (by omega), grd_pos (by omega)]
  have hpi := (hr.pins _ (List.getElem_mem hi)).1
  rw [sortF_eq (by rw [List.length_append]; omega), bnd_some, show w64 ((k : Int) + 1) = ((k + 1 : Nat) : Int) by rw [w64_id (by omega) (by omega)]; omega, delete_eq (by simp only [List.length_set]; exact hk), bnd_some]
  have hport := hr.port _ (List.getElem_mem hi)
  have e1 : ∀ A : Net, (x.Nets.set i A).set k x.Nets[k] = x.Nets.set i A := fun A => by
    have hk' : k < (x.Nets.set i A).length := by rw [List.length_set]; exact hk
    have e : (x.Nets.set i A)[k]'hk' = x.Nets[k] := List.getElem_set_ne (by omega) _
    rw [← e]
    exact List.set_getElem_self hk'
  rw [e1, List.set_set, hport]
  rfl
theorem nl_Joined_eq {t : List PartType} {x : Netlist} (hs : Small t x) (a b : ByteArray) : nl_Joined t x a b = some (joinR t x a b) := by
  have hlim : lim = 1099511627776 := rfl
  unfold nl_Joined joinR
  rw [nl_list hs, bnd_some]
  by_cases h0 : listF t x = 0
  · have hr := listF_right h0
    have hnr := rising_pw.2 hr.nrise
    rw [h0, show ((0 : Int) != 0) = false from rfl, cnd_f, nl_net_at hnr hs.ln, bnd_some, nl_net_at hnr hs.ln, bnd_some, if_neg (by simp)]
    generalize hia : ixN (·.Name) x.Nets a = ia
    generalize hib : ixN (·.Name) x.Nets b = ib
    have ha := ixN_lt (f := fun n : Net => n.Name) (xs := x.Nets) (s := a)
    have hb := ixN_lt (f := fun n : Net => n.Name) (xs := x.Nets) (s := b)
    rw [hia] at ha
    rw [hib] at hb
    unfold joinG
    by_cases h1 : ia < 0 ∨ ib < 0
    · rw [if_pos h1]
      rcases h1 with h1 | h1
      · rw [decide_eq_true h1, cnd_t, bnd1_some, cnd_t]
      · by_cases h2 : ia < 0
        · rw [decide_eq_true h2, cnd_t, bnd1_some, cnd_t]
        · rw [decide_eq_false h2, cnd_f, decide_eq_true h1, bnd1_some, cnd_t]
    · rw [if_neg h1, decide_eq_false (fun q => h1 (.inl q)), cnd_f, decide_eq_false (fun q => h1 (.inr q)), bnd1_some, cnd_f]
      by_cases h2 : ia = ib
      · rw [if_pos h2, show (ia == ib) = true by simpa using h2, cnd_t]
      · have la := ha (fun q => h1 (.inl q))
        have lb := hb (fun q => h1 (.inr q))
        rw [if_neg h2, show (ia == ib) = false by simpa using h2, cnd_f, dif_pos ⟨la, lb⟩]
        obtain ⟨i, rfl⟩ : ∃ i : Nat, ia = (i : Int) := ⟨ia.toNat, by omega⟩
        obtain ⟨k, rfl⟩ : ∃ k : Nat, ib = (k : Int) := ⟨ib.toNat, by omega⟩
        simp only [Int.toNat_natCast] at la lb ⊢
        rw [atI_lt la, bnd_some, atI_lt lb, bnd_some]
        have p1 := (hr.pins _ (List.getElem_mem la)).2
        have p2 := (hr.pins _ (List.getElem_mem lb)).2
        have ew : w64 (((x.Nets[i].Pins.length : Nat) : Int) + ((x.Nets[k].Pins.length : Nat) : Int)) = ((x.Nets[i].Pins.length + x.Nets[k].Pins.length : Nat) : Int) := by rw [w64_id (by omega) (by omega)]; omega
        rw [ew]
        by_cases h3 : x.Nets[i].Pins.length + x.Nets[k].Pins.length > 500
        · rw [decide_eq_true (by omega), cnd_t, if_pos h3]
        · rw [decide_eq_false (by omega), cnd_f, if_neg h3]
          have hne : i ≠ k := fun q => h2 (by rw [q])
          have emn : mn (i : Int) (k : Int) = ((min i k : Nat) : Int) := by unfold mn; split <;> omega
          have emx : mx (i : Int) (k : Int) = ((max i k : Nat) : Int) := by unfold mx; split <;> omega
          rw [emn, emx]
          refine joined_core hs hr (by omega) (by omega) (by omega) ?_
          rcases Nat.lt_or_ge i k with q | q
          · have e1 : min i k = i := by omega
            have e2 : max i k = k := by omega
            simp only [e1, e2]; omega
          · have e1 : min i k = k := by omega
            have e2 : max i k = i := by omega
            simp only [e1, e2]; omega
  · rw [bne_iff_ne.2 h0, cnd_t, if_pos h0]

/-! ### The reference's pins in order -/
theorem insert_eq {l : List Pin} {k : Nat} {p : Pin} (hk : k ≤ l.length) (hl : l.length + 1 ≤ lim) : h_Insert_Pin l (k : Int) [p] = some (l.take k ++ p :: l.drop k) := by
  unfold h_Insert_Pin
  rw [grd_pos ⟨by omega, by omega, by simp, by simpa using hl⟩, Int.toNat_natCast, List.append_assoc]
  rfl
theorem place_loop {a0 : List Pin} {i1 : Nat} {out : List Pin} {p : Pin} (hl : out.length ≤ lim) : ∀ (k : Nat), k ≤ out.length → (∀ j (hj : j < out.length), k ≤ j → plt p out[j]) →
    ∃ m : Nat, m ≤ out.length ∧ iter (fun s => ref_sortedPins_b1 a0 i1 out p s) (k + 1) (k : Int) = some (.fin (m : Int)) ∧ (∀ (h : 0 < m), ∀ h' : m - 1 < out.length, ¬ plt p out[m - 1]) ∧ ∀ j (hj : j < out.length), m ≤ j → plt p out[j]
  | 0, hk, hj => by
    have hb : ref_sortedPins_b1 a0 i1 out p ((0 : Nat) : Int) = some (.brk ((0 : Nat) : Int)) := rfl
    exact ⟨0, Nat.zero_le _, by simp only [iter, hb], fun h => by omega, hj⟩
  | k + 1, hk, hj => by
    have hlim : lim = 1099511627776 := rfl
    have ew : w64 (((k + 1 : Nat) : Int) - 1) = (k : Int) := by rw [w64_id (by omega) (by omega)]; omega
    have hb : ref_sortedPins_b1 a0 i1 out p ((k + 1 : Nat) : Int) = some (if plt p (out[k]'(by omega)) then .go (k : Int) else .brk ((k + 1 : Nat) : Int)) := by
      unfold ref_sortedPins_b1
      rw [decide_eq_true (by omega), cnd_t, ew, atI_lt (by omega), bnd_some, ref_before_eq, bnd_some, bnd1_some]
      by_cases h : plt p (out[k]'(by omega))
      · rw [decide_eq_true h, cnd_t, if_pos h]
      · rw [decide_eq_false h, cnd_f, if_neg h]
    by_cases h : plt p (out[k]'(by omega))
    · rw [if_pos h] at hb
      obtain ⟨m, h1, h2, h3, h4⟩ := place_loop (a0 := a0) (i1 := i1) hl k (by omega) (fun j hj' hkj => by
        by_cases e : j = k
        · subst e; exact h
        · exact hj j hj' (by omega))
      refine ⟨m, h1, ?_, h3, h4⟩
      rw [iter]
      simp only [hb]
      exact h2
    · rw [if_neg h] at hb
      refine ⟨k + 1, hk, ?_, fun _ _ => by simpa using h, hj⟩
      rw [iter]
      simp only [hb]
theorem ref_sortedPins_eq {l : List Pin} (hl : l.length + 1 ≤ lim) : ref_sortedPins l = some (sortP l) := by
  unfold ref_sortedPins
  obtain ⟨s, h1, h2⟩ := forN_go (ρ := List Pin) (b := fun i1 s => ref_sortedPins_b0 l i1 s) (N := l.length) (fun j s => s = sortP (l.take j)) (fun j s hj hR => by
    have hsl : s.length = j := by rw [hR, sortP_len, List.length_take]; omega
    have hpw : s.Pairwise fun p q => ple p q = true := by rw [hR]; exact sortP_pw _
    obtain ⟨m, k1, k2, k3, k4⟩ := place_loop (a0 := l) (i1 := j) (out := s) (p := l[j]) (by omega) s.length (Nat.le_refl _) (fun j' hj' hk => by omega)
    refine ⟨s.take m ++ l[j] :: s.drop m, ?_, ?_⟩
    · unfold ref_sortedPins_b0
      rw [atI_lt hj, bnd_some, loop_i k2, aft1_fin, insert_eq k1 (by omega), bnd_some]
    · refine eq_sortP ?_ (ins_sorted hpw k1 (fun h => k3 h (by omega)) k4)
      refine (ins_perm s l[j] m).trans ?_
      rw [List.take_succ_eq_append_getElem hj]
      refine List.Perm.trans ?_ List.perm_append_comm
      show (l[j] :: s).Perm (l[j] :: l.take j)
      rw [hR]
      exact (sortP_perm _).cons _) l.length 0 [] (Nat.zero_add _) (by simp [sortP])
  rw [h1, aft1_fin, h2, List.take_of_length_le (Nat.le_refl _)]
end Go.Proofs.YtlbndchfmdogeaaDoor.Sym

/- Plain facts on chapter 2's functions: the reference's search for a pin's net. Conditions: none. -/
set_option linter.unusedVariables false
set_option linter.unusedSimpArgs false
namespace Go.Proofs.YtlbndchfmdogeaaDoor.Sym
open Go Go.RowKit
theorem ref_netOf_eq (x : Netlist) (p : Pin) : ref_netOf x p = some (netIx x p) := by
  have e : ref_netOf x p = LIN (fun n => slices_Contains_api_Pin_api_Pin n.Pins p) x.Nets := rfl
  rw [e, LIN_eq (q := fun n => decide (p ∈ n.Pins)) fun n _ => contains_pin n.Pins p]
  rfl
end Go.Proofs.YtlbndchfmdogeaaDoor.Sym

/- Plain facts: that equal pins are found equal. Conditions: none. -/
set_option linter.unusedVariables false
set_option linter.unusedSimpArgs false
namespace Go.Proofs.YtlbndchfmdogeaaDoor.Sym
open Go Go.RowKit

/-- slices.Equal of a list with itself. -/
noncomputable def EQL {α : Type} (ne : α → α → Bool) (a0 a1 : List α) : Option Bool :=
 cnd ((a0.length : Int) != (a1.length : Int)) (some false) (aft0 (forN (ρ := Bool) (fun i _ => bnd (atI a0 (i : Int)) fun x => bnd (atI a1 (i : Int)) fun y => cnd (ne x y) (some (.ret false)) (some (.go ()))) a0.length 0 ()) (some true) (fun r => some r))
theorem EQL_refl {α : Type} {ne : α → α → Bool} (h : ∀ x, ne x x = false) (l : List α) : EQL ne l l = some true := by
  unfold EQL
  rw [show ((l.length : Int) != (l.length : Int)) = false by simp, cnd_f, forN_any (p := fun _ : α => false) (r := false) fun j hj => ?_]
  · simp [aft0_fin]
  · rw [atI_lt hj, bnd_some, bnd_some, h, cnd_f]
    rfl
theorem sNe_self (s : ByteArray) : sNe s s = false := by rw [sNe_iff]; simp
theorem sEq_self (s : ByteArray) : sEq s s = true := by rw [sEq_iff]; simp
theorem eq_pins (l : List Pin) : slices_Equal_api_Pin_api_Pin l l = some true := by
  have e : slices_Equal_api_Pin_api_Pin l l = EQL (fun x y : Pin => !(sEq x.Part y.Part && (sEq x.Pin y.Pin && true))) l l := rfl
  rw [e]
  exact EQL_refl (fun x => by simp [sEq_self]) l
end Go.Proofs.YtlbndchfmdogeaaDoor.Sym

/- The law on joined nets: its plain form is true. Conditions: of all data together there is at most so much; the numbers are of 64 bits. -/
set_option linter.unusedVariables false
set_option linter.unusedSimpArgs false
namespace Go.Proofs.YtlbndchfmdogeaaDoor.Sym
open Go Go.RowKit
theorem ref_AllPins_eq {x : Netlist} (hl : (x.Nets.flatMap (·.Pins)).length + 1 ≤ lim) : ref_AllPins x = some (sortP (x.Nets.flatMap (·.Pins))) := by
  unfold ref_AllPins
  obtain ⟨s, h1, h2⟩ := forN_go (ρ := List Pin) (b := fun i1 s => ref_AllPins_b0 x i1 s) (N := x.Nets.length) (fun j s => s = (x.Nets.take j).flatMap (·.Pins)) (fun j s hj hR => by
    refine ⟨s ++ x.Nets[j].Pins, ?_, ?_⟩
    · unfold ref_AllPins_b0
      rw [atI_lt hj, bnd_some, grd_pos ?_]
      have e : x.Nets.flatMap (·.Pins) = (x.Nets.take j).flatMap (·.Pins) ++ (x.Nets[j].Pins ++ (x.Nets.drop (j + 1)).flatMap (·.Pins)) := by
        conv => lhs; rw [← List.take_append_drop j x.Nets, List.drop_eq_getElem_cons hj, List.flatMap_append, List.flatMap_cons]
      rw [e] at hl
      simp only [List.length_append] at hl
      rw [hR]; omega
    · rw [hR, List.take_succ_eq_append_getElem hj, List.flatMap_append]; simp) x.Nets.length 0 [] (Nat.zero_add _) (by simp)
  rw [h1, aft1_fin, h2, List.take_of_length_le (Nat.le_refl _), ref_sortedPins_eq hl, bnd_some]
theorem ref_Below_eq {k : Int} {n : Nat} (hk : r64 k) (h0 : 0 < n) (hn : n ≤ lim) : ∃ m : Nat, ref_Below k (n : Int) = some (m : Int) ∧ m < n := by
  have hlim : lim = 1099511627776 := rfl
  obtain ⟨k1, k2⟩ := hk
  unfold ref_Below
  have hlt : k.tmod (n : Int) < n := Int.tmod_lt_of_pos k (by omega)
  have hgt : -(n : Int) < k.tmod (n : Int) := by
    have := Int.tmod_lt_of_pos (-k) (show (0 : Int) < n by omega)
    rw [Int.neg_tmod] at this
    omega
  rw [grd_pos (by omega)]
  by_cases h : k.tmod (n : Int) < 0
  · rw [decide_eq_true h, cnd_t, bnd1_some, w64_id (by omega) (by omega)]
    exact ⟨(k.tmod (n : Int) + n).toNat, by rw [Int.toNat_of_nonneg (by omega)], by omega⟩
  · rw [decide_eq_false h, cnd_f, bnd1_some]
    exact ⟨(k.tmod (n : Int)).toNat, by rw [Int.toNat_of_nonneg (by omega)], by omega⟩
theorem flat_pins {B : Nat} : ∀ (l : List Net), (∀ n ∈ l, n.Pins.length ≤ B) → (l.flatMap (·.Pins)).length ≤ l.length * B
  | [], _ => by simp
  | n :: l, h => by
    have h1 := h n List.mem_cons_self
    have h2 := flat_pins l fun m hm => h m (List.mem_cons_of_mem _ hm)
    rw [List.flatMap_cons, List.length_append, List.length_cons, Nat.succ_mul]; omega
theorem netIx_of {t : List PartType} {x : Netlist} (h : Right t x) {a : Nat} (ha : a < x.Nets.length) {p : Pin} (hp : p ∈ x.Nets[a].Pins) : netIx x p = (a : Int) := by
  unfold netIx
  refine ixBy_of ha (by simpa using hp) fun j hj hja => ?_
  rw [decide_eq_false_iff_not]
  intro q
  have := apart_ix h.once hj ha q hp
  omega
theorem ref_Together_eq (x : Netlist) (p q : Pin) : ref_Together x p q = some (decide (0 ≤ netIx x p ∧ netIx x p = netIx x q)) := by
  unfold ref_Together
  rw [ref_netOf_eq, bnd_some]
  by_cases h : netIx x p ≥ 0
  · rw [decide_eq_true h, cnd_t, ref_netOf_eq, bnd_some, bnd1_some]
    congr 1
    rw [Bool.eq_iff_iff]
    simp only [beq_iff_eq, decide_eq_true_eq]
    exact ⟨fun q => ⟨h, q⟩, fun q => q.2⟩
  · rw [decide_eq_false h, cnd_f, bnd1_some, decide_eq_false (fun q => h q.1)]
theorem joinR_cases (t : List PartType) (x : Netlist) (a b : ByteArray) : (joinR t x a b).2 ≠ 0 ∧ (joinR t x a b).1 = ⟨[], []⟩ ∨
    (joinR t x a b).2 = 0 ∧ listF t x = 0 ∧ ∃ i k, ∃ hi : i < x.Nets.length, ∃ hk : k < x.Nets.length, i < k ∧ x.Nets[i].Pins.length + x.Nets[k].Pins.length ≤ 500 ∧ (joinR t x a b).1 = ⟨x.Parts, joinN x.Nets i k hi hk⟩ := by
  unfold joinR
  have ha := ixN_lt (f := fun n : Net => n.Name) (xs := x.Nets) (s := a)
  have hb := ixN_lt (f := fun n : Net => n.Name) (xs := x.Nets) (s := b)
  split
  · rename_i h; exact .inl ⟨h, rfl⟩
  · rename_i h0
    have h0' : listF t x = 0 := Classical.byContradiction h0
    generalize ixN (fun n : Net => n.Name) x.Nets a = ia at *
    generalize ixN (fun n : Net => n.Name) x.Nets b = ib at *
    unfold joinG
    split
    · exact .inl ⟨by simp, rfl⟩
    · rename_i h1
      split
      · exact .inl ⟨by simp, rfl⟩
      · rename_i h2
        split
        · rename_i h3
          split
          · exact .inl ⟨by simp, rfl⟩
          · rename_i h4
            have hne : ia.toNat ≠ ib.toNat := by omega
            refine .inr ⟨rfl, h0', min ia.toNat ib.toNat, max ia.toNat ib.toNat, by omega, by omega, by omega, ?_, rfl⟩
            rcases Nat.lt_or_ge ia.toNat ib.toNat with q | q
            · have e1 : min ia.toNat ib.toNat = ia.toNat := by omega
              have e2 : max ia.toNat ib.toNat = ib.toNat := by omega
              simp only [e1, e2]; omega
            · have e1 : min ia.toNat ib.toNat = ib.toNat := by omega
              have e2 : max ia.toNat ib.toNat = ia.toNat := by omega
              simp only [e1, e2]; omega
        · rename_i h3
          exact (h3 ⟨ha (fun q => h1 (.inl q)), hb (fun q => h1 (.inr q))⟩).elim
theorem NetlistJoinedKeepsPins_true (t : List PartType) (x : Netlist) (a b : ByteArray) (i k : Int) (hi : r64 i) (hk : r64 k) (h : (cBss (List.map e_PartType t) + 1) + cBs (e_Netlist x) + (a.size + 1) + (b.size + 1) ≤ 1048576) : law_NetlistJoinedKeepsPins t x a b i k = some true := by
  have hlim : lim = 1099511627776 := rfl
  have hs : Small t x := small_of (n := 1048576) (m := 1048576) (by omega) (by omega) (by omega) (by omega)
  unfold law_NetlistJoinedKeepsPins
  rw [nl_Joined_eq hs, bnd_some]
  rcases joinR_cases t x a b with ⟨h1, h2⟩ | ⟨h1, h0, m, n, hm, hn, hmn, hlen, h2⟩
  · rw [show ((joinR t x a b).2 != 0) = true by simpa using h1, cnd_t, h2, show ((([] : List Net).length : Int) == 0) = true from rfl, cnd_t, awake_true]
    rfl
  · rw [show ((joinR t x a b).2 != 0) = false by rw [h1]; rfl, cnd_f, h2]
    have hr := listF_right h0
    have hmn' : m ≠ n := by omega
    have hr2 := right_join hr hm hn hmn' hlen
    have hfl : (x.Nets.flatMap (·.Pins)).length ≤ x.Nets.length * 500 := flat_pins x.Nets fun y hy => (hr.pins y hy).2
    have hnl := hr.nlen
    have hperm := joinN_flat (l := x.Nets) (hi := hm) (hk := hn) hmn'
    have hpl := hperm.length_eq
    have hne : 0 < (x.Nets.flatMap (·.Pins)).length := by
      have h3 := (hr.pins _ (List.getElem_mem hm)).1
      obtain ⟨p, hp⟩ := List.exists_mem_of_length_pos h3
      exact List.length_pos_of_mem (List.mem_flatMap.2 ⟨_, List.getElem_mem hm, hp⟩)
    have hs2 : Small t ⟨x.Parts, joinN x.Nets m n hm hn⟩ := by
      refine ⟨hs.lt, hs.ltp, hs.lp, hs.lpn, by show (joinN _ _ _ _ _).length ≤ lim; rw [joinN_len]; omega, fun y hy => ?_, fun y hy => ?_⟩
      · rcases joinN_mem hy with rfl | hy
        · have := hs.lnn _ (List.getElem_mem hm)
          exact this
        · exact hs.lnn _ hy
      · have := (hr2.pins y hy).2
        omega
    rw [ref_AllPins_eq (by omega), bnd_some]
    have hsl : (sortP (x.Nets.flatMap (·.Pins))).length = (x.Nets.flatMap (·.Pins)).length := sortP_len _
    obtain ⟨p, e1, e2⟩ := ref_Below_eq (n := (sortP (x.Nets.flatMap (·.Pins))).length) hi (by omega) (by omega)
    obtain ⟨q, e3, e4⟩ := ref_Below_eq (n := (sortP (x.Nets.flatMap (·.Pins))).length) hk (by omega) (by omega)
    rw [e1, bnd_some, atI_lt e2, bnd_some, e3, bnd_some, atI_lt e4, bnd_some]
    have hAll : ref_AllPins ⟨x.Parts, joinN x.Nets m n hm hn⟩ = some (sortP (x.Nets.flatMap (·.Pins))) := by
      rw [ref_AllPins_eq (by show ((joinN x.Nets m n hm hn).flatMap _).length + 1 ≤ lim; omega)]
      congr 1
      exact sortP_congr hperm
    rw [show (((joinN x.Nets m n hm hn).length : Int) == w64 ((x.Nets.length : Int) - 1)) = true by
      rw [joinN_len, w64_id (by omega) (by omega)]
      simp; omega, cnd_t, hAll, bnd_some, eq_pins, bnd_some, cnd_t, ref_Together_eq, bnd_some]
    generalize (sortP (x.Nets.flatMap (·.Pins)))[p] = P
    generalize (sortP (x.Nets.flatMap (·.Pins)))[q] = Q
    have hend : (bnd (nl_CheckList t ⟨x.Parts, joinN x.Nets m n hm hn⟩) fun r33 => cnd (r33 == 0) (bnd law_awake fun r36 => some r36) (some false)) = some true := by
      rw [nl_list hs2, bnd_some, right_listF hr2, show ((0 : Int) == 0) = true from rfl, cnd_t, awake_true]
      rfl
    by_cases ht : 0 ≤ netIx x P ∧ netIx x P = netIx x Q
    · rw [decide_eq_true ht, show (!true) = false from rfl, cnd_f, ref_Together_eq, bnd_some]
      obtain ⟨c, hc, c1, c2⟩ := join_together hr hm hn hmn' ht.1 ht.2
      have d1 := netIx_of hr2 hc c1
      have d2 := netIx_of hr2 hc c2
      rw [decide_eq_true ⟨by rw [d1]; omega, by rw [d1, d2]⟩, cnd_t, hend]
      rfl
    · rw [decide_eq_false ht, show (!false) = true from rfl, cnd_t, hend]
      rfl
end Go.Proofs.YtlbndchfmdogeaaDoor.Sym

