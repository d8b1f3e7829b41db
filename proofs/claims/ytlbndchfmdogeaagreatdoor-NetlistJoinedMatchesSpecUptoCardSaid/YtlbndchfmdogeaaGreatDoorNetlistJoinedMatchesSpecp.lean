/- Plain facts on chapter 2's lists: an own copy. Conditions: none. -/
import Derived.Test.YtlbndchfmdogeaaGreatDoorNlf
import Derived.Test.YtlbndchfmdogeaaGreatDoorPlg
import Derived.Test.YtlbndchfmdogeaaGreatDoorNgj
import Derived.Test.YtlbndchfmdogeaaGreatDoorPle
set_option linter.unusedVariables false
set_option linter.unusedSimpArgs false
namespace Go.Proofs.YtlbndchfmdogeaaGreatDoor.Sym
open Go Go.RowKit

/-! ### A copy -/
theorem clone_eq {α : Type} {xs : List α} (h : xs.length ≤ lim) : (grd (([] : List α).length + xs.length ≤ lim) <| some (([] : List α) ++ xs)) = some xs := by
  rw [grd_pos (by simpa using h), List.nil_append]
theorem nl_Own_eq {x : Netlist} (h1 : x.Parts.length ≤ lim) (h2 : x.Nets.length ≤ lim) (h3 : ∀ n ∈ x.Nets, n.Pins.length ≤ lim) : nl_Own x = some ⟨x.Parts, x.Nets.map fun n => ⟨n.Name, n.Pins, []⟩⟩ := by
  unfold nl_Own
  have e1 : slices_Clone_api_Part_api_Part_new x.Parts = some x.Parts := clone_eq h1
  have e2 : slices_Clone_api_Net_api_Net_new x.Nets = some x.Nets := clone_eq h2
  rw [e1, bnd_some, e2, bnd_some, grd_pos h2, forN_upd (g := fun n : Net => (⟨n.Name, n.Pins, []⟩ : Net)) fun j hj s hs e => ?_, aft1_fin, grd_pos (by simp)]
  have hjs : j < s.length := by omega
  have e3 : slices_Clone_api_Pin_api_Pin_new x.Nets[j].Pins = some x.Nets[j].Pins := clone_eq (h3 _ (List.getElem_mem hj))
  unfold nl_Own_b0
  rw [atI_lt hjs, e, bnd_some, e3, bnd_some, bnd_some, bnd_some, show Int.toNat (j : Int) = j by simp, List.set_set]

end Go.Proofs.YtlbndchfmdogeaaGreatDoor.Sym

/- Plain facts on chapter 2's Joined: what the program makes of two nets; the reference's pins in order. Conditions: none. -/
set_option linter.unusedVariables false
set_option linter.unusedSimpArgs false
namespace Go.Proofs.YtlbndchfmdogeaaGreatDoor.Sym
open Go Go.RowKit

theorem nl_net_at {x : Netlist} {s : ByteArray} (hr : Rising (·.Name) x.Nets) (hl : x.Nets.length ≤ lim) : nl_NetAt x s = some (ixN (·.Name) x.Nets s) := by
  have e : nl_NetAt x s = (bnd (BS x.Nets s fun z0 z1 => nl_NetAt_1 z0 z1) fun r1 => cnd (!r1.2) (some (-1)) (some r1.1)) := rfl
  rw [e]
  exact at_name (f := fun x : Net => x.Name) (fun x _ => by unfold nl_NetAt_1; rw [strings_Compare_eq]; rfl) hr hl
theorem sortF_eq {l : List Pin} (h : 0 < l.length) : h_SortFunc_Pin l = some (sortP l) := by
  unfold h_SortFunc_Pin
  rw [grd_pos h]
  rfl
theorem delete_eq {l : List Net} {k : Nat} (h : k < l.length) : h_Delete_Net l (k : Int) ((k + 1 : Nat) : Int) = some (l.eraseIdx k) := by
  unfold h_Delete_Net
  rw [grd_pos ⟨by omega, by omega, by omega⟩, Int.toNat_natCast, Int.toNat_natCast, List.eraseIdx_eq_take_drop_succ]
theorem own_right {t : List PartType} {x : Netlist} (hs : Small t x) (h : Right t x) : nl_Own x = some x := by
  rw [nl_Own_eq hs.lp hs.ln hs.lnp]
  congr 1
  have e : (x.Nets.map fun n => (⟨n.Name, n.Pins, []⟩ : Net)) = x.Nets := by
    conv => rhs; rw [← List.map_id x.Nets]
    refine List.map_congr_left fun n hn => ?_
    have := h.port n hn
    cases n
    simp only at this
    subst this; rfl
  rw [e]
noncomputable def joinG (x : Netlist) (ia ib : Int) : Netlist × Int :=
  if ia < 0 ∨ ib < 0 then (⟨[], []⟩, 9)
  else if ia = ib then (⟨[], []⟩, 12)
  else if h : ia.toNat < x.Nets.length ∧ ib.toNat < x.Nets.length then
    if (x.Nets[ia.toNat]'h.1).Pins.length + (x.Nets[ib.toNat]'h.2).Pins.length > 500 then (⟨[], []⟩, 2)
    else (⟨x.Parts, joinN x.Nets (min ia.toNat ib.toNat) (max ia.toNat ib.toNat) (by have := h.1; omega) (by have := h.1; have := h.2; omega)⟩, 0)
  else (⟨[], []⟩, 0)
/-- What Joined answers. -/
noncomputable def joinR (t : List PartType) (x : Netlist) (a b : ByteArray) : Netlist × Int :=
  if listF t x ≠ 0 then (⟨[], []⟩, listF t x) else joinG x (ixN (·.Name) x.Nets a) (ixN (·.Name) x.Nets b)
theorem ixN_lt {α : Type} {f : α → ByteArray} {xs : List α} {s : ByteArray} (h : ¬ ixN f xs s < 0) : (ixN f xs s).toNat < xs.length := by
  have := (ixBy_ge (fun x => decide (f x = s)) xs).2
  have e : ixN f xs s = ixBy (fun x => decide (f x = s)) xs := rfl
  rw [e] at h ⊢
  omega
theorem joined_core {t : List PartType} {x : Netlist} (hs : Small t x) (hr : Right t x) {i k : Nat} (hi : i < x.Nets.length) (hk : k < x.Nets.length) (hik : i < k) (hlen : x.Nets[i].Pins.length + x.Nets[k].Pins.length ≤ 500) :
    (bnd (nl_Own x) fun r20 => bnd (atI r20.Nets (i : Int)) fun x22 => bnd (atI r20.Nets (k : Int)) fun x24 => grd ((Int.toNat (i : Int)) ≠ (Int.toNat (k : Int))) <| grd (x22.Pins.length + x24.Pins.length ≤ lim) <|
      bnd (h_SortFunc_Pin ((⟨x22.Name, x22.Pins ++ x24.Pins, x22.Ports⟩ : Net).Pins)) fun r28 =>
      bnd (h_Delete_Net (((r20.Nets.set (Int.toNat (i : Int)) (⟨x22.Name, x22.Pins ++ x24.Pins, x22.Ports⟩ : Net)).set (Int.toNat (k : Int)) x24).set (Int.toNat (i : Int)) (⟨(⟨x22.Name, x22.Pins ++ x24.Pins, x22.Ports⟩ : Net).Name, r28, (⟨x22.Name, x22.Pins ++ x24.Pins, x22.Ports⟩ : Net).Ports⟩ : Net)) (k : Int) (w64 ((k : Int) + 1))) fun r30 =>
      some ((⟨r20.Parts, r30⟩ : Netlist), (0 : Int))) = some (⟨x.Parts, joinN x.Nets i k hi hk⟩, 0) := by
  have hlim : lim = 1099511627776 := rfl
  have hl := hs.ln
  rw [own_right hs hr, bnd_some, atI_lt hi, bnd_some, atI_lt hk, bnd_some, Int.toNat_natCast, Int.toNat_natCast, grd_pos (by omega), grd_pos (by omega)]
  have hpi := (hr.pins _ (List.getElem_mem hi)).1
  rw [sortF_eq (by rw [List.length_append]; omega), bnd_some, show w64 ((k : Int) + 1) = ((k + 1 : Nat) : Int) by rw [w64_id (by omega) (by omega)]; omega, delete_eq (by simp only [List.length_set]; exact hk), bnd_some]
  have hport := hr.port _ (List.getElem_mem hi)
  have e1 : ∀ A : Net, (x.Nets.set i A).set k x.Nets[k] = x.Nets.set i A := fun A => by
    have hk' : k < (x.Nets.set i A).length := by rw [List.length_set]; exact hk
    have e : (x.Nets.set i A)[k]'hk' = x.Nets[k] := List.getElem_set_ne (by omega) _
    rw [← e]
    exact List.set_getElem_self hk'
  rw [e1, List.set_set, hport]
  rfl
theorem nl_Joined_eq {t : List PartType} {x : Netlist} (hs : Small t x) (a b : ByteArray) : nl_Joined t x a b = some (joinR t x a b) := by
  have hlim : lim = 1099511627776 := rfl
  unfold nl_Joined joinR
  rw [nl_list hs, bnd_some]
  by_cases h0 : listF t x = 0
  · have hr := listF_right h0
    have hnr := rising_pw.2 hr.nrise
    rw [h0, show ((0 : Int) != 0) = false from rfl, cnd_f, nl_net_at hnr hs.ln, bnd_some, nl_net_at hnr hs.ln, bnd_some, if_neg (by simp)]
    generalize hia : ixN (·.Name) x.Nets a = ia
    generalize hib : ixN (·.Name) x.Nets b = ib
    have ha := ixN_lt (f := fun n : Net => n.Name) (xs := x.Nets) (s := a)
    have hb := ixN_lt (f := fun n : Net => n.Name) (xs := x.Nets) (s := b)
    rw [hia] at ha
    rw [hib] at hb
    unfold joinG
    by_cases h1 : ia < 0 ∨ ib < 0
    · rw [if_pos h1]
      rcases h1 with h1 | h1
      · rw [decide_eq_true h1, cnd_t, bnd1_some, cnd_t]
      · by_cases h2 : ia < 0
        · rw [decide_eq_true h2, cnd_t, bnd1_some, cnd_t]
        · rw [decide_eq_false h2, cnd_f, decide_eq_true h1, bnd1_some, cnd_t]
    · rw [if_neg h1, decide_eq_false (fun q => h1 (.inl q)), cnd_f, decide_eq_false (fun q => h1 (.inr q)), bnd1_some, cnd_f]
      by_cases h2 : ia = ib
      · rw [if_pos h2, show (ia == ib) = true by simpa using h2, cnd_t]
      · have la := ha (fun q => h1 (.inl q))
        have lb := hb (fun q => h1 (.inr q))
        rw [if_neg h2, show (ia == ib) = false by simpa using h2, cnd_f, dif_pos ⟨la, lb⟩]
        obtain ⟨i, rfl⟩ : ∃ i : Nat, ia = (i : Int) := ⟨ia.toNat, by omega⟩
        obtain ⟨k, rfl⟩ : ∃ k : Nat, ib = (k : Int) := ⟨ib.toNat, by omega⟩
        simp only [Int.toNat_natCast] at la lb ⊢
        rw [atI_lt la, bnd_some, atI_lt lb, bnd_some]
        have p1 := (hr.pins _ (List.getElem_mem la)).2
        have p2 := (hr.pins _ (List.getElem_mem lb)).2
        have ew : w64 (((x.Nets[i].Pins.length : Nat) : Int) + ((x.Nets[k].Pins.length : Nat) : Int)) = ((x.Nets[i].Pins.length + x.Nets[k].Pins.length : Nat) : Int) := by rw [w64_id (by omega) (by omega)]; omega
        rw [ew]
        by_cases h3 : x.Nets[i].Pins.length + x.Nets[k].Pins.length > 500
        · rw [decide_eq_true (by omega), cnd_t, if_pos h3]
        · rw [decide_eq_false (by omega), cnd_f, if_neg h3]
          have hne : i ≠ k := fun q => h2 (by rw [q])
          have emn : mn (i : Int) (k : Int) = ((min i k : Nat) : Int) := by unfold mn; split <;> omega
          have emx : mx (i : Int) (k : Int) = ((max i k : Nat) : Int) := by unfold mx; split <;> omega
          rw [emn, emx]
          refine joined_core hs hr (by omega) (by omega) (by omega) ?_
          rcases Nat.lt_or_ge i k with q | q
          · have e1 : min i k = i := by omega
            have e2 : max i k = k := by omega
            simp only [e1, e2]; omega
          · have e1 : min i k = k := by omega
            have e2 : max i k = i := by omega
            simp only [e1, e2]; omega
  · rw [bne_iff_ne.2 h0, cnd_t, if_pos h0]

/-! ### The reference's pins in order -/
theorem insert_eq {l : List Pin} {k : Nat} {p : Pin} (hk : k ≤ l.length) (hl : l.length + 1 ≤ lim) : h_Insert_Pin l (k : Int) [p] = some (l.take k ++ p :: l.drop k) := by
  unfold h_Insert_Pin
  rw [grd_pos ⟨by omega, by omega, by simp, by simpa using hl⟩, Int.toNat_natCast, List.append_assoc]
  rfl
theorem place_loop {a0 : List Pin} {i1 : Nat} {out : List Pin} {p : Pin} (hl : out.length ≤ lim) : ∀ (k : Nat), k ≤ out.length → (∀ j (hj : j < out.length), k ≤ j → plt p out[j]) →
    ∃ m : Nat, m ≤ out.length ∧ iter (fun s => ref_sortedPins_b1 a0 i1 out p s) (k + 1) (k : Int) = some (.fin (m : Int)) ∧ (∀ (h : 0 < m), ∀ h' : m - 1 < out.length, ¬ plt p out[m - 1]) ∧ ∀ j (hj : j < out.length), m ≤ j → plt p out[j]
  | 0, hk, hj => by
    have hb : ref_sortedPins_b1 a0 i1 out p ((0 : Nat) : Int) = some (.brk ((0 : Nat) : Int)) := rfl
    exact ⟨0, Nat.zero_le _, by simp only [iter, hb], fun h => by omega, hj⟩
  | k + 1, hk, hj => by
    have hlim : lim = 1099511627776 := rfl
    have ew : w64 (((k + 1 : Nat) : Int) - 1) = (k : Int) := by rw [w64_id (by omega) (by omega)]; omega
    have hb : ref_sortedPins_b1 a0 i1 out p ((k + 1 : Nat) : Int) = some (if plt p (out[k]'(by omega)) then .go (k : Int) else .brk ((k + 1 : Nat) : Int)) := by
      unfold ref_sortedPins_b1
      rw [decide_eq_true (by omega), cnd_t, ew, atI_lt (by omega), bnd_some, ref_before_eq, bnd_some, bnd1_some]
      by_cases h : plt p (out[k]'(by omega))
      · rw [decide_eq_true h, cnd_t, if_pos h]
      · rw [decide_eq_false h, cnd_f, if_neg h]
    by_cases h : plt p (out[k]'(by omega))
    · rw [if_pos h] at hb
      obtain ⟨m, h1, h2, h3, h4⟩ := place_loop (a0 := a0) (i1 := i1) hl k (by omega) (fun j hj' hkj => by
        by_cases e : j = k
        · subst e; exact h
        · exact hj j hj' (by omega))
      refine ⟨m, h1, ?_, h3, h4⟩
      rw [iter]
      simp only [hb]
      exact h2
    · rw [if_neg h] at hb
      refine ⟨k + 1, hk, ?_, fun _ _ => by simpa using h, hj⟩
      rw [iter]
      simp only [hb]
theorem ref_sortedPins_eq {l : List Pin} (hl : l.length + 1 ≤ lim) : ref_sortedPins l = some (sortP l) := by
  unfold ref_sortedPins
  obtain ⟨s, h1, h2⟩ := forN_go (ρ := List Pin) (b := fun i1 s => ref_sortedPins_b0 l i1 s) (N := l.length) (fun j s => s = sortP (l.take j)) (fun j s hj hR => by
    have hsl : s.length = j := by rw [hR, sortP_len, List.length_take]; omega
    have hpw : s.Pairwise fun p q => ple p q = true := by rw [hR]; exact sortP_pw _
    obtain ⟨m, k1, k2, k3, k4⟩ := place_loop (a0 := l) (i1 := j) (out := s) (p := l[j]) (by omega) s.length (Nat.le_refl _) (fun j' hj' hk => by omega)
    refine ⟨s.take m ++ l[j] :: s.drop m, ?_, ?_⟩
    · unfold ref_sortedPins_b0
      rw [atI_lt hj, bnd_some, loop_i k2, aft1_fin, insert_eq k1 (by omega), bnd_some]
    · refine eq_sortP ?_ (ins_sorted hpw k1 (fun h => k3 h (by omega)) k4)
      refine (ins_perm s l[j] m).trans ?_
      rw [List.take_succ_eq_append_getElem hj]
      refine List.Perm.trans ?_ List.perm_append_comm
      show (l[j] :: s).Perm (l[j] :: l.take j)
      rw [hR]
      exact (sortP_perm _).cons _) l.length 0 [] (Nat.zero_add _) (by simp [sortP])
  rw [h1, aft1_fin, h2, List.take_of_length_le (Nat.le_refl _)]
end Go.Proofs.YtlbndchfmdogeaaGreatDoor.Sym

/- Plain facts on chapter 2's Joined: what the reference makes of two nets. Conditions: none. -/
set_option linter.unusedVariables false
set_option linter.unusedSimpArgs false
namespace Go.Proofs.YtlbndchfmdogeaaGreatDoor.Sym
open Go Go.RowKit

theorem ref_net_named (x : Netlist) (s : ByteArray) : ref_netNamed x s = some (ixN (·.Name) x.Nets s) := by
  have e : ref_netNamed x s = LIN' (fun x => sEq x.Name s) x.Nets := rfl
  rw [e, LIN'_eq, ixN_eq (f := fun x : Net => x.Name)]
theorem clone_one {α : Type} {xs : List α} (h : xs.length ≤ lim) : (grd (([] : List α).length + xs.length ≤ lim) <| some (([] : List α) ++ xs)) = some xs := by
  rw [grd_pos (by simpa using h), List.nil_append]
/-- The nets that there are behind the first j. -/
def joinF (l : List Net) (i k : Nat) (hi : i < l.length) (hk : k < l.length) (j : Nat) : List Net := (joinN l i k hi hk).take (if j ≤ k then j else j - 1)
theorem joinF_step {l : List Net} {i k : Nat} {hi : i < l.length} {hk : k < l.length} {j : Nat} (hj : j < l.length) : joinF l i k hi hk (j + 1) = if j = k then joinF l i k hi hk j else joinF l i k hi hk j ++ [if j = i then netJ l[i] l[k] else l[j]] := by
  have hl := joinN_len (l := l) (i := i) (k := k) (hi := hi) (hk := hk)
  unfold joinF
  by_cases h : j = k
  · subst h
    rw [if_pos rfl, if_neg (by omega), if_pos (Nat.le_refl _)]
    rfl
  · rw [if_neg h]
    have key : ∀ a (ha : a < (joinN l i k hi hk).length), (if a < k then a else a + 1) = j → (joinN l i k hi hk)[a] = if j = i then netJ l[i] l[k] else l[j] := fun a ha e => by
      obtain ⟨b, hb, _, e1, e2⟩ := joinN_get ha
      have : b = j := by rw [e1, e]
      subst this
      exact e2
    by_cases h2 : j < k
    · rw [if_pos (by omega), if_pos (by omega), List.take_succ_eq_append_getElem (by omega), key j (by omega) (if_pos h2)]
    · rw [if_neg (by omega), if_neg (by omega), show j + 1 - 1 = (j - 1) + 1 by omega, List.take_succ_eq_append_getElem (by omega), key (j - 1) (by omega) (by rw [if_neg (by omega)]; omega)]
theorem ref_joined_loop {t : List PartType} {x : Netlist} (hs : Small t x) (hr : Right t x) {i k : Nat} (hi : i < x.Nets.length) (hk : k < x.Nets.length) (hik : i ≠ k) (hlen : x.Nets[i].Pins.length + x.Nets[k].Pins.length ≤ 500) {ia ib : Int} (ha : ia = (i : Int) ∧ ib = (k : Int) ∨ ia = (k : Int) ∧ ib = (i : Int)) (hmin : mn ia ib = (i : Int)) (hmax : mx ia ib = (k : Int)) (ps : List Part) :
    forN (fun i22 s => ref_Joined_b0 x ia ib ps i22 s) x.Nets.length 0 [] = some (.fin (joinN x.Nets i k hi hk)) := by
  have hlim : lim = 1099511627776 := rfl
  have hl := hs.ln
  obtain ⟨s, h1, h2⟩ := forN_go (ρ := Netlist × Int) (b := fun i22 s => ref_Joined_b0 x ia ib ps i22 s) (N := x.Nets.length) (fun j s => s = joinF x.Nets i k hi hk j) (fun j s hj hR => by
    have hsl : s.length ≤ j := by
      rw [hR]
      unfold joinF
      rw [List.length_take]; split <;> omega
    refine ⟨joinF x.Nets i k hi hk (j + 1), ?_, rfl⟩
    rw [joinF_step hj, ← hR]
    unfold ref_Joined_b0
    rw [atI_lt hj, bnd_some, hmin, hmax]
    by_cases e1 : j = k
    · rw [if_pos e1, show ((j : Int) == (k : Int)) = true by simp [e1], cnd_t, bnd1_some]
    · rw [if_neg e1, show ((j : Int) == (k : Int)) = false by simp; omega, cnd_f]
      by_cases e2 : j = i
      · subst e2
        have hport := hr.port _ (List.getElem_mem hi)
        rw [show ((j : Int) == (j : Int)) = true by simp, cnd_t, if_pos rfl]
        have hc : ∀ xss : List (List Pin), slices_Concat_api_Pin_api_Pin xss = CONCAT (⟨(⟨#[]⟩ : ByteArray), (⟨#[]⟩ : ByteArray)⟩ : Pin) xss := fun _ => rfl
        rcases ha with ⟨rfl, rfl⟩ | ⟨rfl, rfl⟩
        · rw [atI_lt hi, bnd_some, atI_lt hk, bnd_some, hc, CONCAT_eq _ (by simp only [List.flatten_cons, List.flatten_nil, List.length_append, List.length_nil]; omega), bnd_some, ref_sortedPins_eq (by simp only [List.flatten_cons, List.flatten_nil, List.length_append, List.length_nil]; omega), bnd_some, grd_pos (by simp; omega), bnd1_some, bnd1_some]
          simp only [List.flatten_cons, List.flatten_nil, List.append_nil]
          rfl
        · rw [atI_lt hk, bnd_some, atI_lt hi, bnd_some, hc, CONCAT_eq _ (by simp only [List.flatten_cons, List.flatten_nil, List.length_append, List.length_nil]; omega), bnd_some, ref_sortedPins_eq (by simp only [List.flatten_cons, List.flatten_nil, List.length_append, List.length_nil]; omega), bnd_some, grd_pos (by simp; omega), bnd1_some, bnd1_some]
          simp only [List.flatten_cons, List.flatten_nil, List.append_nil]
          rw [sortP_congr (List.perm_append_comm (l₁ := x.Nets[k].Pins) (l₂ := x.Nets[j].Pins))]
          rfl
      · have hport := hr.port _ (List.getElem_mem hj)
        have hpl := (hr.pins _ (List.getElem_mem hj)).2
        have e3 : slices_Clone_api_Pin_api_Pin x.Nets[j].Pins = some x.Nets[j].Pins := clone_one (by omega)
        rw [show ((j : Int) == (i : Int)) = false by simp; omega, cnd_f, if_neg e2, e3, bnd_some, grd_pos (by simp; omega), bnd1_some, bnd1_some]
        have e4 : (⟨x.Nets[j].Name, x.Nets[j].Pins, []⟩ : Net) = x.Nets[j] := by rw [← hport]
        rw [e4]) x.Nets.length 0 [] (Nat.zero_add _) (by simp [joinF])
  rw [h1, h2]
  have hl2 := joinN_len (l := x.Nets) (i := i) (k := k) (hi := hi) (hk := hk)
  unfold joinF
  rw [List.take_of_length_le (by split <;> omega)]
theorem ref_Joined_eq {t : List PartType} {x : Netlist} (hs : Small t x) (a b : ByteArray) : ref_Joined t x a b = some (joinR t x a b) := by
  have hlim : lim = 1099511627776 := rfl
  unfold ref_Joined joinR
  rw [ref_list hs, bnd_some]
  by_cases h0 : listF t x = 0
  · have hr := listF_right h0
    rw [h0, show ((0 : Int) != 0) = false from rfl, cnd_f, ref_net_named, bnd_some, ref_net_named, bnd_some, if_neg (by simp)]
    generalize hia : ixN (·.Name) x.Nets a = ia
    generalize hib : ixN (·.Name) x.Nets b = ib
    have ha := ixN_lt (f := fun n : Net => n.Name) (xs := x.Nets) (s := a)
    have hb := ixN_lt (f := fun n : Net => n.Name) (xs := x.Nets) (s := b)
    rw [hia] at ha
    rw [hib] at hb
    unfold joinG
    by_cases h1 : ia < 0 ∨ ib < 0
    · rw [if_pos h1]
      rcases h1 with h1 | h1
      · rw [decide_eq_true h1, cnd_t, bnd1_some, cnd_t]
      · by_cases h2 : ia < 0
        · rw [decide_eq_true h2, cnd_t, bnd1_some, cnd_t]
        · rw [decide_eq_false h2, cnd_f, decide_eq_true h1, bnd1_some, cnd_t]
    · rw [if_neg h1, decide_eq_false (fun q => h1 (.inl q)), cnd_f, decide_eq_false (fun q => h1 (.inr q)), bnd1_some, cnd_f]
      by_cases h2 : ia = ib
      · rw [if_pos h2, show (ia == ib) = true by simpa using h2, cnd_t]
      · have la := ha (fun q => h1 (.inl q))
        have lb := hb (fun q => h1 (.inr q))
        rw [if_neg h2, show (ia == ib) = false by simpa using h2, cnd_f, dif_pos ⟨la, lb⟩]
        obtain ⟨i, rfl⟩ : ∃ i : Nat, ia = (i : Int) := ⟨ia.toNat, by omega⟩
        obtain ⟨k, rfl⟩ : ∃ k : Nat, ib = (k : Int) := ⟨ib.toNat, by omega⟩
        simp only [Int.toNat_natCast] at la lb ⊢
        rw [atI_lt la, bnd_some, atI_lt lb, bnd_some]
        have p1 := (hr.pins _ (List.getElem_mem la)).2
        have p2 := (hr.pins _ (List.getElem_mem lb)).2
        have ew : w64 (((x.Nets[i].Pins.length : Nat) : Int) + ((x.Nets[k].Pins.length : Nat) : Int)) = ((x.Nets[i].Pins.length + x.Nets[k].Pins.length : Nat) : Int) := by rw [w64_id (by omega) (by omega)]; omega
        rw [ew]
        by_cases h3 : x.Nets[i].Pins.length + x.Nets[k].Pins.length > 500
        · rw [decide_eq_true (by omega), cnd_t, if_pos h3]
        · rw [decide_eq_false (by omega), cnd_f, if_neg h3]
          have hne : i ≠ k := fun q => h2 (by rw [q])
          have emn : mn (i : Int) (k : Int) = ((min i k : Nat) : Int) := by unfold mn; split <;> omega
          have emx : mx (i : Int) (k : Int) = ((max i k : Nat) : Int) := by unfold mx; split <;> omega
          have ec : slices_Clone_api_Part_api_Part x.Parts = some x.Parts := clone_one hs.lp
          rw [ec, bnd_some, ref_joined_loop hs hr (i := min i k) (k := max i k) (by omega) (by omega) (by omega) ?_ ?_ emn emx x.Parts, aft1_fin]
          · rcases Nat.lt_or_ge i k with q | q
            · have e1 : min i k = i := by omega
              have e2 : max i k = k := by omega
              simp only [e1, e2]; omega
            · have e1 : min i k = k := by omega
              have e2 : max i k = i := by omega
              simp only [e1, e2]; omega
          · rcases Nat.lt_or_ge i k with q | q
            · exact .inl ⟨by omega, by omega⟩
            · exact .inr ⟨by omega, by omega⟩
  · rw [bne_iff_ne.2 h0, cnd_t, if_pos h0]
end Go.Proofs.YtlbndchfmdogeaaGreatDoor.Sym

/- Plain facts: that equal pins are found equal. Conditions: none. -/
set_option linter.unusedVariables false
set_option linter.unusedSimpArgs false
namespace Go.Proofs.YtlbndchfmdogeaaGreatDoor.Sym
open Go Go.RowKit

/-- slices.Equal of a list with itself. -/
noncomputable def EQL {α : Type} (ne : α → α → Bool) (a0 a1 : List α) : Option Bool :=
 cnd ((a0.length : Int) != (a1.length : Int)) (some false) (aft0 (forN (ρ := Bool) (fun i _ => bnd (atI a0 (i : Int)) fun x => bnd (atI a1 (i : Int)) fun y => cnd (ne x y) (some (.ret false)) (some (.go ()))) a0.length 0 ()) (some true) (fun r => some r))
theorem EQL_refl {α : Type} {ne : α → α → Bool} (h : ∀ x, ne x x = false) (l : List α) : EQL ne l l = some true := by
  unfold EQL
  rw [show ((l.length : Int) != (l.length : Int)) = false by simp, cnd_f, forN_any (p := fun _ : α => false) (r := false) fun j hj => ?_]
  · simp [aft0_fin]
  · rw [atI_lt hj, bnd_some, bnd_some, h, cnd_f]
    rfl
theorem sNe_self (s : ByteArray) : sNe s s = false := by rw [sNe_iff]; simp
theorem sEq_self (s : ByteArray) : sEq s s = true := by rw [sEq_iff]; simp
theorem eq_pins (l : List Pin) : slices_Equal_api_Pin_api_Pin l l = some true := by
  have e : slices_Equal_api_Pin_api_Pin l l = EQL (fun x y : Pin => !(sEq x.Part y.Part && (sEq x.Pin y.Pin && true))) l l := rfl
  rw [e]
  exact EQL_refl (fun x => by simp [sEq_self]) l
end Go.Proofs.YtlbndchfmdogeaaGreatDoor.Sym

/- Plain facts on chapter 2's lists: that equal lists are found alike. Conditions: none. -/
set_option linter.unusedVariables false
set_option linter.unusedSimpArgs false
namespace Go.Proofs.YtlbndchfmdogeaaGreatDoor.Sym
open Go Go.RowKit

theorem eq_parts (l : List Part) : slices_Equal_api_Part_api_Part l l = some true := by
  have e : slices_Equal_api_Part_api_Part l l = EQL (fun x y : Part => !(sEq x.Name y.Name && (sEq x.Type_ y.Type_ && true))) l l := rfl
  rw [e]
  exact EQL_refl (fun x => by simp [sEq_self]) l
theorem eq_strs (l : List ByteArray) : slices_Equal_string_string l l = some true := by
  have e : slices_Equal_string_string l l = EQL sNe l l := rfl
  rw [e]
  exact EQL_refl sNe_self l
theorem ref_Same_refl (x : Netlist) : ref_Same x x = some true := by
  unfold ref_Same
  rw [eq_parts, bnd_some, show (!true) = false from rfl, cnd_f, bnd1_some, show ((x.Nets.length : Int) != (x.Nets.length : Int)) = false by simp, cnd_f, forN_any (p := fun _ : Net => false) (r := false) fun j hj => ?_]
  · simp [aft0_fin]
  · unfold ref_Same_b0
    rw [atI_lt hj, bnd_some, bnd_some, sNe_self, cnd_f, bnd_some, eq_pins, bnd_some, show (!true) = false from rfl, cnd_f, bnd_some, eq_strs, bnd_some, bnd1_some]
    rfl
end Go.Proofs.YtlbndchfmdogeaaGreatDoor.Sym

/- The law on Joined: its plain form is true. Conditions: of all data together there is at most so much. -/
set_option linter.unusedVariables false
set_option linter.unusedSimpArgs false
namespace Go.Proofs.YtlbndchfmdogeaaGreatDoor.Sym
open Go Go.RowKit
theorem NetlistJoinedMatchesSpec_true (t : List PartType) (x : Netlist) (a b : ByteArray) (h : (cBss (List.map e_PartType t) + 1) + cBs (e_Netlist x) + (a.size + 1) + (b.size + 1) ≤ 1048576) : law_NetlistJoinedMatchesSpec t x a b = some true := by
  have hlim : lim = 1099511627776 := rfl
  have hs : Small t x := small_of (n := 1048576) (m := 1048576) (by omega) (by omega) (by omega) (by omega)
  unfold law_NetlistJoinedMatchesSpec
  rw [nl_Joined_eq hs, bnd_some, ref_Joined_eq hs, bnd_some, show ((joinR t x a b).2 == (joinR t x a b).2) = true by simp, cnd_t, ref_Same_refl, bnd_some, cnd_t, awake_true]
  rfl
end Go.Proofs.YtlbndchfmdogeaaGreatDoor.Sym

