/- Plain facts on chapter 2's texts: what the text of a list is, and that it is read as the list. Conditions: none. -/
import Derived.Test.YtlbndchfmdogeaaDoorNgs
import Derived.Test.YtlbndchfmdogeaaDoorNgv
set_option linter.unusedVariables false
set_option linter.unusedSimpArgs false
namespace Go.Proofs.YtlbndchfmdogeaaDoor.Sym
open Go Go.RowKit

abbrev nl1 : ByteArray := ⟨#[10]⟩
abbrev dot1 : ByteArray := ⟨#[46]⟩
def pinB (p : Pin) : ByteArray := p.Part ++ (dot1 ++ p.Pin)
def partT (p : Part) : ByteArray := joinB sPart [p.Name, p.Type_] ++ nl1
def netT (n : Net) : ByteArray := joinB sNet (n.Name :: n.Pins.map pinB) ++ nl1
def okPart (p : Part) : Bool := plainW p.Name && plainW p.Type_
def okPin (p : Pin) : Bool := plainW p.Part && plainW p.Pin
def okNet (n : Net) : Bool := plainW n.Name && n.Pins.all okPin
def textB (x : Netlist) : ByteArray := catB (x.Parts.map partT) ++ catB (x.Nets.map netT)
/-- What Text answers. -/
def textR (x : Netlist) : ByteArray × Int :=
  if (x.Parts.all okPart && x.Nets.all okNet) = false then (⟨#[]⟩, 3)
  else if ((textB x).size : Int) > 2000000 then (⟨#[]⟩, 2) else (textB x, 0)

/-! ### How large -/
theorem catB_size {α : Type} {f : α → ByteArray} {e : α → El} (h : ∀ x, (f x).size ≤ 7 * cBs (e x)) : ∀ l : List α, (catB (l.map f)).size ≤ 7 * cBss (l.map e)
  | [] => Nat.zero_le _
  | x :: l => by
    have := catB_size h l
    have := h x
    simp only [List.map_cons, catB, cBss, ba_size]; omega
theorem pinB_size (p : Pin) : (sp1 ++ pinB p).size ≤ 7 * cBs (e_Pin p) := by
  have h1 : sp1.size = 1 := rfl
  have h2 : dot1.size = 1 := rfl
  simp only [pinB, ba_size, e_Pin, cBs, cB]; omega
theorem partT_size (p : Part) : (partT p).size ≤ 7 * cBs (e_Part p) := by
  have h1 : sp1.size = 1 := rfl
  have h2 : nl1.size = 1 := rfl
  have h3 : sPart.size = 4 := rfl
  have h4 : (⟨#[]⟩ : ByteArray).size = 0 := rfl
  simp only [partT, joinB, List.map_cons, List.map_nil, catB, ba_size, e_Part, cBs, cB]; omega
theorem netT_size (n : Net) : (netT n).size ≤ 7 * cBs (e_Net n) := by
  have h1 : sp1.size = 1 := rfl
  have h2 : nl1.size = 1 := rfl
  have h3 : sNet.size = 3 := rfl
  have hp := catB_size (f := fun p => sp1 ++ pinB p) (e := e_Pin) pinB_size n.Pins
  have e : (n.Pins.map pinB).map (fun v => sp1 ++ v) = n.Pins.map fun p => sp1 ++ pinB p := by rw [List.map_map]; rfl
  simp only [netT, joinB, List.map_cons, catB, ba_size, e, e_Net, cBs, cB]; omega
theorem text_size {x : Netlist} {n : Nat} (h : cBs (e_Netlist x) ≤ n) : (catB (x.Parts.map partT)).size + (catB (x.Nets.map netT)).size ≤ 7 * n := by
  have h1 := catB_size partT_size x.Parts
  have h2 := catB_size netT_size x.Nets
  simp only [e_Netlist, cBs, cB] at h
  omega

/-! ### Read back -/
theorem nin_app {c : UInt8} {a b : ByteArray} (h1 : c ∉ bl a) (h2 : c ∉ bl b) : c ∉ bl (a ++ b) := by
  rw [bl_app, List.mem_append]; exact fun q => q.elim h1 h2
theorem nin_join {c : UInt8} (hc : c ≠ 32) {w : ByteArray} {ws : List ByteArray} (h1 : c ∉ bl w) (h2 : ∀ v ∈ ws, c ∉ bl v) : c ∉ bl (joinB w ws) := by
  unfold joinB
  refine nin_app h1 fun q => ?_
  obtain ⟨a, ha, hq⟩ := mem_catB q
  obtain ⟨v, hv, rfl⟩ := List.mem_map.1 ha
  exact nin_app (fun e => by simp [bl] at e; exact hc e) (h2 v hv) hq
theorem pinB_nin {p : Pin} (h : okPin p = true) {c : UInt8} (hb : badB c = true) (hc : c ≠ 46) : c ∉ bl (pinB p) := by
  unfold okPin at h
  rw [Bool.and_eq_true] at h
  exact nin_app (plain_nin h.1 hb) (nin_app (fun e => by simp [bl] at e; exact hc e) (plain_nin h.2 hb))
theorem pinW_pinB {p : Pin} (h : okPin p = true) : pinW (pinB p) = some p := by
  unfold okPin at h
  rw [Bool.and_eq_true] at h
  unfold pinW pinB
  rw [cut_mid p.Pin (plain_nin h.1 (by decide)), h.1, h.2]
  rfl
theorem pinsW_pinB : ∀ (l : List Pin) (acc : List Pin), (∀ p ∈ l, okPin p = true) → pinsW (l.map pinB) acc = some (acc ++ l)
  | [], acc, _ => by simp [pinsW]
  | p :: l, acc, h => by
    rw [List.map_cons, pinsW, pinW_pinB (h p List.mem_cons_self)]
    simp only
    rw [pinsW_pinB l (acc ++ [p]) (fun q hq => h q (List.mem_cons_of_mem _ hq)), List.append_assoc]
    rfl
theorem lineWs_join {w : ByteArray} {ws : List ByteArray} (h1 : (32 : UInt8) ∉ bl w) (h2 : ∀ v ∈ ws, (32 : UInt8) ∉ bl v) (ha : (joinB w ws).size < lim) : lineWs (joinB w ws) = w :: ws := by
  unfold lineWs
  have e := split_join h1 h2 ha
  have e2 : strings_Split (joinB w ws) (⟨#[32]⟩ : ByteArray) = some (w :: ws) := e
  rw [e2]; rfl
theorem step_line {b rest : ByteArray} {y3 : Int} {y4 : List Part} {y5 : List Net} {q : List Part × List Net} (h : (10 : UInt8) ∉ bl b) (hl : lineK y4 y5 (lineWs b) = some q) : stepF ((b ++ nl1) ++ rest) y3 y4 y5 = .go (rest, w64 (y3 + 1), q.1, q.2) := by
  have hne : ¬ (b ++ nl1) ++ rest = (⟨#[]⟩ : ByteArray) := fun e => by
    have := congrArg ByteArray.size e
    rw [ba_size, ba_size] at this
    have h1 : nl1.size = 1 := rfl
    have h2 : (⟨#[]⟩ : ByteArray).size = 0 := rfl
    omega
  unfold stepF
  rw [if_neg hne, ba_assoc, cut_mid rest h]
  simp only [hl]
theorem part_line {p : Part} {ps : List Part} (h : okPart p = true) (hs : (partT p).size < lim) : (10 : UInt8) ∉ bl (joinB sPart [p.Name, p.Type_]) ∧ lineK ps [] (lineWs (joinB sPart [p.Name, p.Type_])) = some (ps ++ [p], []) := by
  unfold okPart at h
  rw [Bool.and_eq_true] at h
  have hsz : (joinB sPart [p.Name, p.Type_]).size < lim := by
    unfold partT at hs
    rw [ba_size] at hs; omega
  have hv : ∀ c : UInt8, badB c = true → ∀ v ∈ [p.Name, p.Type_], c ∉ bl v := fun c hc v hv => by
    rcases List.mem_cons.1 hv with rfl | hv
    · exact plain_nin h.1 hc
    · rw [List.mem_singleton] at hv
      subst hv
      exact plain_nin h.2 hc
  refine ⟨nin_join (by decide) (by decide) (hv 10 (by decide)), ?_⟩
  rw [lineWs_join (by decide) (hv 32 (by decide)) hsz]
  unfold lineK
  rw [if_pos ⟨rfl, rfl, rfl⟩]
  simp only [h.1, h.2, Bool.and_self, if_true]
theorem net_line {n : Net} {ps : List Part} {ns : List Net} (h : okNet n = true) (hp : n.Ports = []) (hs : (netT n).size < lim) : (10 : UInt8) ∉ bl (joinB sNet (n.Name :: n.Pins.map pinB)) ∧ lineK ps ns (lineWs (joinB sNet (n.Name :: n.Pins.map pinB))) = some (ps, ns ++ [n]) := by
  unfold okNet at h
  rw [Bool.and_eq_true, List.all_eq_true] at h
  have hsz : (joinB sNet (n.Name :: n.Pins.map pinB)).size < lim := by
    unfold netT at hs
    rw [ba_size] at hs; omega
  have hv : ∀ c : UInt8, badB c = true → c ≠ 46 → ∀ v ∈ n.Name :: n.Pins.map pinB, c ∉ bl v := fun c hc h4 v hv => by
    rcases List.mem_cons.1 hv with rfl | hv
    · exact plain_nin h.1 hc
    · obtain ⟨p, hp, rfl⟩ := List.mem_map.1 hv
      exact pinB_nin (h.2 p hp) hc h4
  refine ⟨nin_join (by decide) (by decide) (hv 10 (by decide) (by decide)), ?_⟩
  rw [lineWs_join (by decide) (hv 32 (by decide) (by decide)) hsz]
  unfold lineK
  rw [if_neg (fun q => by
    have := q.1
    rw [List.head?_cons, Option.some.injEq] at this
    exact absurd (congrArg ByteArray.size this) (by decide)), if_pos ⟨rfl, by simp⟩]
  simp only
  rw [pinsW_pinB n.Pins [] h.2]
  simp only [h.1, if_true, List.nil_append]
  rw [← hp]
noncomputable abbrev rdB : ByteArray × Int × List Part × List Net → Option (Stp (ByteArray × Int × List Part × List Net) (Netlist × Int × Int)) := fun s => nl_Read_b0 s.1 s.2.1 s.2.2.1 s.2.2.2
theorem read_parts (n : Nat) (rest : ByteArray) : ∀ (l : List Part) (y3 : Int) (ps : List Part), (∀ p ∈ l, okPart p = true) → (catB (l.map partT) ++ rest).size + 3 ≤ lim → ps.length + l.length + 1 ≤ lim → 0 + 1 ≤ lim →
    ∃ y', iter rdB (l.length + n) (catB (l.map partT) ++ rest, y3, ps, []) = iter rdB n (rest, y', ps ++ l, [])
  | [], y3, ps, _, _, _, _ => ⟨y3, by
    rw [List.length_nil, Nat.zero_add, List.map_nil, catB, ba_nil', List.append_nil]⟩
  | p :: l, y3, ps, h, hs, hp, h0 => by
    have e : catB ((p :: l).map partT) ++ rest = (joinB sPart [p.Name, p.Type_] ++ nl1) ++ (catB (l.map partT) ++ rest) := by
      rw [List.map_cons, catB, ba_assoc]; rfl
    have hz : (partT p).size + ((catB (l.map partT) ++ rest).size) + 3 ≤ lim := by
      rw [e, ba_size] at hs; exact hs
    obtain ⟨k1, k2⟩ := part_line (p := p) (ps := ps) (h p List.mem_cons_self) (by omega)
    rw [List.length_cons] at hp
    obtain ⟨y', hy⟩ := read_parts n rest l (w64 (y3 + 1)) (ps ++ [p]) (fun q hq => h q (List.mem_cons_of_mem _ hq)) (by omega) (by rw [List.length_append, List.length_singleton]; omega) h0
    have hb : rdB (catB ((p :: l).map partT) ++ rest, y3, ps, []) = some (.go (catB (l.map partT) ++ rest, w64 (y3 + 1), ps ++ [p], [])) := by
      show nl_Read_b0 (catB ((p :: l).map partT) ++ rest) y3 ps [] = _
      rw [nl_step (y5 := []) hs (by omega) h0, e, step_line k1 k2]
    refine ⟨y', ?_⟩
    rw [List.length_cons, show l.length + 1 + n = (l.length + n) + 1 by omega, iter]
    simp only [hb]
    rw [hy, List.append_assoc]; rfl
theorem read_nets (n : Nat) (ps : List Part) (h1 : ps.length + 1 ≤ lim) : ∀ (l : List Net) (y3 : Int) (ns : List Net), (∀ p ∈ l, okNet p = true ∧ p.Ports = []) → (catB (l.map netT)).size + 3 ≤ lim → ns.length + l.length + 1 ≤ lim →
    ∃ y', iter rdB (l.length + n) (catB (l.map netT), y3, ps, ns) = iter rdB n (⟨#[]⟩, y', ps, ns ++ l)
  | [], y3, ns, _, _, _ => ⟨y3, by
    rw [List.length_nil, Nat.zero_add, List.map_nil, catB, List.append_nil]⟩
  | p :: l, y3, ns, h, hs, hp => by
    have e : catB ((p :: l).map netT) = (joinB sNet (p.Name :: p.Pins.map pinB) ++ nl1) ++ catB (l.map netT) := rfl
    have hz : (netT p).size + (catB (l.map netT)).size + 3 ≤ lim := by
      rw [e, ba_size] at hs; exact hs
    obtain ⟨k1, k2⟩ := net_line (n := p) (ps := ps) (ns := ns) (h p List.mem_cons_self).1 (h p List.mem_cons_self).2 (by omega)
    rw [List.length_cons] at hp
    obtain ⟨y', hy⟩ := read_nets n ps h1 l (w64 (y3 + 1)) (ns ++ [p]) (fun q hq => h q (List.mem_cons_of_mem _ hq)) (by omega) (by rw [List.length_append, List.length_singleton]; omega)
    have hb : rdB (catB ((p :: l).map netT), y3, ps, ns) = some (.go (catB (l.map netT), w64 (y3 + 1), ps, ns ++ [p])) := by
      show nl_Read_b0 (catB ((p :: l).map netT)) y3 ps ns = _
      rw [nl_step hs h1 (by omega), e, step_line k1 k2]
    refine ⟨y', ?_⟩
    rw [List.length_cons, show l.length + 1 + n = (l.length + n) + 1 by omega, iter]
    simp only [hb]
    rw [hy, List.append_assoc]; rfl
/-- A text is read as its list. -/
theorem read_back {x : Netlist} (h1 : ∀ p ∈ x.Parts, okPart p = true) (h2 : ∀ n ∈ x.Nets, okNet n = true) (h3 : ∀ n ∈ x.Nets, n.Ports = []) (h4 : ¬ ((textB x).size : Int) > 2000000) (h5 : x.Parts.length + 1 ≤ lim) (h6 : x.Nets.length + 1 ≤ lim) : nl_Read (textB x) = some (x, 0, 0) := by
  have hlim : lim = 1099511627776 := rfl
  unfold nl_Read
  rw [decide_eq_false h4, cnd_f]
  have hsz : (textB x).size = (catB (x.Parts.map partT)).size + (catB (x.Nets.map netT)).size := ba_size _ _
  obtain ⟨y1, k1⟩ := read_parts (x.Nets.length + 1) (catB (x.Nets.map netT)) x.Parts 1 [] h1 (by rw [ba_size]; omega) (by simpa using h5) (by omega)
  obtain ⟨y2, k2⟩ := read_nets 1 x.Parts h5 x.Nets y1 [] (fun n hn => ⟨h2 n hn, h3 n hn⟩) (by omega) (by simpa using h6)
  rw [List.nil_append] at k1 k2
  rw [k2] at k1
  have k3 : iter rdB 1 (⟨#[]⟩, y2, x.Parts, x.Nets) = some (.fin (⟨#[]⟩, y2, x.Parts, x.Nets)) := by
    have hb : rdB (⟨#[]⟩, y2, x.Parts, x.Nets) = some (.brk (⟨#[]⟩, y2, x.Parts, x.Nets)) := by
      show nl_Read_b0 ⟨#[]⟩ y2 x.Parts x.Nets = _
      rw [nl_step (by show 0 + 3 ≤ lim; omega) h5 h6]
      unfold stepF
      rw [if_pos rfl]
    rw [iter]
    simp only [hb]
  rw [k3] at k1
  have k4 : loop (fun s : ByteArray × Int × List Part × List Net => nl_Read_b0 s.1 s.2.1 s.2.2.1 s.2.2.2) (textB x, 1, [], []) = some (.fin (⟨#[]⟩, y2, x.Parts, x.Nets)) := loop_i k1
  rw [k4]
  rfl
end Go.Proofs.YtlbndchfmdogeaaDoor.Sym
