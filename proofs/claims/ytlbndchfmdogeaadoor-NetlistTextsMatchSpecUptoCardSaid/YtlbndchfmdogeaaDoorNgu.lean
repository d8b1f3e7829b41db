/- Plain facts on chapter 2's Text: both packages write the text as told. Conditions: the text is not too large. -/
import Derived.Test.YtlbndchfmdogeaaDoorNgt
set_option linter.unusedVariables false
set_option linter.unusedSimpArgs false
namespace Go.Proofs.YtlbndchfmdogeaaDoor.Sym
open Go Go.RowKit

theorem forN_cat {α ρ : Type} {xs : List α} {f : α → ByteArray} {ok : α → Bool} {r : ρ} {b : Nat → ByteArray → Option (Stp ByteArray ρ)} {M : Nat}
    (h : ∀ j (hj : j < xs.length) (y : ByteArray), y.size + (f xs[j]).size ≤ M → b j y = some (if ok xs[j] = true then .go (y ++ f xs[j]) else .ret r)) :
    ∀ (n i : Nat) (s : ByteArray), i + n = xs.length → s.size + (catB ((xs.drop i).map f)).size ≤ M → forN b n i s = some (if (xs.drop i).all ok = true then .fin (s ++ catB ((xs.drop i).map f)) else .ret r)
  | 0, i, s, hi, hs => by
    rw [List.drop_of_length_le (by omega)]
    simp only [forN, List.all_nil, if_true, List.map_nil, catB, ba_nil]
  | n + 1, i, s, hi, hs => by
    have hil : i < xs.length := by omega
    rw [List.drop_eq_getElem_cons hil] at hs ⊢
    rw [List.map_cons, catB, ba_size] at hs
    simp only [forN, h i hil s (by omega), List.all_cons, List.map_cons, catB]
    cases hk : ok xs[i] with
    | false => simp
    | true =>
      simp only [if_true, Bool.true_and]
      rw [forN_cat h n (i + 1) (s ++ f xs[i]) (by omega) (by rw [ba_size]; omega), ba_assoc]
theorem partT_eq (p : Part) : ((((⟨#[112, 97, 114, 116, 32]⟩ : ByteArray) ++ p.Name) ++ (⟨#[32]⟩ : ByteArray)) ++ p.Type_) ++ (⟨#[10]⟩ : ByteArray) = partT p := by
  have e : (⟨#[112, 97, 114, 116, 32]⟩ : ByteArray) = sPart ++ sp1 := rfl
  rw [e]
  unfold partT joinB
  simp only [List.map_cons, List.map_nil, catB, ba_nil, ba_assoc]
theorem text_b0 {x : Netlist} {j : Nat} (hj : j < x.Parts.length) {y : ByteArray} (hy : y.size + (partT x.Parts[j]).size ≤ lim) : nl_Text_b0 x j y = some (if okPart x.Parts[j] = true then .go (y ++ partT x.Parts[j]) else .ret (⟨#[]⟩, 3)) := by
  unfold nl_Text_b0
  rw [atI_lt hj, bnd_some]
  have e := partT_eq x.Parts[j]
  rw [e]
  have h5 : (⟨#[112, 97, 114, 116, 32]⟩ : ByteArray).size = 5 := rfl
  have h1 : (⟨#[32]⟩ : ByteArray).size = 1 := rfl
  have h2 : (⟨#[10]⟩ : ByteArray).size = 1 := rfl
  have hs := congrArg ByteArray.size e
  simp only [ba_size] at hs
  simp only [nl_word_text, bnd_some]
  unfold okPart
  cases plainW x.Parts[j].Name with
  | false => rfl
  | true =>
    cases plainW x.Parts[j].Type_ with
    | false => rfl
    | true =>
      simp only [Bool.not_true, cnd_f, bnd1_some, ba_size]
      rw [grd_pos (by omega), grd_pos (by omega), grd_pos (by omega), grd_pos (by omega), grd_pos (by omega)]
      rfl
theorem pinT_eq (p : Pin) : (((⟨#[32]⟩ : ByteArray) ++ p.Part) ++ (⟨#[46]⟩ : ByteArray)) ++ p.Pin = sp1 ++ pinB p := by
  unfold pinB
  simp only [ba_assoc]
theorem text_b2 {x : Netlist} {i : Nat} {n : Net} {j : Nat} (hj : j < n.Pins.length) {y : ByteArray} (hy : y.size + (sp1 ++ pinB n.Pins[j]).size ≤ lim) : nl_Text_b2 x i n j y = some (if okPin n.Pins[j] = true then .go (y ++ (sp1 ++ pinB n.Pins[j])) else .ret (⟨#[]⟩, 3)) := by
  unfold nl_Text_b2
  rw [atI_lt hj, bnd_some]
  have e := pinT_eq n.Pins[j]
  rw [e]
  have h1 : (⟨#[32]⟩ : ByteArray).size = 1 := rfl
  have h2 : (⟨#[46]⟩ : ByteArray).size = 1 := rfl
  have hs := congrArg ByteArray.size e
  simp only [ba_size] at hs hy
  simp only [nl_word_text, bnd_some]
  unfold okPin
  cases plainW n.Pins[j].Part with
  | false => rfl
  | true =>
    cases plainW n.Pins[j].Pin with
    | false => rfl
    | true =>
      simp only [Bool.not_true, cnd_f, bnd1_some, ba_size]
      rw [grd_pos (by omega), grd_pos (by omega), grd_pos (by omega), grd_pos (by omega)]
      rfl
theorem netT_eq (n : Net) (y : ByteArray) : ((y ++ ((⟨#[110, 101, 116, 32]⟩ : ByteArray) ++ n.Name)) ++ catB (n.Pins.map fun p => sp1 ++ pinB p)) ++ (⟨#[10]⟩ : ByteArray) = y ++ netT n := by
  have e : (⟨#[110, 101, 116, 32]⟩ : ByteArray) = sNet ++ sp1 := rfl
  rw [e]
  unfold netT joinB
  have e2 : (n.Pins.map pinB).map (fun v => sp1 ++ v) = n.Pins.map fun p => sp1 ++ pinB p := by rw [List.map_map]; rfl
  simp only [List.map_cons, catB, ba_assoc, e2]
theorem text_b1 {x : Netlist} {j : Nat} (hj : j < x.Nets.length) {y : ByteArray} (hy : y.size + (netT x.Nets[j]).size ≤ lim) : nl_Text_b1 x j y = some (if okNet x.Nets[j] = true then .go (y ++ netT x.Nets[j]) else .ret (⟨#[]⟩, 3)) := by
  unfold nl_Text_b1
  rw [atI_lt hj, bnd_some]
  generalize hn : x.Nets[j] = n at hy
  have e := netT_eq n y
  have h1 : (⟨#[110, 101, 116, 32]⟩ : ByteArray).size = 4 := rfl
  have h2 : (⟨#[10]⟩ : ByteArray).size = 1 := rfl
  have hs := congrArg ByteArray.size e
  simp only [ba_size] at hs
  rw [nl_word_text, bnd_some]
  unfold okNet
  cases plainW n.Name with
  | false => rfl
  | true =>
    have hloop := forN_cat (xs := n.Pins) (f := fun p => sp1 ++ pinB p) (ok := okPin) (r := ((⟨#[]⟩ : ByteArray), (3 : Int))) (b := fun i32 s => nl_Text_b2 x j n i32 s) (M := lim) (fun k hk z hz => text_b2 hk hz) n.Pins.length 0 (y ++ ((⟨#[110, 101, 116, 32]⟩ : ByteArray) ++ n.Name)) (Nat.zero_add _) (by rw [List.drop_zero, ba_size, ba_size]; omega)
    rw [List.drop_zero] at hloop
    simp only [Bool.not_true, cnd_f, Bool.true_and]
    rw [grd_pos (by omega), grd_pos (by rw [ba_size]; omega), hloop]
    cases n.Pins.all okPin with
    | false => rfl
    | true =>
      simp only [if_true]
      rw [aft1_fin, grd_pos (by simp only [ba_size]; omega), e]
theorem nl_Text_eq {x : Netlist} (h : (catB (x.Parts.map partT)).size + (catB (x.Nets.map netT)).size ≤ lim) : nl_Text x = some (textR x) := by
  unfold nl_Text textR
  have h0 : (⟨#[]⟩ : ByteArray).size = 0 := rfl
  have hp := forN_cat (xs := x.Parts) (f := partT) (ok := okPart) (r := ((⟨#[]⟩ : ByteArray), (3 : Int))) (b := fun i1 s => nl_Text_b0 x i1 s) (M := lim) (fun k hk z hz => text_b0 hk hz) x.Parts.length 0 (⟨#[]⟩ : ByteArray) (Nat.zero_add _) (by rw [List.drop_zero]; omega)
  have hn := forN_cat (xs := x.Nets) (f := netT) (ok := okNet) (r := ((⟨#[]⟩ : ByteArray), (3 : Int))) (b := fun i23 s => nl_Text_b1 x i23 s) (M := lim) (fun k hk z hz => text_b1 hk hz) x.Nets.length 0 (catB (x.Parts.map partT)) (Nat.zero_add _) (by rw [List.drop_zero]; omega)
  rw [List.drop_zero] at hp hn
  rw [ba_nil'] at hp
  rw [hp]
  cases x.Parts.all okPart with
  | false => rfl
  | true =>
    simp only [if_true, Bool.true_and]
    rw [aft1_fin, hn]
    cases x.Nets.all okNet with
    | false => rfl
    | true =>
      simp only [if_true, if_neg (show ¬ true = false by simp)]
      rw [aft1_fin]
      unfold textB
      by_cases hs : ((catB (x.Parts.map partT) ++ catB (x.Nets.map netT)).size : Int) > 2000000
      · rw [decide_eq_true hs, cnd_t, if_pos hs]
      · rw [decide_eq_false hs, cnd_f, if_neg hs]
theorem ref_Text_nl (x : Netlist) : ref_Text x = nl_Text x := by
  have e0 : ref_Text_b0 = nl_Text_b0 := by
    funext a b c
    unfold ref_Text_b0 nl_Text_b0
    rw [nl_text_eq]
  have e2 : ref_Text_b2 = nl_Text_b2 := by
    funext a b c d e
    unfold ref_Text_b2 nl_Text_b2
    rw [nl_text_eq]
  have e1 : ref_Text_b1 = nl_Text_b1 := by
    funext a b c
    unfold ref_Text_b1 nl_Text_b1
    rw [nl_text_eq, e2]
  unfold ref_Text nl_Text
  rw [e0, e1]
end Go.Proofs.YtlbndchfmdogeaaDoor.Sym
