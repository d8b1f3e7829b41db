/- Plain facts on chapter 2's functions: how small things are, and that the package does what its chapter says of one simple thing. Conditions: none. -/
import Derived.Test.YtlbndchfmdogeaaGreatDoorNle
import Derived.Test.YtlbndchfmdogeaaGreatDoorSymx
set_option linter.unusedVariables false
set_option linter.unusedSimpArgs false
namespace Go.Proofs.YtlbndchfmdogeaaGreatDoor.Sym
open Go Go.RowKit

theorem cBss_map_mem {α : Type} {f : α → El} {l : List α} {x : α} (h : x ∈ l) : cBs (f x) ≤ cBss (List.map f l) := cBss_mem (List.mem_map.2 ⟨x, h, rfl⟩)
theorem cBss_map_len {α : Type} {f : α → El} (hf : ∀ x, 1 ≤ cBs (f x)) : ∀ (l : List α), l.length ≤ cBss (List.map f l)
  | [] => Nat.zero_le _
  | x :: l => by
    have := cBss_map_len hf l
    have := hf x
    simp only [List.map_cons, cBss, List.length_cons]; omega
theorem small_of {t : List PartType} {x : Netlist} {n m : Nat} (h1 : cBss (List.map e_PartType t) ≤ n) (h2 : cBs (e_Netlist x) ≤ m) (hn : n < lim) (hm : m < lim) : Small t x := by
  have hpt : ∀ y : PartType, 1 ≤ cBs (e_PartType y) := fun y => by simp only [e_PartType, cBs, cB]; omega
  have hpn : ∀ y : PinType, 1 ≤ cBs (e_PinType y) := fun y => by simp only [e_PinType, cBs, cB]; omega
  have hpa : ∀ y : Part, 1 ≤ cBs (e_Part y) := fun y => by simp only [e_Part, cBs, cB]; omega
  have hpi : ∀ y : Pin, 1 ≤ cBs (e_Pin y) := fun y => by simp only [e_Pin, cBs, cB]; omega
  have hne : ∀ y : Net, 1 ≤ cBs (e_Net y) := fun y => by simp only [e_Net, cBs, cB]; omega
  simp only [e_Netlist, cBs, cB] at h2
  have hl1 := cBss_map_len hpt t
  have hl2 := cBss_map_len hpa x.Parts
  have hl3 := cBss_map_len hne x.Nets
  refine ⟨by omega, fun y hy => ?_, by omega, fun y hy => ?_, by omega, fun y hy => ?_, fun y hy => ?_⟩
  · have := cBss_map_mem (f := e_PartType) hy
    have h3 := cBss_map_len hpn y.Pins
    simp only [e_PartType, cBs, cB] at this; omega
  · have := cBss_map_mem (f := e_Part) hy
    simp only [e_Part, cBs, cB] at this; omega
  · have := cBss_map_mem (f := e_Net) hy
    simp only [e_Net, cBs, cB] at this; omega
  · have := cBss_map_mem (f := e_Net) hy
    have h3 := cBss_map_len hpi y.Pins
    simp only [e_Net, cBs, cB] at this; omega

/-! ### awake -/
def aT : List PartType := [(⟨(⟨#[114]⟩ : ByteArray), [(⟨(⟨#[49]⟩ : ByteArray), 6, 0⟩ : PinType)]⟩ : PartType)]
def aX : Netlist := ⟨[(⟨(⟨#[97]⟩ : ByteArray), (⟨#[114]⟩ : ByteArray)⟩ : Part)], []⟩
theorem split_a : strings_Split (⟨#[97]⟩ : ByteArray) (⟨#[47]⟩ : ByteArray) = some [(⟨#[97]⟩ : ByteArray)] := by
  have h : loop (fun q : ByteArray × Int × List ByteArray => strings_genSplit_b0 (⟨#[97]⟩ : ByteArray) (⟨#[47]⟩ : ByteArray) 0 1 q.1 q.2.1 q.2.2) ((⟨#[97]⟩ : ByteArray), (0 : Int), [(⟨#[]⟩ : ByteArray)]) = some (.fin ((⟨#[97]⟩ : ByteArray), (0 : Int), [(⟨#[]⟩ : ByteArray)])) := loop_i (n := 1) (by kernel_rfl)
  have e : strings_genSplit (⟨#[97]⟩ : ByteArray) (⟨#[47]⟩ : ByteArray) 0 (-1) = aft3 (loop (fun q : ByteArray × Int × List ByteArray => strings_genSplit_b0 (⟨#[97]⟩ : ByteArray) (⟨#[47]⟩ : ByteArray) 0 1 q.1 q.2.1 q.2.2) ((⟨#[97]⟩ : ByteArray), (0 : Int), [(⟨#[]⟩ : ByteArray)])) (fun u24 u25 u26 =>
      bnd (atI u26 u25) fun x29 =>
      grd ((0 : Int) ≤ 0 ∧ 0 ≤ w64 (u25 + 1) ∧ w64 (u25 + 1) ≤ ((u26.set (Int.toNat u25) u24).length : Int)) <|
      some (((u26.set (Int.toNat u25) u24).take (Int.toNat 0 + ((w64 (u25 + 1)) - 0).toNat)).drop (Int.toNat 0)))
      (fun r28 => some r28) := by kernel_rfl
  unfold strings_Split
  rw [e, h]
  rfl
theorem isP_a : isP (⟨#[97]⟩ : ByteArray) = true := by
  unfold isP wordsOf
  rw [split_a]
  kernel_rfl
theorem parts_a : partsF aT aX.Parts = 0 := by
  have h : firstF aX.Parts (partF aT aX.Parts) = none := by
    have e : partF aT aX.Parts (⟨(⟨#[97]⟩ : ByteArray), (⟨#[114]⟩ : ByteArray)⟩ : Part) 0 = none := by
      unfold partF
      rw [isP_a]
      kernel_rfl
    refine List.findSome?_eq_none_iff.2 fun j hj => ?_
    have : j = 0 := by
      have : j < aX.Parts.length := by simpa using hj
      have e : aX.Parts.length = 1 := rfl
      omega
    subst this
    exact e
  unfold partsF
  rw [if_neg (by decide), h]
theorem list_a : listF aT aX = 0 := by
  have h1 : typesF aT = 0 := by kernel_rfl
  unfold listF
  rw [h1, parts_a]
  rfl
theorem loose_a : looseF aT aX = [(⟨(⟨#[97]⟩ : ByteArray), (⟨#[49]⟩ : ByteArray)⟩ : Pin)] := by kernel_rfl
theorem awake_true : law_awake = some true := by
  unfold law_awake
  have hs : Small aT aX := small_of (n := 1000) (m := 1000) (Nat.le_of_ble_eq_true (by kernel_rfl)) (Nat.le_of_ble_eq_true (by kernel_rfl)) (by unfold lim; omega) (by unfold lim; omega)
  have h := nl_Loose_eq hs
  rw [list_a, if_pos rfl, loose_a] at h
  have h' : nl_Loose ([(⟨(⟨#[114]⟩ : ByteArray), [(⟨(⟨#[49]⟩ : ByteArray), 6, 0⟩ : PinType)]⟩ : PartType)]) (⟨[(⟨(⟨#[97]⟩ : ByteArray), (⟨#[114]⟩ : ByteArray)⟩ : Part)], []⟩ : Netlist) = _ := h
  rw [h', bnd_some]
  simp only [sEq_iff]
  rfl
end Go.Proofs.YtlbndchfmdogeaaGreatDoor.Sym
