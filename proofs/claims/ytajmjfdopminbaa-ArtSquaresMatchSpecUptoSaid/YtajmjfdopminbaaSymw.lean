/- Sym: keys of maps: what values are ones (keys). Conditions: of a type, what keyOk asks. -/
import Derived.Test.YtajmjfdopminbaaSymv
import Derived.StringKeys
set_option linter.unusedVariables false
set_option linter.unusedSimpArgs false
namespace Go.Proofs.Ytajmjfdopminbaa.Sym
open Go Go.RowKit

inductive FK : Type where
  | s
  | i (k : IntKind)
  | b
inductive KV : FK → Value → Prop where
  | s (s : ByteArray) (h : s.size ≤ maxLen) : KV .s (.string s)
  | i (k : IntKind) (n : Int) (h : (Lit.int k n).wf = true) : KV (.i k) (.int k n)
  | b (x : Bool) : KV .b (.bool x)
def kindOk (P : Program) (t : TypeId) : FK → Bool
  | .s => match P.underlying t with
    | some .string => true
    | _ => false
  | .i k => match P.underlying t with
    | some (.int q) => decide (q = k)
    | _ => false
  | .b => match P.underlying t with
    | some .bool => true
    | _ => false
def fsOk (P : Program) : List Field → Nat → List FK → Bool
  | [], _, [] => true
  | f :: fs, i, k :: ks => f.offset == i && P.cellsOf f.type == 1 && kindOk P f.type k && fsOk P fs (i + 1) ks
  | _, _, _ => false
def keyOk (P : Program) (t : TypeId) (ks : List FK) : Bool := match P.underlying t with
  | some (.struct fs) => P.keyType t && P.cellsOf t == ks.length && fs.all (·.name != "_") && fsOk P fs.toList 0 ks && Nat.blt 0 P.types.size
  | _ => false
section
variable {P : Program}
theorem kind_s {t : TypeId} (h : kindOk P t .s = true) : P.underlying t = some .string := by
  simp only [kindOk] at h
  split at h
  · assumption
  · cases h
theorem kind_i {t : TypeId} {k : IntKind} (h : kindOk P t (.i k) = true) : P.underlying t = some (.int k) := by
  simp only [kindOk] at h
  split at h
  · rename_i q e
    have : q = k := by simpa using h
    rw [e, this]
  · cases h
theorem kind_b {t : TypeId} (h : kindOk P t .b = true) : P.underlying t = some .bool := by
  simp only [kindOk] at h
  split at h
  · assumption
  · cases h
theorem keyLits_one {d : Nat} {t : TypeId} {k : FK} {v : Value} (hk : kindOk P t k = true) (hv : KV k v) : ∃ l, P.keyLits (d + 1) t [v] = some l := by
  cases hv with
  | s s h => exact ⟨[.string s.data.toList], by simp [Program.keyLits, kind_s hk, h]⟩
  | i k n h => exact ⟨[.int k n], by simp [Program.keyLits, kind_i hk, h]⟩
  | b x => exact ⟨[.bool x], by simp [Program.keyLits, kind_b hk]⟩
theorem keyLits_fields {d : Nat} {vs : List Value} : ∀ (fs : List Field) (i : Nat) (ks : List FK), fsOk P fs i ks = true → All2 KV ks (vs.drop i) → ∃ ls, (fs.mapM fun f => P.keyLits (d + 1) f.type ((vs.drop f.offset).take (P.cellsOf f.type))) = some ls
  | [], i, ks, h, hv => ⟨[], rfl⟩
  | f :: fs, i, [], h, hv => by simp [fsOk] at h
  | f :: fs, i, k :: ks, h, hv => by
    simp only [fsOk, Bool.and_eq_true, beq_iff_eq] at h
    obtain ⟨⟨⟨h1, h2⟩, h3⟩, h4⟩ := h
    generalize hd : vs.drop i = l at hv
    cases hv with
    | cons hx ht =>
      rename_i v m
      have hd2 : vs.drop (i + 1) = m := by rw [← List.drop_drop, hd]; rfl
      obtain ⟨ls, hls⟩ := keyLits_fields (d := d) fs (i + 1) ks h4 (by rw [hd2]; exact ht)
      obtain ⟨l, hl⟩ := keyLits_one (d := d) h3 hx
      refine ⟨l :: ls, ?_⟩
      rw [List.mapM_cons]
      have : (vs.drop f.offset).take (P.cellsOf f.type) = [v] := by rw [h1, h2, hd]; rfl
      rw [this, hl, hls]
      rfl
theorem keys_of {t : TypeId} {ks : List FK} {vs : List Value} (h : keyOk P t ks = true) (hv : All2 KV ks vs) : keys P t (.agg vs.toArray) := by
  unfold keyOk at h
  split at h
  · rename_i fs hu
    simp only [Bool.and_eq_true, beq_iff_eq] at h
    obtain ⟨⟨⟨⟨h1, h2⟩, h3⟩, h4⟩, h5⟩ := h
    have h6 : 0 < P.types.size := by simpa [Nat.blt_eq] using h5
    obtain ⟨d, hd⟩ : ∃ d, P.types.size = d + 1 := ⟨P.types.size - 1, by omega⟩
    obtain ⟨ls, hls⟩ := keyLits_fields (P := P) (d := d) fs.toList 0 ks h4 (by simpa using hv)
    have hlen : vs.length = P.cellsOf t := by rw [h2]; exact hv.len.symm
    refine ⟨.string (keyBytes ls.flatten), ?_⟩
    unfold keyOf
    rw [hu]
    simp only
    have hf : (Value.agg vs.toArray).formed P t = true := by simp [Value.formed, hu, hlen]
    rw [h1, hf]
    simp only [Bool.and_self, if_true]
    have hk : P.keyLits (P.types.size + 1) t (Value.agg vs.toArray).cells.toList = some ls.flatten := by
      rw [hd]
      show P.keyLits (d + 1 + 1) t vs = _
      rw [Program.keyLits.eq_def]
      simp only [hu]
      rw [if_pos ⟨hlen, h3⟩, hls]
      rfl
    rw [hk]; rfl
  · cases h
theorem keys_one {t : TypeId} {k : FK} {v : Value} (h : kindOk P t k = true) (hv : KV k v) : keys P t v := by
  cases hv with
  | s s h1 => exact ⟨.string s.data.toList, by simp [keyOf, kind_s h, mapKey, h1]⟩
  | i k n h1 => exact ⟨.int k n, by simp [keyOf, kind_i h, mapKey, h1]⟩
  | b x => exact ⟨.bool x, by simp [keyOf, kind_b h, mapKey]⟩
theorem lim_maxLen {n : Nat} (h : n ≤ lim) : n ≤ maxLen := by
  have : lim = 1099511627776 := rfl
  unfold maxLen; omega
theorem kv_s {s : ByteArray} (h : okV (.string s) = true) : KV .s (.string s) := .s s (lim_maxLen (Nat.le_of_ble_eq_true h))
def r64 (n : Int) : Prop := -9223372036854775808 ≤ n ∧ n ≤ 9223372036854775807
instance (n : Int) : Decidable (r64 n) := inferInstanceAs (Decidable (_ ∧ _))
theorem kv_i {n : Int} (h : r64 n) : KV (.i .i64) (.int .i64 n) := .i _ _ (by
  obtain ⟨h1, h2⟩ := h
  simp [Lit.wf, IntKind.min, IntKind.max, IntKind.signed, IntKind.bits]
  omega)
theorem okKV_all {l : List Value} (h : okKV (.agg l.toArray) = true) : ∀ v ∈ l, okV v = true := by
  simpa [okKV] using h
end

/-! ### Own slices within -/
theorem putE_putE (es : List (Value × DV)) (k : Value) (x y : DV) : putE (putE es k x) k y = putE es k y := by
  classical
  by_cases h : (es.any fun q => decide (q.1 = k)) = true
  · have h1 : putE es k x = es.map (fun q => if q.1 = k then (k, x) else q) := by unfold putE; rw [if_pos h]
    have h2 : ((es.map (fun q => if q.1 = k then (k, x) else q)).any fun q => decide (q.1 = k)) = true := by
      obtain ⟨p, hp, hk⟩ := List.any_eq_true.1 h
      refine List.any_eq_true.2 ⟨_, List.mem_map.2 ⟨p, hp, rfl⟩, ?_⟩
      rw [if_pos (by simpa using hk)]; simp
    rw [h1]
    unfold putE
    rw [if_pos h, if_pos h2, List.map_map]
    apply List.map_congr_left
    intro q _
    simp only [Function.comp]
    by_cases e : q.1 = k <;> simp [e]
  · have h1 : putE es k x = es ++ [(k, x)] := by unfold putE; rw [if_neg h]
    have hno : ∀ q ∈ es, q.1 ≠ k := fun q hq e => h (List.any_eq_true.2 ⟨q, hq, by simpa using e⟩)
    rw [h1]
    unfold putE
    rw [if_neg h, if_pos (by simp)]
    simp only [List.map_append, List.map_cons, List.map_nil, if_true]
    congr 1
    conv => rhs; rw [← List.map_id es]
    apply List.map_congr_left
    intro q hq
    rw [if_neg (hno q hq)]; rfl
theorem put2_ok {K V : Type} {kf : K → Value} (df : V → DV) (hi : ∀ a b, kf a = kf b → a = b) (l : List (K × V)) (k : K) (v : V) (x : DV) : encM kf df (tput l k v) = putE (putE (encM kf df l) (kf k) x) (kf k) (df v) := by
  rw [putE_putE]; exact putE_enc hi l k v
theorem nt_lt {α : Type} {xs : List α} {n : Int} {v : α} (h : atI xs n = some v) : n.toNat < xs.length := by
  unfold atI at h
  split at h
  · exact (List.getElem?_eq_some_iff.1 h).1
  · cases h
theorem nt_el {α : Type} {xs : List α} {n : Int} {v : α} (f : α → El) (h : atI xs n = some v) : (List.map f xs)[n.toNat]? = some (f v) := by
  unfold atI at h
  split at h
  · rw [List.getElem?_map, h]; rfl
  · cases h
theorem nt_ltm {α : Type} {xs : List α} {n : Int} {v : α} (f : α → El) (h : atI xs n = some v) : n.toNat < (List.map f xs).length := by rw [List.length_map]; exact nt_lt h
theorem nt_set {α : Type} {xs : List α} {n : Int} {v : α} (f : α → El) (h : atI xs n = some v) (y : α) : (List.map f (xs.set n.toNat y))[n.toNat]? = some (f y) := by
  rw [List.getElem?_map, List.getElem?_set_self (nt_lt h)]; rfl
theorem nt_other {α : Type} {xs : List α} {i j : Nat} {e : El} (f : α → El) (hne : i ≠ j) (y : α) (h : (List.map f xs)[j]? = some e) : (List.map f (xs.set i y))[j]? = some e := by
  rw [List.getElem?_map, List.getElem?_set_ne hne, ← List.getElem?_map]; exact h
theorem atI_set {α : Type} {xs : List α} {n : Int} {v : α} (y : α) (h : atI xs n = some v) : atI (xs.set (Int.toNat n) y) n = some y := by
  have h1 := nt_lt h
  unfold atI at h ⊢
  split at h
  · rw [if_pos (by assumption), List.getElem?_set_self h1]
  · cases h
theorem atI_ne {α : Type} {xs : List α} {k : Nat} {n : Int} {v : α} (hne : k ≠ Int.toNat n) (y : α) (h : atI xs n = some v) : atI (xs.set k y) n = some v := by
  unfold atI at h ⊢
  split at h
  · rw [if_pos (by assumption), List.getElem?_set_ne hne]; exact h
  · cases h
theorem nc_len {α : Type} (xs : List α) (n : Nat) (y : α) : (xs.set n y).length = xs.length := List.length_set
theorem nc_set {α : Type} (f : α → El) (xs : List α) (n : Nat) (y v : α) (q : Nat) (c : C) (e : f y = (f v).set q c) : List.map f (xs.set n y) = (List.map f xs).set n ((f v).set q c) := by rw [List.map_set, e]
theorem nn_len {α : Type} (xs : List α) (y : α) : (xs ++ [y]).length = xs.length + 1 := by simp
theorem nn_el {α : Type} (f : α → El) (xs : List α) (x : El) : (List.map f xs ++ [x])[xs.length]? = some x := by
  rw [List.getElem?_append_right (by simp)]; simp
theorem nn_set {α : Type} (f : α → El) (xs : List α) (y : α) (x : El) (q : Nat) (c : C) (e : f y = x.set q c) : List.map f (xs ++ [y]) = (List.map f xs ++ [x]).set xs.length (x.set q c) := by
  have : xs.length = (List.map f xs).length + 0 := by simp
  rw [this, List.set_append_right _ _ (by simp)]
  simp [e]
theorem app_lenr {α : Type} {xs ys : List α} {r : List El} (f : α → El) (h : xs.length + ys.length ≤ lim) (e : r.length = ys.length) : (List.map f xs).length + r.length ≤ lim := by rw [List.length_map, e]; exact h
end Go.Proofs.Ytajmjfdopminbaa.Sym
