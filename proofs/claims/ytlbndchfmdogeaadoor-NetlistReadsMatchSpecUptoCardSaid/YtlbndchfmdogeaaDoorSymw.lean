/- Sym: keys of maps: what values are ones (keys). Conditions: of a type, what keyOk asks. -/
import Derived.Test.YtlbndchfmdogeaaDoorSymv
import Derived.StringKeys
set_option linter.unusedVariables false
set_option linter.unusedSimpArgs false
namespace Go.Proofs.YtlbndchfmdogeaaDoor.Sym
open Go Go.RowKit

inductive FK : Type where
  | s
  | i (k : IntKind)
  | b
inductive KV : FK → Value → Prop where
  | s (s : ByteArray) (h : s.size ≤ maxLen) : KV .s (.string s)
  | i (k : IntKind) (n : Int) (h : (Lit.int k n).wf = true) : KV (.i k) (.int k n)
  | b (x : Bool) : KV .b (.bool x)
def kindOk (P : Program) (t : TypeId) : FK → Bool
  | .s => match P.underlying t with
    | some .string => true
    | _ => false
  | .i k => match P.underlying t with
    | some (.int q) => decide (q = k)
    | _ => false
  | .b => match P.underlying t with
    | some .bool => true
    | _ => false
def fsOk (P : Program) : List Field → Nat → List FK → Bool
  | [], _, [] => true
  | f :: fs, i, k :: ks => f.offset == i && P.cellsOf f.type == 1 && kindOk P f.type k && fsOk P fs (i + 1) ks
  | _, _, _ => false
def keyOk (P : Program) (t : TypeId) (ks : List FK) : Bool := match P.underlying t with
  | some (.struct fs) => P.keyType t && P.cellsOf t == ks.length && fs.all (·.name != "_") && fsOk P fs.toList 0 ks && Nat.blt 0 P.types.size
  | _ => false
section
variable {P : Program}
theorem kind_s {t : TypeId} (h : kindOk P t .s = true) : P.underlying t = some .string := by
  simp only [kindOk] at h
  split at h
  · assumption
  · cases h
theorem kind_i {t : TypeId} {k : IntKind} (h : kindOk P t (.i k) = true) : P.underlying t = some (.int k) := by
  simp only [kindOk] at h
  split at h
  · rename_i q e
    have : q = k := by simpa using h
    rw [e, this]
  · cases h
theorem kind_b {t : TypeId} (h : kindOk P t .b = true) : P.underlying t = some .bool := by
  simp only [kindOk] at h
  split at h
  · assumption
  · cases h
theorem keyLits_one {d : Nat} {t : TypeId} {k : FK} {v : Value} (hk : kindOk P t k = true) (hv : KV k v) : ∃ l, P.keyLits (d + 1) t [v] = some l := by
  cases hv with
  | s s h => exact ⟨[.string s.data.toList], by simp [Program.keyLits, kind_s hk, h]⟩
  | i k n h => exact ⟨[.int k n], by simp [Program.keyLits, kind_i hk, h]⟩
  | b x => exact ⟨[.bool x], by simp [Program.keyLits, kind_b hk]⟩
theorem keyLits_fields {d : Nat} {vs : List Value} : ∀ (fs : List Field) (i : Nat) (ks : List FK), fsOk P fs i ks = true → All2 KV ks (vs.drop i) → ∃ ls, (fs.mapM fun f => P.keyLits (d + 1) f.type ((vs.drop f.offset).take (P.cellsOf f.type))) = some ls
  | [], i, ks, h, hv => ⟨[], rfl⟩
  | f :: fs, i, [], h, hv => by simp [fsOk] at h
  | f :: fs, i, k :: ks, h, hv => by
    simp only [fsOk, Bool.and_eq_true, beq_iff_eq] at h
    obtain ⟨⟨⟨h1, h2⟩, h3⟩, h4⟩ := h
    generalize hd : vs.drop i = l at hv
    cases hv with
    | cons hx ht =>
      rename_i v m
      have hd2 : vs.drop (i + 1) = m := by rw [← List.drop_drop, hd]; rfl
      obtain ⟨ls, hls⟩ := keyLits_fields (d := d) fs (i + 1) ks h4 (by rw [hd2]; exact ht)
      obtain ⟨l, hl⟩ := keyLits_one (d := d) h3 hx
      refine ⟨l :: ls, ?_⟩
      rw [List.mapM_cons]
      have : (vs.drop f.offset).take (P.cellsOf f.type) = [v] := by rw [h1, h2, hd]; rfl
      rw [this, hl, hls]
      rfl
theorem keys_of {t : TypeId} {ks : List FK} {vs : List Value} (h : keyOk P t ks = true) (hv : All2 KV ks vs) : keys P t (.agg vs.toArray) := by
  unfold keyOk at h
  split at h
  · rename_i fs hu
    simp only [Bool.and_eq_true, beq_iff_eq] at h
    obtain ⟨⟨⟨⟨h1, h2⟩, h3⟩, h4⟩, h5⟩ := h
    have h6 : 0 < P.types.size := by simpa [Nat.blt_eq] using h5
    obtain ⟨d, hd⟩ : ∃ d, P.types.size = d + 1 := ⟨P.types.size - 1, by omega⟩
    obtain ⟨ls, hls⟩ := keyLits_fields (P := P) (d := d) fs.toList 0 ks h4 (by simpa using hv)
    have hlen : vs.length = P.cellsOf t := by rw [h2]; exact hv.len.symm
    refine ⟨.string (keyBytes ls.flatten), ?_⟩
    unfold keyOf
    rw [hu]
    simp only
    have hf : (Value.agg vs.toArray).formed P t = true := by simp [Value.formed, hu, hlen]
    rw [h1, hf]
    simp only [Bool.and_self, if_true]
    have hk : P.keyLits (P.types.size + 1) t (Value.agg vs.toArray).cells.toList = some ls.flatten := by
      rw [hd]
      show P.keyLits (d + 1 + 1) t vs = _
      rw [Program.keyLits.eq_def]
      simp only [hu]
      rw [if_pos ⟨hlen, h3⟩, hls]
      rfl
    rw [hk]; rfl
  · cases h
theorem keys_one {t : TypeId} {k : FK} {v : Value} (h : kindOk P t k = true) (hv : KV k v) : keys P t v := by
  cases hv with
  | s s h1 => exact ⟨.string s.data.toList, by simp [keyOf, kind_s h, mapKey, h1]⟩
  | i k n h1 => exact ⟨.int k n, by simp [keyOf, kind_i h, mapKey, h1]⟩
  | b x => exact ⟨.bool x, by simp [keyOf, kind_b h, mapKey]⟩
theorem lim_maxLen {n : Nat} (h : n ≤ lim) : n ≤ maxLen := by
  have : lim = 1099511627776 := rfl
  unfold maxLen; omega
theorem kv_s {s : ByteArray} (h : okV (.string s) = true) : KV .s (.string s) := .s s (lim_maxLen (Nat.le_of_ble_eq_true h))
def r64 (n : Int) : Prop := -9223372036854775808 ≤ n ∧ n ≤ 9223372036854775807
instance (n : Int) : Decidable (r64 n) := inferInstanceAs (Decidable (_ ∧ _))
theorem kv_i {n : Int} (h : r64 n) : KV (.i .i64) (.int .i64 n) := .i _ _ (by
  obtain ⟨h1, h2⟩ := h
  simp [Lit.wf, IntKind.min, IntKind.max, IntKind.signed, IntKind.bits]
  omega)
theorem okKV_all {l : List Value} (h : okKV (.agg l.toArray) = true) : ∀ v ∈ l, okV v = true := by
  simpa [okKV] using h
end
end Go.Proofs.YtlbndchfmdogeaaDoor.Sym
