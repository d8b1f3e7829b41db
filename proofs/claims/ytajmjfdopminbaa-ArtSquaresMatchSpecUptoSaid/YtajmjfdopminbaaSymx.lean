/- Sym: what is read as an argument is data (Shp), and how much (cBs); a contract that answers true gives the row's step. Conditions: the program's types are laid out (laidOutB, mapsRowed). -/
import Derived.Test.YtajmjfdopminbaaSymw
import Derived.Test.YtajmjfdopminbaaRows
import Derived.ReadAgain
import Derived.ChangeSame
import Derived.OpenShut
import Derived.ChangeArms
set_option linter.unusedVariables false
set_option linter.unusedSimpArgs false
namespace Go.Proofs.Ytajmjfdopminbaa.Sym
open Go Go.RowKit Go.ChangeShapes

/-! ### How much there is -/
mutual
def cB : C → Nat
  | .v (.string s) => s.size + 1
  | .v _ => 1
  | .nil => 1
  | .sl _ xs => cBss xs + 1
  | .fn _ _ => 1
  | .ptr _ => 1
def cBs : List C → Nat
  | [] => 0
  | c :: r => cB c + cBs r
def cBss : List (List C) → Nat
  | [] => 0
  | l :: r => cBs l + cBss r
end
theorem cBs_append (l m : List C) : cBs (l ++ m) = cBs l + cBs m := by
  induction l with
  | nil => simp [cBs]
  | cons c r ih => simp only [List.cons_append, cBs, ih]; omega
theorem cBss_mem {l : List C} {xs : List (List C)} (h : l ∈ xs) : cBs l ≤ cBss xs := by
  induction xs with
  | nil => cases h
  | cons x r ih =>
    simp only [cBss]
    rcases List.mem_cons.1 h with e | h
    · rw [e]; omega
    · have := ih h; omega

/-! ### What values of a type are, as data -/
inductive Shp (P : Program) : TypeId → List C → Prop where
  | int {t : TypeId} {k : IntKind} (h : P.underlying t = some (.int k)) (n : Int) (hw : (Lit.int k n).wf = true) : Shp P t [.v (.int k n)]
  | bool {t : TypeId} (h : P.underlying t = some .bool) (b : Bool) : Shp P t [.v (.bool b)]
  | str {t : TypeId} (h : P.underlying t = some .string) (s : ByteArray) : Shp P t [.v (.string s)]
  | sl {t e : TypeId} (h : P.underlying t = some (.slice e)) (rows : List (List C)) (hr : ∀ r ∈ rows, Shp P e r) : Shp P t [.sl (P.cellsOf e) rows]
  | st {t : TypeId} {fs : Array Field} (h : P.underlying t = some (.struct fs)) (parts : List (List C)) (hl : parts.length = fs.toList.length) (hp : ∀ (i : Nat) (f : Field) (p : List C), fs.toList[i]? = some f → parts[i]? = some p → Shp P f.type p) : Shp P t parts.flatten
def okT (P : Program) : Nat → TypeId → Bool
  | 0, _ => false
  | n + 1, t => match P.underlying t with
    | some .bool => true
    | some .string => true
    | some (.int _) => true
    | some (.slice e) => okT P n e && Nat.blt 0 (P.cellsOf e) && Nat.blt e P.types.size
    | some (.struct fs) => fs.toList.all fun f => okT P n f.type
    | _ => false

section
variable {P : Program} {W : World} {I : Im} {H : Type} {enc : TypeId × Value → H}
theorem add_spot {a : Addr} {n : Nat} {v : Value} (h : W.cell? (a.add n) = some v) : W.cell? ⟨a.block, a.off + n, none⟩ = some v := by
  unfold Addr.add at h
  split at h
  · rename_i e
    subst e
    obtain ⟨b, o, s⟩ := a
    cases s with
    | none => exact h
    | some s =>
      exfalso
      unfold World.cell? at h
      simp only at h
      split at h <;> simp at h
  · exact h
/-- Many, one by one. -/
theorem rows_of {R : Nat → List C → Prop} : ∀ (n : Nat), (∀ i, i < n → ∃ c, R i c) → ∃ rows : List (List C), rows.length = n ∧ ∀ (i : Nat) (c : List C), rows[i]? = some c → R i c
  | 0, _ => ⟨[], rfl, fun i c h => by simp at h⟩
  | n + 1, h => by
    obtain ⟨rows, h1, h2⟩ := rows_of n fun i hi => h i (by omega)
    obtain ⟨c, hc⟩ := h n (by omega)
    refine ⟨rows ++ [c], by simp [h1], fun i x hx => ?_⟩
    rw [List.getElem?_append] at hx
    split at hx
    · exact h2 i x hx
    · have : i - rows.length = 0 := by
        have := (List.getElem?_eq_some_iff.1 hx).1
        simp at this; exact this
      rw [this] at hx
      have e : i = n := by omega
      simp at hx
      rw [e, ← hx]; exact hc
theorem bulk_all {l : List (DataW H × List MemPlace)} {rows : List (List C)} (hl : rows.length = l.length) (h : ∀ (i : Nat) y c, l[i]? = some y → rows[i]? = some c → cBs c ≤ Rows.uptoBulk y.1) : cBss rows ≤ Rows.uptoBulkAll (l.map (·.1)) := by
  induction l generalizing rows with
  | nil => cases rows with
    | nil => simp [cBss]
    | cons _ _ => simp at hl
  | cons y l ih => cases rows with
    | nil => simp at hl
    | cons c rows =>
      simp only [cBss, List.map_cons, Rows.uptoBulkAll]
      have h0 := h 0 y c rfl rfl
      have := ih (rows := rows) (by simpa using hl) fun i y c hy hc => h (i + 1) y c (by simpa using hy) (by simpa using hc)
      omega
theorem cBs_flat (rows : List (List C)) : cBs rows.flatten = cBss rows := by
  induction rows with
  | nil => rfl
  | cons x r ih => simp only [List.flatten_cons, cBs_append, cBss, ih]
theorem one_le (d : DataW H) : 1 ≤ Rows.uptoBulk d := by
  cases d with
  | lit l => cases l <;> simp [Rows.uptoBulk]
  | nil => simp [Rows.uptoBulk]
  | ptr d => simp [Rows.uptoBulk]
  | slice elems spare => simp [Rows.uptoBulk]
  | agg parts => simp [Rows.uptoBulk]
  | iface t d => simp [Rows.uptoBulk]
  | map entries => simp [Rows.uptoBulk]
  | held h => simp [Rows.uptoBulk]
theorem length_le (l : List (DataW H)) : l.length ≤ Rows.uptoBulkAll l := by
  induction l with
  | nil => simp [Rows.uptoBulkAll]
  | cons x r ih => have := one_le x; simp only [Rows.uptoBulkAll, List.length_cons]; omega
theorem part_le {d : DataW H} {l : List (DataW H)} (h : d ∈ l) : Rows.uptoBulk d ≤ Rows.uptoBulkAll l := by
  induction l with
  | nil => cases h
  | cons x r ih =>
    simp only [Rows.uptoBulkAll]
    cases List.mem_cons.1 h with
    | inl e => subst e; omega
    | inr e => have := ih e; omega
theorem flat_RCs {vs : List Value} : ∀ {fs : List Field} {parts : List (List C)} {o : Nat}, parts.length = fs.length →
    (∀ (j : Nat) f, fs[j]? = some f → f.offset = o + ((fs.take j).map fun f => P.cellsOf f.type).sum) →
    (∀ (i : Nat) f p, fs[i]? = some f → parts[i]? = some p → RCs I ((vs.drop f.offset).take (P.cellsOf f.type)) p) →
    RCs I ((vs.drop o).take (fs.map fun f => P.cellsOf f.type).sum) parts.flatten
  | [], [], o, _, _, _ => by simp; exact .nil
  | [], _ :: _, _, h, _, _ => by simp at h
  | _ :: _, [], _, h, _, _ => by simp at h
  | f :: fs, p :: parts, o, hl, ho, hR => by
    have h0 := ho 0 f rfl
    simp at h0
    have hp := hR 0 f p rfl rfl
    rw [h0] at hp
    have ih := flat_RCs (vs := vs) (fs := fs) (parts := parts) (o := o + P.cellsOf f.type) (by simpa using hl) (fun j g hj => by
      have := ho (j + 1) g (by simpa using hj)
      simp only [List.take_succ_cons, List.map_cons, List.sum_cons] at this; omega) fun i g q hg hq => hR (i + 1) g q (by simpa using hg) (by simpa using hq)
    simp only [List.map_cons, List.sum_cons, List.flatten_cons]
    rw [List.take_add, List.drop_drop]
    exact hp.append ih

theorem reads (hk : Kids P (· < P.types.size)) (hI : ∀ b o v, W.cell? ⟨b, o, none⟩ = some v → I b o = some v) {sp : Nat → Bool} : ∀ (n : Nat) (t : TypeId) (cs : List Value) (d : DataW H) (ps : List MemPlace), DataW.trod enc P W 0 sp true n t cs = some (d, ps) → ∀ m, okT P m t = true → t < P.types.size → Rows.uptoBulk d ≤ lim →
    ∃ xs, RCs I cs xs ∧ Shp P t xs ∧ cBs xs ≤ Rows.uptoBulk d := by
  intro n
  induction n with
  | zero => intro t cs d ps h; simp [DataW.trod] at h
  | succ n ih =>
    intro t cs d ps h m ho ht hB
    cases m with
    | zero => simp [okT] at ho
    | succ m =>
    simp only [okT] at ho
    split at ho
    · rename_i e
      obtain ⟨b, rfl, hx⟩ := DataW.trod_bool e h
      cases hx
      exact ⟨[.v (.bool b)], .cons (.v _ rfl rfl) .nil, .bool e b, by simp [cBs, cB, Rows.uptoBulk]⟩
    · rename_i e
      obtain ⟨s, rfl, hx, _⟩ := DataW.trod_string e h
      cases hx
      have hs : s.size + 1 ≤ lim := by
        simp only [Rows.uptoBulk] at hB
        have : s.data.toList.length = s.size := by rw [Array.length_toList]; rfl
        omega
      refine ⟨[.v (.string s)], .cons (.v _ rfl (Nat.ble_eq_true_of_le (by omega))) .nil, .str e s, ?_⟩
      have : s.data.toList.length = s.size := by rw [Array.length_toList]; rfl
      simp only [cBs, cB, Rows.uptoBulk]; omega
    · rename_i k e
      obtain ⟨n', rfl, hx, hw⟩ := DataW.trod_int e h
      cases hx
      exact ⟨[.v (.int k n')], .cons (.v _ rfl rfl) .nil, .int e n' hw, by simp [cBs, cB, Rows.uptoBulk]⟩
    · rename_i q e
      simp only [Bool.and_eq_true] at ho
      obtain ⟨⟨ho1, ho2⟩, ho3⟩ := ho
      have hq : q < P.types.size := by simpa [Nat.blt_eq] using ho3
      have hz : 0 < P.cellsOf q := by simpa [Nat.blt_eq] using ho2
      rcases DataW.trod_slice e h with ⟨rfl, hx⟩ | ⟨a, len, cap, elems, rest, n', hn, rfl, hx, _, hlc, _, hel, hall, _, _⟩
      · cases hx
        exact ⟨[.sl (P.cellsOf q) []], .cons (.emp none 0 _ (fun _ => rfl)) .nil, .sl e [] (fun r hr => by cases hr), by simp [cBs, cB, cBss, Rows.uptoBulk]⟩
      · have hn' : n' = n := by omega
        subst hn'
        simp only [Prod.mk.injEq] at hx
        obtain ⟨rfl, rfl⟩ := hx
        simp only [Rows.uptoBulk] at hB
        have hlen : len ≤ Rows.uptoBulkAll (elems.map (·.1)) := by
          have := length_le (elems.map (·.1)); simp at this; omega
        obtain ⟨rows, hr1, hr2⟩ := rows_of (R := fun i c => ∃ cs y, W.cells? 0 (a.add (i * P.cellsOf q)) (P.cellsOf q) = some cs ∧ elems[i]? = some y ∧ RCs I cs c ∧ Shp P q c ∧ cBs c ≤ Rows.uptoBulk y.1) len fun i hi => by
          have h1 := hall i hi
          have hy : i < elems.length := by omega
          rw [List.getElem?_eq_getElem hy] at h1
          obtain ⟨cs, hcs, hd⟩ := Option.bind_eq_some_iff.1 h1
          have hle : Rows.uptoBulk elems[i].1 ≤ lim := by
            have := part_le (d := elems[i].1) (l := elems.map (·.1)) (List.mem_map.2 ⟨elems[i], List.getElem_mem hy, rfl⟩)
            omega
          obtain ⟨xs, x1, x2, x3⟩ := ih q cs elems[i].1 elems[i].2 hd m ho1 hq hle
          exact ⟨xs, cs, elems[i], hcs, List.getElem?_eq_getElem hy, x1, x2, x3⟩
        have hshp : Shp P t [.sl (P.cellsOf q) rows] := .sl e rows fun r hr => by
          obtain ⟨i, hi⟩ := List.mem_iff_getElem?.1 hr
          obtain ⟨_, _, _, _, _, h5, _⟩ := hr2 i r hi
          exact h5
        have hbulk : cBss rows ≤ Rows.uptoBulkAll (elems.map (·.1)) := bulk_all (by omega) fun i y c hy hc => by
          obtain ⟨_, y', _, h2, _, _, h6⟩ := hr2 i c hc
          rw [h2] at hy; cases hy
          exact h6
        refine ⟨[.sl (P.cellsOf q) rows], .cons ?_ .nil, hshp, by simp only [cBs, cB, Rows.uptoBulk]; omega⟩
        rcases Nat.eq_zero_or_pos len with hl0 | hl0
        · have : rows = [] := List.length_eq_zero_iff.1 (by omega)
          subst this; rw [hl0]
          exact .emp _ _ _ (fun q => by cases q)
        · have hspot : a = ⟨a.block, a.off, none⟩ := by
            have h0 : (0 : Nat) < rows.length := by omega
            obtain ⟨cs, _, h1, _⟩ := hr2 0 rows[0] (List.getElem?_eq_getElem h0)
            obtain ⟨_, hlc, hc⟩ := World.cells?_some h1
            have hc0 := hc 0 hz
            have hlt : 0 < cs.length := by omega
            rw [List.getElem?_eq_getElem hlt, Nat.zero_mul] at hc0
            have hadd : (a.add 0).add 0 = a := by simp [Addr.add]
            rw [hadd] at hc0
            obtain ⟨b, o, s⟩ := a
            cases s with
            | none => rfl
            | some s =>
              exfalso
              unfold World.cell? at hc0
              simp only at hc0
              split at hc0 <;> simp at hc0
          rw [hspot, ← hr1]
          have hcell : ∀ (i j : Nat) c, rows[i]? = some c → j < P.cellsOf q → ∃ v x, W.cell? ⟨a.block, a.off + i * P.cellsOf q + j, none⟩ = some v ∧ c[j]? = some x ∧ RC I v x := fun i j c hc hj => by
            obtain ⟨cs, _, h1, _, h3, _⟩ := hr2 i c hc
            obtain ⟨_, hl, hcc⟩ := World.cells?_some h1
            have hlt : j < cs.length := by omega
            have h4 := hcc j hj
            rw [List.getElem?_eq_getElem hlt] at h4
            obtain ⟨x, hx, hr⟩ := h3.at' j cs[j] (List.getElem?_eq_getElem hlt)
            have h5 := add_spot h4
            refine ⟨cs[j], x, ?_, hx, hr⟩
            have hb : (a.add (i * P.cellsOf q)).block = a.block := by unfold Addr.add; split <;> rfl
            have ho : (a.add (i * P.cellsOf q)).off = a.off + i * P.cellsOf q := by
              unfold Addr.add; split
              · rename_i e; rw [e]; rfl
              · rfl
            rw [hb, ho] at h5
            exact h5
          refine .sl a.block a.off cap (P.cellsOf q) rows (fun i j => (W.cell? ⟨a.block, a.off + i * P.cellsOf q + j, none⟩).getD undef) (by omega) (by omega) (fun i e' he => ?_) (fun i j hi hj => ?_) (fun i j e' x he hx => ?_)
          · obtain ⟨cs, _, h1, _, h3, _⟩ := hr2 i e' he
            obtain ⟨_, hl, _⟩ := World.cells?_some h1
            rw [← h3.len, hl]
          · obtain ⟨v, x, hv, _, _⟩ := hcell i j rows[i] (List.getElem?_eq_getElem hi) hj
            rw [hv]
            exact hI _ _ _ hv
          · have hj : j < P.cellsOf q := by
              obtain ⟨cs, _, h1, _, h3, _⟩ := hr2 i e' he
              obtain ⟨_, hl, _⟩ := World.cells?_some h1
              have := (List.getElem?_eq_some_iff.1 hx).1
              rw [← h3.len] at this; omega
            obtain ⟨v, x', hv, hx', hr⟩ := hcell i j e' he hj
            rw [hx] at hx'; cases hx'
            rw [hv]; exact hr
    · rename_i fs e
      obtain ⟨xs, n', hn, hx, hcl, hxl, hall⟩ := DataW.trod_struct e h
      have hn' : n' = n := by omega
      subst hn'
      simp only [Prod.mk.injEq] at hx
      obtain ⟨rfl, rfl⟩ := hx
      obtain ⟨hT, hsum, hoff⟩ := hk.struct ht e
      simp only [List.all_eq_true] at ho
      simp only [Rows.uptoBulk] at hB
      obtain ⟨parts, hp1, hp2⟩ := rows_of (R := fun i c => ∀ f y, fs.toList[i]? = some f → xs[i]? = some y → RCs I ((cs.drop f.offset).take (P.cellsOf f.type)) c ∧ Shp P f.type c ∧ cBs c ≤ Rows.uptoBulk y.1) fs.size fun i hi => by
        have hf : i < fs.toList.length := by simpa using hi
        have hy : i < xs.length := by omega
        have h1 := hall i fs[i] (Array.getElem?_eq_getElem hi)
        rw [List.getElem?_eq_getElem hy] at h1
        have hmem : fs[i] ∈ fs.toList := by simp
        have hle : Rows.uptoBulk xs[i].1 ≤ lim := by
          have := part_le (d := xs[i].1) (l := xs.map (·.1)) (List.mem_map.2 ⟨xs[i], List.getElem_mem hy, rfl⟩)
          omega
        obtain ⟨c, x1, x2, x3⟩ := ih fs[i].type _ xs[i].1 xs[i].2 h1 m (ho _ hmem) (hT _ hmem) hle
        refine ⟨c, fun f y hf' hy' => ?_⟩
        rw [List.getElem?_eq_getElem hf] at hf'
        rw [List.getElem?_eq_getElem hy] at hy'
        cases hf'; cases hy'
        simp only [Array.getElem_toList]
        exact ⟨x1, x2, x3⟩
      have hlen : parts.length = fs.toList.length := by simp [hp1]
      have hy : ∀ (i : Nat) f, fs.toList[i]? = some f → ∃ y, xs[i]? = some y := fun i f hf => by
        have := (List.getElem?_eq_some_iff.1 hf).1
        simp at this
        exact ⟨xs[i], List.getElem?_eq_getElem (by omega)⟩
      refine ⟨parts.flatten, ?_, .st e parts hlen fun i f p hf hp => ?_, ?_⟩
      · have hfl := flat_RCs (P := P) (I := I) (vs := cs) (fs := fs.toList) (parts := parts) (o := 0) hlen (fun j f hj => by rw [hoff j f hj]; omega) fun i f p hf hp => by
          obtain ⟨y, hy⟩ := hy i f hf
          exact (hp2 i p hp f y hf hy).1
        rw [← hsum, List.drop_zero, List.take_of_length_le (by omega)] at hfl
        exact hfl
      · obtain ⟨y, hy⟩ := hy i f hf
        exact (hp2 i p hp f y hf hy).2.1
      · rw [cBs_flat]
        have : cBss parts ≤ Rows.uptoBulkAll (xs.map (·.1)) := bulk_all (by omega) fun i y c hy hc => by
          have hi : i < fs.toList.length := by
            have := (List.getElem?_eq_some_iff.1 hc).1
            omega
          exact (hp2 i c hc _ y (List.getElem?_eq_getElem hi) hy).2.2
        simp only [Rows.uptoBulk]; omega
    · cases ho
end
end Go.Proofs.Ytajmjfdopminbaa.Sym
