/- Sym: arguments as typed data; a contract that answers true gives a law's step. Conditions: the program's types are laid out. -/
import Derived.Test.YtajmjfdopminbaaSymx
set_option linter.unusedVariables false
set_option linter.unusedSimpArgs false
namespace Go.Proofs.Ytajmjfdopminbaa.Sym
open Go Go.RowKit Go.ChangeShapes

section
variable {P : Program} {t : TypeId} {xs : List C}
theorem Shp.int' (h : Shp P t xs) {k : IntKind} (e : P.underlying t = some (.int k)) : ∃ n : Int, xs = [.v (.int k n)] := by
  cases h <;> rename_i h <;> simp_all
theorem Shp.i64' (h : Shp P t xs) (e : P.underlying t = some (.int .i64)) : ∃ n : Int, xs = [iC n] ∧ r64 n := by
  cases h with
  | int h n hw =>
    rw [e] at h; cases h
    refine ⟨n, rfl, ?_⟩
    simp [Lit.wf, IntKind.min, IntKind.max, IntKind.signed, IntKind.bits] at hw
    exact ⟨by omega, by omega⟩
  | bool h => rw [e] at h; cases h
  | str h => rw [e] at h; cases h
  | sl h => rw [e] at h; cases h
  | st h => rw [e] at h; cases h
theorem Shp.bool' (h : Shp P t xs) (e : P.underlying t = some .bool) : ∃ b : Bool, xs = [bC b] := by
  cases h with
  | bool h b => exact ⟨b, rfl⟩
  | int h => rw [e] at h; cases h
  | str h => rw [e] at h; cases h
  | sl h => rw [e] at h; cases h
  | st h => rw [e] at h; cases h
theorem Shp.str' (h : Shp P t xs) (e : P.underlying t = some .string) : ∃ s : ByteArray, xs = [sC s] := by
  cases h with
  | str h s => exact ⟨s, rfl⟩
  | int h => rw [e] at h; cases h
  | bool h => rw [e] at h; cases h
  | sl h => rw [e] at h; cases h
  | st h => rw [e] at h; cases h
theorem maps_of {α β : Type} {f : α → β} : ∀ {l : List β}, (∀ r ∈ l, ∃ x, r = f x) → ∃ m : List α, l = List.map f m
  | [], _ => ⟨[], rfl⟩
  | r :: l, h => by
    obtain ⟨x, rfl⟩ := h r (by simp)
    obtain ⟨m, rfl⟩ := maps_of (l := l) fun r hr => h r (by simp [hr])
    exact ⟨x :: m, rfl⟩
theorem Shp.sl' {α : Type} {f : α → El} (h : Shp P t xs) {e sz : Nat} (hu : P.underlying t = some (.slice e)) (hs : P.cellsOf e = sz) (hf : ∀ r, Shp P e r → ∃ x, r = f x) : ∃ l : List α, xs = [.sl sz (List.map f l)] := by
  cases h with
  | sl h rows hr =>
    rw [hu] at h; cases h
    obtain ⟨l, rfl⟩ := maps_of (f := f) fun r hr' => hf r (hr r hr')
    exact ⟨l, by rw [hs]⟩
  | int h => rw [hu] at h; cases h
  | str h => rw [hu] at h; cases h
  | bool h => rw [hu] at h; cases h
  | st h => rw [hu] at h; cases h
def Shps (P : Program) : List TypeId → List C → Prop
  | [], xs => xs = []
  | t :: ts, xs => ∃ p q, xs = p ++ q ∧ Shp P t p ∧ Shps P ts q
def fieldTs (P : Program) (t : TypeId) : Option (List TypeId) := match P.underlying t with
  | some (.struct fs) => some (fs.toList.map (·.type))
  | _ => none
theorem shps_of : ∀ {fs : List Field} {parts : List (List C)}, parts.length = fs.length → (∀ (i : Nat) f p, fs[i]? = some f → parts[i]? = some p → Shp P f.type p) → Shps P (fs.map (·.type)) parts.flatten
  | [], [], _, _ => rfl
  | [], _ :: _, h, _ => by simp at h
  | _ :: _, [], h, _ => by simp at h
  | f :: fs, p :: parts, hl, h => ⟨p, parts.flatten, rfl, h 0 f p rfl rfl, shps_of (by simpa using hl) fun i g q hg hq => h (i + 1) g q (by simpa using hg) (by simpa using hq)⟩
theorem Shp.st' (h : Shp P t xs) {ts : List TypeId} (e : fieldTs P t = some ts) : Shps P ts xs := by
  unfold fieldTs at e
  split at e
  · rename_i fs hu
    cases e
    cases h with
    | st h parts hl hp =>
      rw [hu] at h; cases h
      exact shps_of hl hp
    | int h => rw [hu] at h; cases h
    | str h => rw [hu] at h; cases h
    | bool h => rw [hu] at h; cases h
    | sl h => rw [hu] at h; cases h
  · cases e
end

/-! ### The row's step -/
/-- The memory that there is when the call begins. -/
def memI (W : World) : Im := fun b o => W.cell? ⟨b, o, none⟩
theorem memI_agr (W : World) : Agr (memI W) W := fun _ _ _ h => h
section
variable {P : Program} {W W' : World} {H : Type} {enc : TypeId × Value → H}
theorem cell_same (hB : ∀ k, k < W.heap.size → W'.heap[k]? = W.heap[k]?) {a : Addr} (h : a.block < W.heap.size) : W'.cell? a = W.cell? a := by
  unfold World.cell?
  rw [hB _ h]
theorem trodAll_carry {sp : Nat → Bool} : ∀ {ts : List TypeId} {vs : List Value} {ds : List (DataW H)} {ps : List MemPlace}, DataW.TrodAll enc P W 0 sp true ts vs ds ps → (∀ p ∈ ps, W.sameAt W' p) → DataW.TrodAll enc P W' 0 sp true ts vs ds ps
  | [], [], [], _, h, _ => h
  | _ :: _, _ :: _, _ :: _, _, ⟨p, q, ⟨n, h1⟩, h2, e⟩, hs => by
    subst e
    exact ⟨p, q, ⟨n, DataW.trod_carry n _ _ _ h1 fun x hx => hs x (List.mem_append_left _ hx)⟩, trodAll_carry h2 fun x hx => hs x (List.mem_append_right _ hx), rfl⟩
theorem after (hk : Kids P (· < P.types.size)) (hz : ∀ t e, t < P.types.size → P.underlying t = some (.slice e) → 0 < P.cellsOf e) (hB : ∀ k, k < W.heap.size → W'.heap[k]? = W.heap[k]?) {ts : List TypeId} {vs : List Value} {ds : List (DataW H)} {ps : List MemPlace}
    (hts : ∀ t ∈ ts, t < P.types.size) (hA : DataW.TrodAll enc P W 0 (fun _ => true) true ts vs ds ps) (sp : Nat → Bool) (hsp : ∀ p ∈ ps, sp p.block = true) : DataW.TrodAll enc P W' 0 sp true ts vs ds ps := by
  have h1 := DataW.TrodAll.respare hk hz hts hA hsp
  refine trodAll_carry h1 fun p hp => ?_
  have hlt := DataW.TrodAll.lt hA p hp
  cases p with
  | cell b o => exact cell_same hB hlt
  | map b => exact hB b hlt
theorem kept_of (hos : W'.os = W.os) (hout : W'.output = W.output) (hB : ∀ k, k < W.heap.size → W'.heap[k]? = W.heap[k]?) (may : MemPlace → Prop) : W.keptBut W' may := by
  refine ⟨hos, hout, fun i hi => ?_⟩
  rw [hB i hi]
  cases h : W.heap[i]? with
  | none => rfl
  | some o =>
    cases o with
    | cells c t fr => exact ⟨rfl, rfl, rfl, fun _ _ => rfl⟩
    | map es clock => exact .inr ⟨rfl, rfl⟩
    | _ => rfl
/-- An argument that is read. -/
theorem arg_one {v : Value} {x : C} {ι : Lo} (h : RCs (memI W) v.cells.toList [x]) (hv : v.cells = #[v]) : RT (memI W) ι v (.v (.c x)) := by
  rw [hv] at h
  cases h with
  | cons h _ => exact h
theorem cells_agg {v : Value} (h : v.cells.toList.length ≠ 1) : ∃ cs, v = .agg cs := by
  cases v <;> first | exact ⟨_, rfl⟩ | (exfalso; apply h; rfl)
theorem arg_agg {v : Value} {xs : List C} {ι : Lo} (h : RCs (memI W) v.cells.toList xs) (hl : xs.length ≠ 1) : RT (memI W) ι v (gT xs) := by
  obtain ⟨cs, rfl⟩ := cells_agg (v := v) (by rw [h.len]; exact hl)
  exact ⟨cs.toList, by simp, RCs.asK h ι⟩
theorem trod_read (hk : Kids P (· < P.types.size)) {t : TypeId} {v : Value} {d : DataW H} {ps : List MemPlace} (h : DataW.Trod enc P W 0 (fun _ => true) true t v d ps) (m : Nat) (hm : okT P m t = true) (ht : t < P.types.size) (hB : Rows.uptoBulk d ≤ lim) :
    ∃ xs, RCs (memI W) v.cells.toList xs ∧ Shp P t xs ∧ cBs xs ≤ Rows.uptoBulk d := by
  obtain ⟨n, hn⟩ := h
  exact reads hk (fun _ _ _ h => h) n t _ d ps hn m hm ht hB
theorem one_cells {v : Value} {x : C} {I : Im} (h : RCs I v.cells.toList [x]) : v.cells = #[v] ∨ ∃ u, v = .agg #[u] := by
  cases v <;> first | exact .inl rfl | skip
  rename_i cs
  have := h.len
  simp only [Value.cells, List.length_singleton, Array.length_toList] at this
  refine .inr ⟨cs[0]'(by omega), ?_⟩
  congr 1
  apply Array.ext
  · simpa using this
  · intro i h1 h2
    have : i = 0 := by simp at h2; omega
    subst this; rfl
open Go.WideShapes in
theorem rd_slice {b : Nat} {r : Reach} {ι : Lo} (hk : Kids P (· < P.types.size)) {t e sz : Nat} {α : Type} {f : α → El} {v : Value} {d : DataW H} {ps : List MemPlace} (hval : Value.okWide P W r b t v) (hd : DataW.Trod enc P W 0 (fun _ => true) true t v d ps)
    (hu : P.underlying t = some (.slice e)) (hs : P.cellsOf e = sz) (hf : ∀ r, Shp P e r → ∃ x : α, r = f x) (m : Nat) (hm : okT P m t = true) (ht : t < P.types.size) (hB : Rows.uptoBulk d ≤ lim) : ∃ l : List α, RT (memI W) ι v (lT sz (List.map f l)) ∧ cBss (List.map f l) + 1 ≤ Rows.uptoBulk d := by
  obtain ⟨xs, h1, h2, h3⟩ := trod_read hk hd m hm ht hB
  obtain ⟨l, rfl⟩ := h2.sl' hu hs hf
  obtain ⟨a, len, cap, rfl⟩ := okWide_slice hu hval
  exact ⟨l, arg_one h1 rfl, by simpa [cBs, cB] using h3⟩
open Go.WideShapes in
theorem rd_string {b : Nat} {r : Reach} {ι : Lo} (hk : Kids P (· < P.types.size)) {t : Nat} {v : Value} {d : DataW H} {ps : List MemPlace} (hval : Value.okWide P W r b t v) (hd : DataW.Trod enc P W 0 (fun _ => true) true t v d ps)
    (hu : P.underlying t = some .string) (m : Nat) (hm : okT P m t = true) (ht : t < P.types.size) (hB : Rows.uptoBulk d ≤ lim) : ∃ s : ByteArray, RT (memI W) ι v (sT s) ∧ s.size + 1 ≤ Rows.uptoBulk d := by
  obtain ⟨xs, h1, h2, h3⟩ := trod_read hk hd m hm ht hB
  obtain ⟨s, rfl⟩ := h2.str' hu
  obtain ⟨s', rfl⟩ := okWide_string hu hval
  exact ⟨s, arg_one h1 rfl, by simpa [cBs, cB] using h3⟩
open Go.WideShapes in
theorem rd_i64 {b : Nat} {r : Reach} {ι : Lo} (hk : Kids P (· < P.types.size)) {t : Nat} {v : Value} {d : DataW H} {ps : List MemPlace} (hval : Value.okWide P W r b t v) (hd : DataW.Trod enc P W 0 (fun _ => true) true t v d ps)
    (hu : P.underlying t = some (.int .i64)) (m : Nat) (hm : okT P m t = true) (ht : t < P.types.size) (hB : Rows.uptoBulk d ≤ lim) : ∃ n : Int, RT (memI W) ι v (iT n) ∧ r64 n := by
  obtain ⟨xs, h1, h2, h3⟩ := trod_read hk hd m hm ht hB
  obtain ⟨n, rfl, hr⟩ := h2.i64' hu
  obtain ⟨s', rfl⟩ := okWide_int hu hval
  exact ⟨n, arg_one h1 rfl, hr⟩
open Go.WideShapes in
theorem rd_struct {b : Nat} {r : Reach} {ι : Lo} (hk : Kids P (· < P.types.size)) {t : Nat} {fs : Array Field} {α : Type} {f : α → El} {v : Value} {d : DataW H} {ps : List MemPlace} (hval : Value.okWide P W r b t v) (hd : DataW.Trod enc P W 0 (fun _ => true) true t v d ps)
    (hu : P.underlying t = some (.struct fs)) (hf : ∀ r, Shp P t r → ∃ x : α, r = f x) (m : Nat) (hm : okT P m t = true) (ht : t < P.types.size) (hB : Rows.uptoBulk d ≤ lim) : ∃ x : α, RT (memI W) ι v (gT (f x)) ∧ cBs (f x) ≤ Rows.uptoBulk d := by
  obtain ⟨xs, h1, h2, h3⟩ := trod_read hk hd m hm ht hB
  obtain ⟨x, rfl⟩ := hf _ h2
  obtain ⟨cs, rfl, _⟩ := okWide_struct hu hval
  exact ⟨x, ⟨cs.toList, by simp, RCs.asK h1 ι⟩, h3⟩
theorem row_true (hk : Kids P (· < P.types.size)) (hz : ∀ t e, t < P.types.size → P.underlying t = some (.slice e) → 0 < P.cellsOf e) {f : FuncId} {fn : Func} {s : ChangeSpec} {args : Array Value} {ds gs : List (DataW H)} {before : List MemPlace} {tb : TypeId}
    (hts : ∀ t ∈ fn.params.toList, t < P.types.size) (hrt : fn.resultTypes = #[tb]) (htb : P.underlying tb = some .bool) (hvars : s.vars = []) (hfn : s.fn H (ds ++ gs) = { results := [.lit (.bool true)], args := ds })
    (hW : DataW.Whole enc P fn.params.toList s.vars false W args.toList ds gs before) {targs : List TV} (hargs : All2 (RT (memI W) fun _ => undef) args.toList targs) (hS : Spec P f targs [] (bA true) []) :
    Calls P f args W fun e W' => ∃ v, e = .returned v ∧ s.post enc P fn false true false false W args v W' := by
  have hc := hS.2 (memI W) (fun _ => undef) W args.toList (memI_agr W) hargs ⟨fun _ _ q => (by cases q), fun _ _ q => (by cases q), fun _ _ _ _ q => (by cases q)⟩
  rw [Array.toArray_toList] at hc
  refine hc.mono fun e W' hq => ?_
  obtain ⟨v, I', ι', he, hext, hv, _⟩ := hq
  have hv' : v = .bool true := by
    have h' : RC I' v (.v (.bool true)) := hv
    cases h'; rfl
  subst hv'
  have hB : ∀ k, k < W.heap.size → W'.heap[k]? = W.heap[k]? := fun k hk => hext.below.block k hk fun ⟨_, _, q, _⟩ => by cases q
  refine ⟨_, he, ?_⟩
  have hW' := hW
  obtain ⟨p, q, hA, hV, rfl, hfz, hnd⟩ := hW
  have hgs : gs = [] ∧ q = [] := by
    rw [hvars] at hV
    cases gs with
    | nil => exact ⟨rfl, hV⟩
    | cons _ _ => exact hV.elim
  obtain ⟨rfl, rfl⟩ := hgs
  simp only [List.append_nil] at hW' hfn
  refine ⟨ds, [], p, [], p, [], hW', ?_, ?_, ?_, ?_, fun h => by cases h⟩
  · rw [List.append_nil, hfn, hrt]
    exact trodAll_cons_mk (shut_bool htb _) trodAll_mk0
  · rw [List.append_nil, hfn]
    exact after hk hz hB hts hA _ fun p hp => by simpa using DataW.TrodAll.lt hA p hp
  · rw [List.append_nil, hfn, hvars]
    rfl
  · exact kept_of hext.below.os hext.below.output hB _
end
end Go.Proofs.Ytajmjfdopminbaa.Sym
