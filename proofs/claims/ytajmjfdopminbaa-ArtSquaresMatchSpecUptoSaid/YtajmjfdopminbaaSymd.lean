/- Sym: what evalQ tells of an operation is what the operation does (first part: operands, cells). Conditions: the table of types is the program's (TabOk). -/
import Derived.Test.YtajmjfdopminbaaSymc
set_option linter.unusedVariables false
set_option linter.unusedSimpArgs false
namespace Go.Proofs.Ytajmjfdopminbaa.Sym
open Go Go.RowKit

section
variable {P : Program} {X : Tab}

theorem kOk_int {d : Option TypeDesc} {k : IntKind} (h : kOk P d (.int k) = true) : d = some (.int k) := by
  simp only [kOk] at h; split at h <;> simp_all
theorem kOk_bool {d : Option TypeDesc} (h : kOk P d .bool = true) : d = some .bool := by
  simp only [kOk] at h; split at h <;> simp_all
theorem kOk_str {d : Option TypeDesc} (h : kOk P d .str = true) : d = some .string := by
  simp only [kOk] at h; split at h <;> simp_all
theorem kOk_map {d : Option TypeDesc} {k e : Nat} (h : kOk P d (.map k e) = true) : d = some (.map k e) := by
  simp only [kOk] at h; split at h <;> simp_all
theorem kOk_slice {d : Option TypeDesc} {e : Nat} (h : kOk P d (.slice e) = true) : d = some (.slice e) := by
  simp only [kOk] at h; split at h <;> simp_all
theorem kOk_struct {d : Option TypeDesc} {offs : List (Nat × Nat)} (h : kOk P d (.struct offs) = true) :
    ∃ fs, d = some (.struct fs) ∧ fs.toList.map (fun f => (f.offset, P.cellsOf f.type)) = offs ∧ ∀ p ∈ offs, 0 < p.2 := by
  simp only [kOk] at h
  split at h
  · rename_i fs
    simp only [Bool.and_eq_true, beq_iff_eq, List.all_eq_true, decide_eq_true_eq] at h
    exact ⟨fs, rfl, h.1, h.2⟩
  · cases h
def aggD : TypeDesc → Bool
  | .struct _ => true
  | .array _ _ => true
  | _ => false
theorem kOk_agg {d : Option TypeDesc} {k : TK} (h : kOk P d k = true) : ∃ d', d = some d' ∧ aggD d' = aggK k := by
  cases k with
  | int k => rw [kOk_int h]; exact ⟨_, rfl, rfl⟩
  | bool => rw [kOk_bool h]; exact ⟨_, rfl, rfl⟩
  | str => rw [kOk_str h]; exact ⟨_, rfl, rfl⟩
  | slice e => rw [kOk_slice h]; exact ⟨_, rfl, rfl⟩
  | map k e => rw [kOk_map h]; exact ⟨_, rfl, rfl⟩
  | struct offs => obtain ⟨fs, h1, _⟩ := kOk_struct h; rw [h1]; exact ⟨_, rfl, rfl⟩
  | other =>
    cases d with
    | none => simp [kOk] at h
    | some d' => refine ⟨d', rfl, ?_⟩; cases d' <;> first | rfl | simp [kOk] at h

structure RowFacts (P : Program) (t : Nat) (i : TI) : Prop where
  info : ∃ j, P.info? t = some j ∧ j.size = i.size ∧ j.bytes = i.bytes ∧ ∃ z, j.zero = some z ∧ z.cells.toList.map zkOf = i.zero.map some ∧ i.zero.length = i.size ∧ isAggV z = aggK i.k
  pos : 0 < i.size
  k : kOk P (P.underlying t) i.k = true
theorem TabOk.facts (h : TabOk P X) {t : Nat} {i : TI} (e : tiOf X t = some i) : RowFacts P t i := by
  have := h t i e
  unfold rowOk at this
  cases hj : P.info? t with
  | none => simp [hj] at this
  | some j =>
    simp only [hj] at this
    cases hz : j.zero with
    | none => simp [hz] at this
    | some z =>
      simp only [hz, Bool.and_eq_true, beq_iff_eq, decide_eq_true_eq] at this
      obtain ⟨⟨⟨⟨h1, h2⟩, h3⟩, h4⟩, ⟨h5, h6⟩, h7⟩ := this
      exact ⟨⟨j, hj, h1, h2, z, hz, h5, h6, h7⟩, h3, h4⟩

theorem zkOf_c {v : Value} {k : ZK} (h : zkOf v = some k) (I : Im) : RC I v k.c := by
  unfold zkOf at h
  split at h <;> (try split at h) <;> simp_all <;> subst h <;> simp only [ZK.c]
  all_goals first
    | exact RC.nil
    | exact RC.v _ rfl rfl
theorem zero_cells {z : Value} {l : List ZK} (h : z.cells.toList.map zkOf = l.map some) (I : Im) : RCs I z.cells.toList (l.map ZK.c) := by
  have hl : z.cells.toList.length = l.length := by simpa using congrArg List.length h
  refine All2.of (by simpa using hl) fun i a b ha hb => ?_
  have h1 : (z.cells.toList.map zkOf)[i]? = some (zkOf a) := by rw [List.getElem?_map, ha]; rfl
  rw [h, List.getElem?_map] at h1
  rw [List.getElem?_map] at hb
  cases hk : l[i]? with
  | none => simp [hk] at h1
  | some k =>
    rw [hk] at h1 hb
    simp at h1 hb
    subst hb
    exact zkOf_c h1.symm I


theorem RC.cvC {v : Value} (h : v.oneCell' = true) (I : Im) (ι : Lo) : RK I ι v (Sym.cvC v) := by
  unfold Sym.cvC
  split
  · exact ⟨RC.nil, h⟩
  · cases hw : okV v with
    | true => exact ⟨RC.v _ h hw, h⟩
    | false => exact ⟨trivial, h⟩
end

section
variable {P : Program} {X : Tab} {E : Env} {w : World} {I : Im} {ι : Lo} {fr : Fr} {hp : Hp} {a : Act}

theorem cv_sound (v : Value) : RV I ι v (cv v) := by
  unfold cv
  split
  · exact RC.nil
  · rename_i cs
    cases hb : cs.toList.all Value.oneCell' with
    | false => trivial
    | true =>
      refine ⟨cs.toList, by simp, ?_⟩
      have hall := List.all_eq_true.1 hb
      generalize cs.toList = l at hall
      clear hb
      induction l with
      | nil => exact .nil
      | cons x r ih => exact .cons (RC.cvC (hall x (by simp)) I ι) (ih fun y hy => hall y (by simp [hy]))
  · trivial
  · cases hw : okV v with
    | false => trivial
    | true =>
      refine RC.v _ ?_ hw
      cases v <;> first | rfl | (exfalso; simp_all)

theorem opv_sound (h : St E fr hp I ι a w) (x : Operand) : RV I ι (a.eval x) (opv fr x) := by
  cases x with
  | const v => exact cv_sound v
  | func f => exact RC.fn f [] [] rfl (fun i x c h _ => by simp at h)
  | global _ => trivial
  | tmp t => exact h.rel.slot t

theorem wp_of_run {o : Oper} {v : Value} {w' : World} {next : Act → World → Prop} {Q : Exit → Act → World → Prop}
    (hr : (execOp a.eval o).run P w = .ok (.value v) w') (h : next (a.put o.dst v) w') : o.wp P a w next Q := by
  unfold Oper.wp; rw [hr]; exact h

theorem RCs.len {xs : List Value} {cs : List C} (h : RCs I xs cs) : xs.length = cs.length := All2.len h
theorem RCs.asK {xs : List Value} {cs : List C} (h : RCs I xs cs) (ι : Lo) : All2 (RK I ι) xs (cs.map .c) := h.map_ fun a b r => ⟨r, r.one⟩
def At (w : World) (ad : Addr) (vals : List Value) : Prop := ∀ (j : Nat) (u : Value), vals[j]? = some u → w.cell? (ad.add j) = some u

theorem flat_seg {α : Type} {sz : Nat} : ∀ (l : List (List α)) (i : Nat) (e : List α), (∀ e ∈ l, e.length = sz) → l[i]? = some e → (l.flatten.drop (i * sz)).take sz = e
  | [], i, e, _, h => by simp at h
  | r :: l, 0, e, hs, h => by
    simp at h; subst h
    rw [Nat.zero_mul, List.drop_zero, List.flatten_cons, ← hs r (by simp), List.take_left]
  | r :: l, i + 1, e, hs, h => by
    simp at h
    have := flat_seg l i e (fun e he => hs e (by simp [he])) h
    rw [List.flatten_cons, Nat.succ_mul, Nat.add_comm, ← hs r (by simp), List.drop_length_add_append]
    rw [hs r (by simp)]; exact this

/-- An own slice's cells. -/
theorem row_at {e sz : Nat} {xs : List El} {v : Value} (h : RO I ι w v (.row e sz xs)) : ∃ vals, RCs I vals xs.flatten ∧ (∀ x ∈ xs, x.length = sz) ∧ ∀ B len cap, v = .slice (some ⟨B, 0, none⟩) len cap → At w ⟨B, 0, none⟩ vals := by
  obtain ⟨vals, h1, h2, h3, h4⟩ := h
  refine ⟨vals, h3, h2, fun B len cap hv j u hj => ?_⟩
  rcases h1.2 with ⟨rfl, _⟩ | ⟨g, cap', cur, hv', _, hg, hnc, _, hsz, htake⟩
  · cases hv
  · rw [hv'] at hv
    simp at hv
    obtain ⟨rfl, _⟩ := hv
    rw [Addr.add_lit, cell_of_row w g _ _ e (0, 0) hg]
    rw [← htake, List.getElem?_take] at hj
    split at hj
    · simpa using hj
    · cases hj

theorem cellsAt_sound (h : St E fr hp I ι a w) {v : Value} {x : AV} (hx : RV I ι v x) {n : Nat} {cs : List CV} {φ : Prop} {orc orc' : Orc} (he : cellsAt hp n orc x = some (cs, φ, orc')) (hφ : φ) :
    ∃ ad vs, v = .pointer (some ad) ∧ At w ad vs ∧ All2 (RK I ι) vs cs ∧ cs.length = n := by
  unfold cellsAt at he
  split at he
  · rename_i id o
    split at he
    · rename_i t l hg
      obtain ⟨B, h1, h2⟩ := hx
      obtain ⟨B', vs, h3, h4, h5⟩ := h.rel.obj _ _ hg
      have h3' := h1.symm.trans h3
      simp at h3'; subst h3'
      cases hle : Nat.ble (o + n) l.length with
      | false => simp [hle] at he
      | true =>
        simp only [hle, cond_true, Option.some.injEq, Prod.mk.injEq] at he
        obtain ⟨rfl, _, _⟩ := he
        have hle' : o + n ≤ l.length := Nat.le_of_ble_eq_true hle
        refine ⟨_, (vs.drop o).take n, h2, fun j u hj => ?_, (h5.drop o).take n, by simp; omega⟩
        rw [Addr.add_lit, cell_of_row w B _ _ t (0, 0) h4]
        rw [List.getElem?_take] at hj
        split at hj
        · rw [List.getElem?_drop] at hj; simpa using hj
        · cases hj
    · cases he
  · rename_i cells
    cases hle : Nat.ble n cells.length with
    | false => simp [hle] at he
    | true =>
      simp only [hle, cond_true, Option.some.injEq, Prod.mk.injEq] at he
      obtain ⟨rfl, _, _⟩ := he
      have hle' : n ≤ cells.length := Nat.le_of_ble_eq_true hle
      have hx' : RC I v (.ptr cells) := hx
      obtain ⟨b, off, get, hI, hR, rfl⟩ : ∃ (b off : Nat) (get : Nat → Value), (∀ (j : Nat), j < cells.length → I b (off + j) = some (get j)) ∧ (∀ (j : Nat) (c : C), cells[j]? = some c → RC I (get j) c) ∧ v = .pointer (some ⟨b, off, none⟩) := by
        cases hx' with
        | ptr b off cells get hI hR => exact ⟨b, off, get, hI, hR, rfl⟩
      refine ⟨_, (List.range n).map get, rfl, fun j u hj => ?_, RCs.asK (All2.of (by simp; omega) fun i x y hx hy => ?_) ι, by simp; omega⟩
      · rw [Addr.add_lit]
        simp only [List.getElem?_map, Option.map_eq_some_iff, List.getElem?_range'] at hj
        obtain ⟨k, hk, rfl⟩ := hj
        have hjn : j < n := by
          have := (List.getElem?_eq_some_iff.1 hk).1; simpa using this
        have : k = j := by rw [List.getElem?_range hjn] at hk; simpa using hk.symm
        subst this
        exact h.agr _ _ _ (hI k (by omega))
      · have hin : i < n := by
          have := (List.getElem?_eq_some_iff.1 hx).1; simpa using this
        rw [List.getElem?_map, List.getElem?_range hin] at hx
        simp at hx; subst hx
        rw [List.getElem?_take_of_lt hin] at hy
        exact hR i y hy
  · rename_i sz id i o
    split at he
    · rename_i t sz' xs e orc2 hg
      cases hle : sz == sz' && Nat.ble (o + n) e.length with
      | false => simp [hle] at he
      | true =>
        simp only [hle, cond_true, Option.some.injEq, Prod.mk.injEq] at he
        obtain ⟨rfl, rfl, _⟩ := he
        simp only [Bool.and_eq_true, beq_iff_eq] at hle
        obtain ⟨rfl, hle⟩ := hle
        have hle' : o + n ≤ e.length := Nat.le_of_ble_eq_true hle
        obtain ⟨B, len, cap, h1, h2⟩ := hx
        obtain ⟨vals, h3, h4, h5⟩ := row_at (h.rel.obj _ _ hg)
        have hA := h5 B len cap h1
        have hseg := flat_seg xs i e h4 hφ
        have hel : e.length = sz := h4 e (List.mem_of_getElem? hφ)
        refine ⟨_, ((((vals.drop (i * sz)).take sz).drop o).take n), h2, fun j u hj => ?_, RCs.asK ?_ ι, by simp; omega⟩
        · have hA' := hA (i * sz + o + j) u
          rw [Addr.add_lit] at hA'
          rw [Addr.add_lit]
          simp only [Nat.zero_add] at hA'
          refine hA' ?_
          rw [List.getElem?_take] at hj
          split at hj
          · rw [List.getElem?_drop, List.getElem?_take] at hj
            split at hj
            · rw [List.getElem?_drop] at hj; rw [← hj, Nat.add_assoc]
            · cases hj
          · cases hj
        · have := (((h3.drop (i * sz)).take sz).drop o).take n
          rw [hseg] at this
          exact this
    · rename_i e' sz' q e2 sz2 m hole xs e orc2 hg
      cases hb : sz == sz' && Nat.ble (o + n) e.length with
      | false => rw [hb] at he; simp at he
      | true =>
        rw [hb] at he
        simp only [cond_true, Option.some.injEq, Prod.mk.injEq] at he
        obtain ⟨rfl, rfl, _⟩ := he
        simp only [Bool.and_eq_true, beq_iff_eq] at hb
        obtain ⟨rfl, hle⟩ := hb
        have hle' : o + n ≤ e.length := Nat.le_of_ble_eq_true hle
        obtain ⟨hel, hcov⟩ := hφ
        obtain ⟨B, len, cap, h1, h2⟩ := hx
        obtain ⟨⟨us, k1, k2, k3, k4, k5, k6, k7, k8, k9⟩, _⟩ := h.rel.obj _ _ hg
        have hlen : e.length = sz := k2 e (List.mem_of_getElem? hel)
        have hil : i < xs.length := (List.getElem?_eq_some_iff.1 hel).1
        have hfit : i * sz + sz ≤ us.length := by
          rw [k1.1, ← Nat.succ_mul]; exact Nat.mul_le_mul_right _ hil
        refine ⟨_, (us.drop (i * sz + o)).take n, h2, fun j u hj => ?_, RCs.asK (All2.of (by simp; omega) fun j u c hu hc => ?_) ι, by simp; omega⟩
        · rw [List.getElem?_take] at hj
          split at hj
          · rw [List.getElem?_drop] at hj
            have hc := k1.cells (g := B) (by rw [h1]; rfl) (i * sz + o + j) u hj
            rw [Addr.add_lit, Nat.zero_add] at hc
            rw [Addr.add_lit]; exact hc
          · cases hj
        · rw [List.getElem?_take] at hu hc
          split at hu
          · rename_i hjn
            rw [if_pos hjn] at hc
            rw [List.getElem?_drop] at hu hc
            refine k7 i (o + j) e c u hel hc (by rw [← Nat.add_assoc]; exact hu) fun ⟨hq, hm⟩ => ?_
            cases hb2 : (Nat.blt q o || Nat.ble (o + n) q) with
            | true =>
              simp only [Bool.or_eq_true, Nat.blt_eq] at hb2
              rcases hb2 with r | r
              · omega
              · have := Nat.le_of_ble_eq_true r; omega
            | false =>
              rw [hb2] at hcov
              have : m ≤ i := hcov
              omega
          · cases hu
    · rename_i e' sz' q e2 sz2 m hole xs d orc2 hg
      split at he
      case h_2 => cases he
      rename_i j hj
      cases hb : sz == sz' && o == q && n == 1 with
      | false => rw [hb] at he; simp at he
      | true =>
        rw [hb] at he
        simp only [cond_true, Option.some.injEq, Prod.mk.injEq] at he
        obtain ⟨rfl, rfl, _⟩ := he
        simp only [Bool.and_eq_true, beq_iff_eq] at hb
        obtain ⟨⟨rfl, rfl⟩, rfl⟩ := hb
        subst hφ
        obtain ⟨B, len, cap, h1, h2⟩ := hx
        obtain ⟨⟨us, k1, k2, k3, k4, k5, k6, k7, k8, k9⟩, _⟩ := h.rel.obj _ _ hg
        obtain ⟨hi, hu⟩ := k9 _ _ (holeOf_mem hj)
        refine ⟨_, [ι d], h2, fun j' u hj => ?_, .cons ⟨⟨rfl, k6 _ (List.mem_of_getElem? hu)⟩, k6 _ (List.mem_of_getElem? hu)⟩ .nil, rfl⟩
        cases j' with
        | zero =>
          simp at hj; subst hj
          have hc := k1.cells (g := B) (by rw [h1]; rfl) (i * sz + o) _ hu
          rw [Addr.add_lit, Nat.zero_add] at hc
          rw [Addr.add_lit, Nat.add_zero]; exact hc
        | succ j' => simp at hj
    · cases he
  · cases he

theorem run_isAgg {t : Nat} {i : TI} (hf : RowFacts P t i) (w : World) : (isAgg t).run P w = .ok (aggK i.k) w := by
  obtain ⟨d, hd, he⟩ := kOk_agg hf.k
  unfold isAgg
  rw [Sem.run_bind, run_underlying hd w]
  cases d <;> simp_all [aggD]
theorem run_sizeOf {t : Nat} {i : TI} (hf : RowFacts P t i) (w : World) : (sizeOf t).run P w = .ok i.size w := by
  obtain ⟨⟨j, h1, h2, _⟩, _⟩ := hf
  simp [sizeOf, typeInfo, h1, h2]
theorem isAggT_eq {t : Nat} {i : TI} (e : tiOf X t = some i) : isAggT X t = aggK i.k := by
  unfold isAggT
  rw [e]
  obtain ⟨k, _, _, _⟩ := i
  cases k <;> rfl

/-- A variable is read. -/
theorem run_loadVar (hX : TabOk P X) {t : Nat} {i : TI} (e : tiOf X t = some i) {ad : Addr} {vs : List Value} (hA : At w ad vs) (hl : vs.length = i.size) :
    (loadVar t ad).run P w = .ok (if aggK i.k = true then .agg vs.toArray else vs.getD 0 undef) w := by
  have hf := hX.facts e
  unfold loadVar
  rw [Sem.run_bind, run_isAgg hf w]
  have hcells : (loadCells ad i.size).run P w = .ok vs.toArray w := by rw [← hl]; exact run_loadCells_list w ad vs hA
  cases hk : aggK i.k with
  | true => simp [run_sizeOf hf w, hcells]
  | false =>
    have h0 : 0 < vs.length := by rw [hl]; exact hf.pos
    have hc : w.cell? ad = some vs[0] := by
      have := hA 0 vs[0] (List.getElem?_eq_getElem h0)
      simpa [Addr.add] using this
    simp [load, Sem.run, hc, List.getD_eq_getElem?_getD, List.getElem?_eq_getElem h0]

end
end Go.Proofs.Ytajmjfdopminbaa.Sym
