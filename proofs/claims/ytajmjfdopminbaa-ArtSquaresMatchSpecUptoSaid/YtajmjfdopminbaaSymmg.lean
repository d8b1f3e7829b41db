/- Sym: own slices within own slices: taken out, put back, become data. Conditions: none. -/
import Derived.Test.YtajmjfdopminbaaSymm
set_option linter.unusedVariables false
set_option linter.unusedSimpArgs false
namespace Go.Proofs.Ytajmjfdopminbaa.Sym
open Go Go.RowKit

section
variable {P : Program} {X : Tab} {E : Env} {w w' : World} {I I' : Im} {ι ι2 : Lo} {fr fr' : Fr} {hp hp' hp2 : Hp} {a : Act} {o : Oper} {v : Value}

theorem flat_ij {α : Type} {sz : Nat} {xs : List (List α)} (hs : ∀ x ∈ xs, x.length = sz) {i j : Nat} {x : List α} {c : α} (hx : xs[i]? = some x) (hc : x[j]? = some c) : xs.flatten[i * sz + j]? = some c := by
  have hel : x.length = sz := hs x (List.mem_of_getElem? hx)
  have hj : j < sz := by rw [← hel]; exact (List.getElem?_eq_some_iff.1 hc).1
  have hp : 0 < sz := by omega
  rw [flat_get hp xs hs]
  have h4 : (i * sz + j) / sz = i := by rw [Nat.mul_comm, Nat.mul_add_div hp, Nat.div_eq_of_lt hj, Nat.add_zero]
  have h5 : (i * sz + j) % sz = j := by rw [Nat.mul_comm, Nat.mul_add_mod, Nat.mod_eq_of_lt hj]
  rw [h4, h5, hx]; exact hc
theorem flat_inv {α : Type} {sz : Nat} {xs : List (List α)} (hs : ∀ x ∈ xs, x.length = sz) {k : Nat} {c : α} (h : xs.flatten[k]? = some c) : 0 < sz ∧ ∃ x, xs[k / sz]? = some x ∧ x[k % sz]? = some c := by
  have hp : 0 < sz := by
    rcases Nat.eq_zero_or_pos sz with e | e
    · subst e
      have := (List.getElem?_eq_some_iff.1 h).1
      rw [flat_len (sz := 0) xs hs] at this; omega
    · exact e
  rw [flat_get hp xs hs] at h
  cases hx : xs[k / sz]? with
  | none => rw [hx] at h; cases h
  | some x => rw [hx] at h; exact ⟨hp, x, rfl, h⟩
/-- Cells, told by element and place. -/
theorem RCs.of_ij {sz : Nat} {xs : List El} {us : List Value} (hs : ∀ x ∈ xs, x.length = sz) (hl : us.length = xs.length * sz) (h : ∀ i j x c u, xs[i]? = some x → x[j]? = some c → us[i * sz + j]? = some u → RC I u c) : RCs I us xs.flatten :=
  All2.of (by rw [hl, flat_len xs hs]) fun k u c hu hc => by
    obtain ⟨hp, x, h1, h2⟩ := flat_inv hs hc
    have : k / sz * sz + k % sz = k := by rw [Nat.mul_comm]; exact Nat.div_add_mod k sz
    exact h (k / sz) (k % sz) x c u h1 h2 (by rw [this]; exact hu)

/-- The objects are told otherwise; nothing is written. -/
theorem St.regroup (h : St E fr hp I ι a w) (hfix : ∀ id, id < E.k → ι2 id = ι id) (hslot : ∀ s, RV I ι2 (vals a s) (get fr s)) (hobj : ∀ id ob, getO hp2 id = some ob → RO I ι2 w (ι2 id) ob)
    (hown : ∀ id ob, getO hp2 id = some ob → ∀ B, owns w (ι2 id) ob B → ∃ id0 ob0, getO hp id0 = some ob0 ∧ owns w (ι id0) ob0 B)
    (hinj : ∀ id id' ob ob', getO hp2 id = some ob → getO hp2 id' = some ob' → ∀ B, owns w (ι2 id) ob B → owns w (ι2 id') ob' B → id = id') : St E fr hp2 I ι2 a w :=
  ⟨h.below, h.le, h.new, h.agr, h.size, h.defers, fun id hid => (hfix id hid).trans (h.fix id hid), hslot, hobj, fun id ob hg B hB => by
    obtain ⟨id0, ob0, h1, h2⟩ := hown id ob hg B hB
    exact h.rel.own id0 ob0 h1 B h2, hinj⟩

theorem inner_val {e sz q e' sz' m : Nat} {hole : List (Nat × Nat)} {xs : List El} {us : List Value} (h : w.ownsRow 0 e sz v xs.length us) (hm : m ≤ xs.length) (hq : q < sz) {i : Nat} {u : Value} (hi : inner w v (.nrow e sz q e' sz' m hole xs) i u) : i < m ∧ us[i * sz + q]? = some u := by
  obtain ⟨h1, _, g, len, cap, h2, h3⟩ := hi
  refine ⟨h1, ?_⟩
  have hlt : i * sz + q < us.length := by
    rw [h.1]
    have : (i + 1) * sz ≤ xs.length * sz := Nat.mul_le_mul_right _ (by omega)
    rw [Nat.succ_mul] at this; omega
  have := h.cells (g := g) (by rw [h2]; rfl) (i * sz + q) _ (List.getElem?_eq_getElem hlt)
  rw [Addr.add_lit, Nat.zero_add] at this
  rw [List.getElem?_eq_getElem hlt, ← this, h3]

/-- An own slice is one of own slices, of which there are none yet. -/
theorem St.nwrap (h : St E fr hp I ι a w) {id e sz : Nat} {xs : List El} (hg : getO hp id = some (.row e sz xs)) {q : Nat} (hq : q < sz) (e' sz' : Nat) : St E fr (setO hp id (.nrow e sz q e' sz' 0 [] xs)) I ι a w := by
  refine h.objTo hg (fun hx => ?_) fun B hB => ?_
  · obtain ⟨us, h1, h2, h3, h4⟩ := hx
    refine ⟨⟨us, h1, h2, h4, Nat.zero_le _, hq, h3.one, fun i j x c u hx hc hu _ => ?_, fun i x u hi => absurd hi (Nat.not_lt_zero _), fun i d hd => by cases hd⟩, ⟨fun i u B hi => absurd hi.1 (Nat.not_lt_zero _), fun i j u u' B hi => absurd hi.1 (Nat.not_lt_zero _)⟩⟩
    obtain ⟨u', hu', hr⟩ := h3.at _ _ (flat_ij h2 hx hc)
    rw [hu] at hu'; cases hu'; exact hr
  · rcases hB with hB | ⟨i, u, hi, _⟩
    · exact .inl hB
    · exact absurd hi.1 (Nat.not_lt_zero _)

/-- One of the own slices within gets a name of its own. -/
theorem St.ntake (h : St E fr hp I ι a w) {id e sz q e' sz' m : Nat} {hole : List (Nat × Nat)} {xs : List El} (hg : getO hp id = some (.nrow e sz q e' sz' m hole xs)) {d : Nat} (hd : fresh E.k d fr hp = true) {i : Nat} (hi : i < m) (hno : notIn hole i) {x : El} (hx : xs[i]? = some x) {ys : List El} (hc : x[q]? = some (.sl sz' ys)) :
    ∃ ι', St E fr (setO (setO hp d (.row e' sz' ys)) id (.nrow e sz q e' sz' m ((i, d) :: hole) xs)) I ι' a w := by
  obtain ⟨hd1, hd2⟩ := fresh_spec hd
  have hne : id ≠ d := (freshB_ob hd1 hg).1
  obtain ⟨⟨us, k1, k2, k3, k4, k5, k6, k7, k8, k9⟩, ko⟩ := h.rel.obj _ _ hg
  have hlt : i * sz + q < us.length := by
    rw [k1.1]
    have : (i + 1) * sz ≤ xs.length * sz := Nat.mul_le_mul_right _ (by omega)
    rw [Nat.succ_mul] at this; omega
  have hu : us[i * sz + q]? = some us[i * sz + q] := List.getElem?_eq_getElem hlt
  generalize us[i * sz + q] = u at hu
  obtain ⟨ys', hc', hrow⟩ := k8 i x u hi (notIn_not hno) hx hu
  rw [hc] at hc'; cases hc'
  obtain ⟨g, cap, hv, hcell⟩ := RO.cell (e := e) (sz := sz) (q := q) (e' := e') (sz' := sz') (m := m) (hole := hole) k1 hu
  have hin : inner w (ι id) (.nrow e sz q e' sz' m hole xs) i u := ⟨hi, notIn_not hno, g, _, cap, hv, hcell⟩
  have hι : ∀ j, j ≠ d → upd ι d u j = ι j := fun j hj => upd_ne ι u hj
  have hsub : ∀ j u', inner w (ι id) (.nrow e sz q e' sz' m ((i, d) :: hole) xs) j u' → inner w (ι id) (.nrow e sz q e' sz' m hole xs) j u' ∧ j ≠ i := fun j u' ⟨a1, a2, a3⟩ => ⟨⟨a1, fun d' e => a2 d' (List.mem_cons_of_mem _ e), a3⟩, fun e => a2 d (by rw [e]; exact List.mem_cons_self ..)⟩
  have howns : ∀ B, owns w (ι id) (.nrow e sz q e' sz' m ((i, d) :: hole) xs) B → owns w (ι id) (.nrow e sz q e' sz' m hole xs) B ∧ blockOf u ≠ some B := fun B hB => by
    rcases hB with hB | ⟨j, u', hj, hB⟩
    · exact ⟨.inl hB, fun e => ko.base i u B hin e hB⟩
    · obtain ⟨a1, a2⟩ := hsub j u' hj
      exact ⟨.inr ⟨j, u', a1, hB⟩, fun e => a2 (ko.each j i u' u B a1 hin hB e)⟩
  have hget : ∀ j ob, getO (setO (setO hp d (.row e' sz' ys)) id (.nrow e sz q e' sz' m ((i, d) :: hole) xs)) j = some ob → (j = id ∧ ob = .nrow e sz q e' sz' m ((i, d) :: hole) xs) ∨ (j = d ∧ ob = .row e' sz' ys) ∨ (j ≠ id ∧ j ≠ d ∧ getO hp j = some ob) := fun j ob hj => by
    rw [getO_setO, getO_setO] at hj
    split at hj
    · rename_i e; cases hj; exact .inl ⟨e, rfl⟩
    · rename_i e1
      split at hj
      · rename_i e; cases hj; exact .inr (.inl ⟨e, rfl⟩)
      · rename_i e2; exact .inr (.inr ⟨e1, e2, hj⟩)
  have hdv : upd ι d u d = u := upd_same ι d u
  refine ⟨upd ι d u, h.regroup (fun j hj => hι j (by omega)) (fun s => (h.rel.slot s).cong (Im.le_refl _) fun j hj => hι j fun e => freshB_slot hd1 s (e ▸ hj)) (fun j ob hj => ?_) (fun j ob hj B hB => ?_) fun j j' ob ob' hj hj' B hB hB' => ?_⟩
  · rcases hget j ob hj with ⟨rfl, rfl⟩ | ⟨rfl, rfl⟩ | ⟨n1, n2, hk⟩
    · rw [hι j hne]
      refine ⟨⟨us, k1, k2, k3, k4, k5, k6, k7, fun i' x' u' a1 a2 a3 a4 => k8 i' x' u' a1 (fun d' e => a2 d' (List.mem_cons_of_mem _ e)) a3 a4, fun i' d' e => ?_⟩, ⟨fun j' u' B hj' => ko.base j' u' B (hsub j' u' hj').1, fun j1 j2 u1 u2 B a1 a2 => ko.each j1 j2 u1 u2 B (hsub _ _ a1).1 (hsub _ _ a2).1⟩⟩
      rcases List.mem_cons.1 e with e | e
      · cases e
        exact ⟨hi, by rw [hdv]; exact hu⟩
      · rw [hι d' fun q => (freshB_ob hd1 hg).2 (List.mem_map.2 ⟨(i', d'), e, q⟩)]
        exact k9 i' d' e
    · rw [hdv]; exact hrow
    · rw [hι j n2]
      exact (h.rel.obj j ob hk).cong (Im.le_refl _) (fun j' hj' => hι j' fun e => (freshB_ob hd1 hk).2 (e ▸ hj')) fun _ _ => rfl
  · rcases hget j ob hj with ⟨rfl, rfl⟩ | ⟨rfl, rfl⟩ | ⟨n1, n2, hk⟩
    · rw [hι j hne] at hB
      exact ⟨j, _, hg, (howns B hB).1⟩
    · rw [hdv] at hB
      exact ⟨id, _, hg, .inr ⟨i, u, hin, owns_flat rfl hB⟩⟩
    · rw [hι j n2] at hB
      exact ⟨j, ob, hk, hB⟩
  · rcases hget j ob hj with ⟨rfl, rfl⟩ | ⟨rfl, rfl⟩ | ⟨n1, n2, hk⟩ <;> rcases hget j' ob' hj' with ⟨rfl, rfl⟩ | ⟨rfl, rfl⟩ | ⟨n1', n2', hk'⟩
    · rfl
    · rw [hι _ hne] at hB; rw [hdv] at hB'
      exact ((howns B hB).2 (owns_flat rfl hB')).elim
    · rw [hι _ hne] at hB; rw [hι _ n2'] at hB'
      exact h.rel.inj _ _ _ _ hg hk' B (howns B hB).1 hB'
    · rw [hι _ hne] at hB'; rw [hdv] at hB
      exact ((howns B hB').2 (owns_flat rfl hB)).elim
    · rfl
    · rw [hdv] at hB; rw [hι _ n2'] at hB'
      exact (n1' (h.rel.inj _ _ _ _ hg hk' B (.inr ⟨i, u, hin, owns_flat rfl hB⟩) hB').symm).elim
    · rw [hι _ hne] at hB'; rw [hι _ n2] at hB
      exact h.rel.inj _ _ _ _ hk hg B hB (howns B hB').1
    · rw [hdv] at hB'; rw [hι _ n2] at hB
      exact (n1 (h.rel.inj _ _ _ _ hk hg B hB (.inr ⟨i, u, hin, owns_flat rfl hB'⟩))).elim
    · rw [hι _ n2] at hB; rw [hι _ n2'] at hB'
      exact h.rel.inj _ _ _ _ hk hk' B hB hB'

/-- The next element's cell is opened, to be written. -/
theorem St.nopen (h : St E fr hp I ι a w) {id e sz q e' sz' m : Nat} {xs : List El} (hg : getO hp id = some (.nrow e sz q e' sz' m [] xs)) {d : Nat} (hd : fresh E.k d fr hp = true) (hm : m < xs.length) :
    ∃ ι', St E fr (setO hp id (.nrow e sz q e' sz' (m + 1) [(m, d)] xs)) I ι' a w := by
  obtain ⟨hd1, hd2⟩ := fresh_spec hd
  have hne : id ≠ d := (freshB_ob hd1 hg).1
  obtain ⟨⟨us, k1, k2, k3, k4, k5, k6, k7, k8, k9⟩, ko⟩ := h.rel.obj _ _ hg
  have hlt : m * sz + q < us.length := by
    rw [k1.1]
    have : (m + 1) * sz ≤ xs.length * sz := Nat.mul_le_mul_right _ (by omega)
    rw [Nat.succ_mul] at this; omega
  have hu : us[m * sz + q]? = some us[m * sz + q] := List.getElem?_eq_getElem hlt
  generalize us[m * sz + q] = u at hu
  have hι : ∀ j, j ≠ d → upd ι d u j = ι j := fun j hj => upd_ne ι u hj
  have hdv : upd ι d u d = u := upd_same ι d u
  have hsub : ∀ j u', inner w (ι id) (.nrow e sz q e' sz' (m + 1) [(m, d)] xs) j u' → inner w (ι id) (.nrow e sz q e' sz' m [] xs) j u' := fun j u' ⟨a1, a2, a3⟩ =>
    ⟨by
      have : j ≠ m := fun e => a2 d (by rw [e]; exact List.mem_cons_self ..)
      omega, (fun d e => by cases e), a3⟩
  have howns : ∀ B, owns w (ι id) (.nrow e sz q e' sz' (m + 1) [(m, d)] xs) B → owns w (ι id) (.nrow e sz q e' sz' m [] xs) B := fun B hB =>
    hB.imp (fun q => q) fun ⟨j, u', hj, hB⟩ => ⟨j, u', hsub j u' hj, hB⟩
  have hget : ∀ j ob, getO (setO hp id (.nrow e sz q e' sz' (m + 1) [(m, d)] xs)) j = some ob → ∃ ob0, getO hp j = some ob0 ∧ j ≠ d ∧ (j = id ∧ ob = .nrow e sz q e' sz' (m + 1) [(m, d)] xs ∨ ob = ob0 ∧ j ≠ id) := fun j ob hj => by
    rw [getO_setO] at hj
    split at hj
    · rename_i e; cases hj; exact ⟨_, e ▸ hg, e ▸ hne, .inl ⟨e, rfl⟩⟩
    · rename_i e1; exact ⟨ob, hj, (freshB_ob hd1 hj).1, .inr ⟨rfl, e1⟩⟩
  have hback : ∀ j ob, getO (setO hp id (.nrow e sz q e' sz' (m + 1) [(m, d)] xs)) j = some ob → ∃ ob0, getO hp j = some ob0 ∧ ∀ B, owns w (upd ι d u j) ob B → owns w (ι j) ob0 B := fun j ob hj => by
    obtain ⟨ob0, h1, h2, h3⟩ := hget j ob hj
    refine ⟨ob0, h1, fun B hB => ?_⟩
    rw [hι j h2] at hB
    rcases h3 with ⟨rfl, rfl⟩ | ⟨rfl, _⟩
    · rw [hg] at h1; cases h1; exact howns B hB
    · exact hB
  refine ⟨upd ι d u, h.regroup (fun j hj => hι j (by omega)) (fun s => (h.rel.slot s).cong (Im.le_refl _) fun j hj => hι j fun e => freshB_slot hd1 s (e ▸ hj)) (fun j ob hj => ?_) (fun j ob hj B hB => ?_) fun j j' ob ob' hj hj' B hB hB' => ?_⟩
  · obtain ⟨ob0, h1, h2, h3⟩ := hget j ob hj
    rw [hι j h2]
    rcases h3 with ⟨rfl, rfl⟩ | ⟨rfl, _⟩
    · refine ⟨⟨us, k1, k2, k3, hm, k5, k6, fun i j x c u hx hc hu hn => k7 i j x c u hx hc hu fun q => hn ⟨q.1, by omega⟩, fun i' x' u' a1 a2 a3 a4 => k8 i' x' u' (by
          have : i' ≠ m := fun e => a2 d (by rw [e]; exact List.mem_cons_self ..)
          omega) (fun d e => by cases e) a3 a4, fun i' d' e => ?_⟩, ⟨fun j' u' B hj' => ko.base j' u' B (hsub j' u' hj'), fun j1 j2 u1 u2 B a1 a2 => ko.each j1 j2 u1 u2 B (hsub _ _ a1) (hsub _ _ a2)⟩⟩
      obtain ⟨rfl, rfl⟩ : i' = m ∧ d' = d := by simpa using e
      exact ⟨Nat.lt_succ_self _, by rw [hdv]; exact hu⟩
    · exact (h.rel.obj j ob h1).cong (Im.le_refl _) (fun j' hj' => hι j' fun e => (freshB_ob hd1 h1).2 (e ▸ hj')) fun _ _ => rfl
  · obtain ⟨ob0, h1, h2⟩ := hback j ob hj
    exact ⟨j, ob0, h1, h2 B hB⟩
  · obtain ⟨ob1, h1, h2⟩ := hback j ob hj
    obtain ⟨ob2, h3, h4⟩ := hback j' ob' hj'
    exact h.rel.inj _ _ _ _ h1 h3 B (h2 B hB) (h4 B hB')

/-- The next element's cell is nil: an own slice of no element. -/
theorem St.nnil (h : St E fr hp I ι a w) {id e sz q e' sz' m : Nat} {xs : List El} (hg : getO hp id = some (.nrow e sz q e' sz' m [] xs)) {x : El} (hx : xs[m]? = some x) (hc : x[q]? = some .nil) :
    St E fr (setO hp id (.nrow e sz q e' sz' (m + 1) [] (xs.set m (x.set q (.sl sz' []))))) I ι a w := by
  obtain ⟨⟨us, k1, k2, k3, k4, k5, k6, k7, k8, k9⟩, ko⟩ := h.rel.obj _ _ hg
  have hm : m < xs.length := (List.getElem?_eq_some_iff.1 hx).1
  have hxl : x.length = sz := k2 x (List.mem_of_getElem? hx)
  have hlt : m * sz + q < us.length := by
    rw [k1.1]
    have : (m + 1) * sz ≤ xs.length * sz := Nat.mul_le_mul_right _ (by omega)
    rw [Nat.succ_mul] at this; omega
  have hu : us[m * sz + q]? = some us[m * sz + q] := List.getElem?_eq_getElem hlt
  generalize us[m * sz + q] = u at hu
  have hu0 : u = .slice none 0 0 := by
    have := k7 m q x .nil u hx hc hu (fun e => by omega)
    cases this; rfl
  subst hu0
  have hsub : ∀ j u', inner w (ι id) (.nrow e sz q e' sz' (m + 1) [] (xs.set m (x.set q (.sl sz' [])))) j u' → inner w (ι id) (.nrow e sz q e' sz' m [] xs) j u' ∨ blockOf u' = none := fun j u' hj => by
    by_cases e1 : j < m
    · exact .inl ⟨e1, (fun d e => by cases e), hj.2.2⟩
    · have k1' : w.ownsRow 0 e sz (ι id) (xs.set m (x.set q (.sl sz' []))).length us := by simpa using k1
      obtain ⟨a1, a2⟩ := inner_val (hole := []) (e' := e') (sz' := sz') k1' (m := m + 1) (by rw [List.length_set]; exact hm) k5 hj
      have : j = m := by omega
      subst this
      rw [hu] at a2; cases a2
      exact .inr rfl
  refine h.objTo hg (fun _ => ⟨⟨us, by simpa using k1, fun y hy => ?_, by simpa using k3, by rw [List.length_set]; exact hm, k5, k6, fun i j y c u hy hc' hu' hn => ?_, fun i y u hi _ hy hu' => ?_, fun i d e => by cases e⟩, ⟨fun j u' B hj hB => ?_, fun j1 j2 u1 u2 B a1 a2 b1 b2 => ?_⟩⟩) fun B hB => ?_
  · rcases List.mem_or_eq_of_mem_set hy with hy | rfl
    · exact k2 y hy
    · simpa using hxl
  · by_cases e1 : i = m
    · subst e1
      rw [List.getElem?_set_self hm] at hy; cases hy
      have hj : j ≠ q := fun e => hn ⟨e, Nat.lt_succ_self _⟩
      rw [List.getElem?_set_ne (fun e => hj e.symm)] at hc'
      exact k7 i j x c u hx hc' hu' fun q => hj q.1
    · rw [List.getElem?_set_ne (fun e => e1 e.symm)] at hy
      exact k7 i j y c u hy hc' hu' fun q => hn ⟨q.1, by omega⟩
  · by_cases e1 : i = m
    · subst e1
      rw [List.getElem?_set_self hm] at hy; cases hy
      rw [hu] at hu'; cases hu'
      exact ⟨[], by rw [List.getElem?_set_self (by omega)], [], World.ownsRow_nil _ _ _ _, fun x hx => (by cases hx), .nil, Nat.zero_le _⟩
    · rw [List.getElem?_set_ne (fun e => e1 e.symm)] at hy
      exact k8 i y u (by omega) (fun d e => by cases e) hy hu'
  · rcases hsub j u' hj with q | q
    · exact ko.base j u' B q hB
    · rw [q] at hB; cases hB
  · rcases hsub _ _ a1 with q | q
    · rcases hsub _ _ a2 with q' | q'
      · exact ko.each j1 j2 u1 u2 B q q' b1 b2
      · rw [q'] at b2; cases b2
    · rw [q] at b1; cases b1
  · rcases hB with hB | ⟨j, u', hj, hB⟩
    · exact .inl hB
    · rcases hsub j u' hj with q | q
      · exact .inr ⟨j, u', q, hB⟩
      · rw [q] at hB; cases hB

/-- The one that had a name of its own is within again. -/
theorem St.nclose (h : St E fr hp I ι a w) {id e sz q e' sz' m i d : Nat} {hole : List (Nat × Nat)} {xs ys : List El} (hg : getO hp id = some (.nrow e sz q e' sz' m hole xs)) (hho : holeOf hole d = some i) (hgd : getO hp d = some (.row e' sz' ys)) {x : El} (hx : xs[i]? = some x) :
    St E fr (setO (delO hp d) id (.nrow e sz q e' sz' m (dropD hole d) (xs.set i (x.set q (.sl sz' ys))))) I ι a w := by
  have hne : id ≠ d := fun e => by subst e; rw [hg] at hgd; cases hgd
  obtain ⟨⟨us, k1, k2, k3, k4, k5, k6, k7, k8, k9⟩, ko⟩ := h.rel.obj _ _ hg
  obtain ⟨hi, hu⟩ := k9 i d (holeOf_mem hho)
  have hrow := h.rel.obj _ _ hgd
  have hxl : x.length = sz := k2 x (List.mem_of_getElem? hx)
  have hil : i < xs.length := (List.getElem?_eq_some_iff.1 hx).1
  have k1' : w.ownsRow 0 e sz (ι id) (xs.set i (x.set q (.sl sz' ys))).length us := by simpa using k1
  have hsub : ∀ j u', inner w (ι id) (.nrow e sz q e' sz' m (dropD hole d) (xs.set i (x.set q (.sl sz' ys)))) j u' → (j ≠ i ∧ inner w (ι id) (.nrow e sz q e' sz' m hole xs) j u') ∨ (j = i ∧ u' = ι d) := fun j u' hj' => by
    obtain ⟨a1, a2⟩ := inner_val k1' (by simpa using k4) k5 hj'
    by_cases e1 : j = i
    · subst e1
      rw [hu] at a2; cases a2
      exact .inr ⟨rfl, rfl⟩
    · exact .inl ⟨e1, a1, (fun d' e => (dropD_mem hho e).elim (fun q => hj'.2.1 d' q) e1), hj'.2.2⟩
  have hown : ∀ B, owns w (ι id) (.nrow e sz q e' sz' m (dropD hole d) (xs.set i (x.set q (.sl sz' ys)))) B → owns w (ι id) (.nrow e sz q e' sz' m hole xs) B ∨ owns w (ι d) (.row e' sz' ys) B := fun B hB => by
    rcases hB with hB | ⟨j, u', hj, hB⟩
    · exact .inl (.inl hB)
    · rcases hsub j u' hj with ⟨_, q⟩ | ⟨_, rfl⟩
      · exact .inl (.inr ⟨j, u', q, hB⟩)
      · exact .inr (.inl hB)
  have hdis : ∀ B, owns w (ι id) (.nrow e sz q e' sz' m hole xs) B → owns w (ι d) (.row e' sz' ys) B → False := fun B h1 h2 => hne (h.rel.inj _ _ _ _ hg hgd B h1 h2)
  have hget : ∀ j ob, getO (setO (delO hp d) id (.nrow e sz q e' sz' m (dropD hole d) (xs.set i (x.set q (.sl sz' ys))))) j = some ob → (j = id ∧ ob = .nrow e sz q e' sz' m (dropD hole d) (xs.set i (x.set q (.sl sz' ys)))) ∨ (j ≠ id ∧ j ≠ d ∧ getO hp j = some ob) := fun j ob hj => by
    rw [getO_setO, getO_delO] at hj
    split at hj
    · rename_i e; cases hj; exact .inl ⟨e, rfl⟩
    · rename_i e1
      split at hj
      · cases hj
      · rename_i e2; exact .inr ⟨e1, e2, hj⟩
  refine h.regroup (fun _ _ => rfl) h.rel.slot (fun j ob hj => ?_) (fun j ob hj B hB => ?_) fun j j' ob ob' hj hj' B hB hB' => ?_
  · rcases hget j ob hj with ⟨rfl, rfl⟩ | ⟨n1, n2, hk⟩
    · refine ⟨⟨us, k1', fun y hy => ?_, by simpa using k3, by simpa using k4, k5, k6, fun i' j' y c u hy hc' hu' hn => ?_, fun i' y u hi' hno hy hu' => ?_, fun i d e => k9 i d (mem_dropD e)⟩, ⟨fun j' u' B hj' hB => ?_, fun j1 j2 u1 u2 B a1 a2 b1 b2 => ?_⟩⟩
      · rcases List.mem_or_eq_of_mem_set hy with hy | rfl
        · exact k2 y hy
        · simpa using hxl
      · by_cases e1 : i' = i
        · subst e1
          rw [List.getElem?_set_self hil] at hy; cases hy
          have hj : j' ≠ q := fun e => hn ⟨e, hi⟩
          rw [List.getElem?_set_ne (fun e => hj e.symm)] at hc'
          exact k7 i' j' x c u hx hc' hu' fun q => hj q.1
        · rw [List.getElem?_set_ne (fun e => e1 e.symm)] at hy
          exact k7 i' j' y c u hy hc' hu' hn
      · by_cases e1 : i' = i
        · subst e1
          rw [List.getElem?_set_self hil] at hy; cases hy
          rw [hu] at hu'; cases hu'
          exact ⟨ys, by rw [List.getElem?_set_self (by omega)], hrow⟩
        · rw [List.getElem?_set_ne (fun e => e1 e.symm)] at hy
          exact k8 i' y u hi' (fun d' e => (dropD_mem hho e).elim (fun q => hno d' q) e1) hy hu'
      · rcases hsub j' u' hj' with ⟨_, q⟩ | ⟨_, rfl⟩
        · exact ko.base j' u' B q hB
        · exact fun hv => hdis B (.inl hv) (.inl hB)
      · rcases hsub _ _ a1 with ⟨n1, q⟩ | ⟨rfl, rfl⟩ <;> rcases hsub _ _ a2 with ⟨n2, q'⟩ | ⟨rfl, rfl⟩
        · exact ko.each j1 j2 u1 u2 B q q' b1 b2
        · exact (hdis B (.inr ⟨_, _, q, b1⟩) (.inl b2)).elim
        · exact (hdis B (.inr ⟨_, _, q', b2⟩) (.inl b1)).elim
        · rfl
    · exact h.rel.obj j ob hk
  · rcases hget j ob hj with ⟨rfl, rfl⟩ | ⟨n1, n2, hk⟩
    · rcases hown B hB with q | q
      · exact ⟨_, _, hg, q⟩
      · exact ⟨_, _, hgd, q⟩
    · exact ⟨j, ob, hk, hB⟩
  · have key : ∀ j ob, getO hp j = some ob → j ≠ id → j ≠ d → owns w (ι id) (.nrow e sz q e' sz' m (dropD hole d) (xs.set i (x.set q (.sl sz' ys)))) B → owns w (ι j) ob B → False := fun j ob hj n1 n2 h1 h2 => by
      rcases hown B h1 with q | q
      · exact n1 (h.rel.inj _ _ _ _ hj hg B h2 q)
      · exact n2 (h.rel.inj _ _ _ _ hj hgd B h2 q)
    rcases hget j ob hj with ⟨rfl, rfl⟩ | ⟨n1, n2, hk⟩ <;> rcases hget j' ob' hj' with ⟨rfl, rfl⟩ | ⟨n1', n2', hk'⟩
    · rfl
    · exact (key j' ob' hk' n1' n2' hB hB').elim
    · exact (key j ob hk n1 n2 hB' hB).elim
    · exact h.rel.inj _ _ _ _ hk hk' B hB hB'

/-- An own slice's cells become data: what is known then. -/
theorem RRow.asC {e sz : Nat} {xs : List El} {J : Im} (h : RRow I w v e sz xs) (hi : I.le J) (hJ : ∀ g, blockOf v = some g → ∀ o u, w.cell? ⟨g, o, none⟩ = some u → J g o = some u) : RC J v (.sl sz xs) := by
  obtain ⟨us, h1, h2, h3, h4⟩ := h
  rcases h1.2 with ⟨hv, hn⟩ | ⟨g, cap, cur, hv, hbg, hgg, hnc, hcm, hcs, htake⟩
  · have : xs = [] := List.eq_nil_of_length_eq_zero hn
    subst this
    rw [hv]; exact .emp _ _ _ (fun _ => rfl)
  · rw [hv]
    refine .sl g 0 cap sz xs (fun i j => us.getD (i * sz + j) undef) hnc h4 (fun i e' he => h2 e' (List.mem_of_getElem? he)) (fun i j hi hj => ?_) (fun i j e' x he hx => ?_)
    · have hlt : i * sz + j < xs.length * sz := by
        have : (i + 1) * sz ≤ xs.length * sz := Nat.mul_le_mul_right _ hi
        rw [Nat.succ_mul] at this; omega
      have hvl : i * sz + j < us.length := by rw [h1.1]; exact hlt
      have hc := h1.cells (g := g) (by rw [hv]; rfl) (i * sz + j) _ (List.getElem?_eq_getElem hvl)
      rw [Addr.add_lit, Nat.zero_add] at hc
      rw [Nat.zero_add, List.getD_eq_getElem?_getD, List.getElem?_eq_getElem hvl]
      exact hJ g (by rw [hv]; rfl) _ _ hc
    · obtain ⟨u, hu, hR⟩ := h3.at _ _ (flat_ij h2 he hx)
      simp only [List.getD_eq_getElem?_getD, hu, Option.getD_some]
      exact hR.mono hi

/-- All own slices within become data. -/
theorem St.nfreeze (h : St E fr hp I ι a w) {id e sz q e' sz' m : Nat} {xs : List El} (hg : getO hp id = some (.nrow e sz q e' sz' m [] xs)) : ∃ I', St E fr (setO hp id (.row e sz xs)) I' ι a w := by
  classical
  obtain ⟨⟨us, k1, k2, k3, k4, k5, k6, k7, k8, k9⟩, ko⟩ := h.rel.obj _ _ hg
  let J : Im := fun b o => if ∃ i u, inner w (ι id) (.nrow e sz q e' sz' m [] xs) i u ∧ blockOf u = some b then w.cell? ⟨b, o, none⟩ else I b o
  have hfree : ∀ b, (∃ i u, inner w (ι id) (.nrow e sz q e' sz' m [] xs) i u ∧ blockOf u = some b) → (E.w0.heap.size ≤ b ∨ E.L b) ∧ b < w.heap.size ∧ ∀ o, I b o = none := fun b ⟨i, u, hi, hb⟩ => h.rel.own _ _ hg b (.inr ⟨i, u, hi, hb⟩)
  have hmono : I.le J := fun b o u hb => by
    show (if _ then _ else _) = some u
    rw [if_neg]
    · exact hb
    · intro hex
      rw [(hfree b hex).2.2] at hb; cases hb
  have hJn : ∀ b o, (¬ ∃ i u, inner w (ι id) (.nrow e sz q e' sz' m [] xs) i u ∧ blockOf u = some b) → J b o = I b o := fun b o hn => if_neg hn
  have hJi : ∀ b o, (∃ i u, inner w (ι id) (.nrow e sz q e' sz' m [] xs) i u ∧ blockOf u = some b) → J b o = w.cell? ⟨b, o, none⟩ := fun b o hn => if_pos hn
  have hrow : RO J ι w (ι id) (.row e sz xs) := by
    refine ⟨us, k1, k2, RCs.of_ij k2 k1.1 fun i j x c u hx hc hu => ?_, k3⟩
    by_cases hin : j = q ∧ i < m
    · obtain ⟨rfl, hi⟩ := hin
      obtain ⟨ys, a1, a2⟩ := k8 i x u hi (fun d e => by cases e) hx hu
      rw [hc] at a1; cases a1
      obtain ⟨g, cap, hv, hcell⟩ := RO.cell (e := e) (sz := sz) (q := j) (e' := e') (sz' := sz') (m := m) (hole := []) k1 hu
      have hii : inner w (ι id) (.nrow e sz j e' sz' m [] xs) i u := ⟨hi, (fun d e => by cases e), g, _, cap, hv, hcell⟩
      exact a2.asC hmono fun b hb o u' hu' => by rw [hJi b o ⟨i, u, hii, hb⟩]; exact hu'
    · exact (k7 i j x c u hx hc hu hin).mono hmono
  have hothers : ∀ j ob, getO (setO hp id (.row e sz xs)) j = some ob → ∃ ob0, getO hp j = some ob0 ∧ (∀ B, owns w (ι j) ob B → owns w (ι j) ob0 B ∧ ¬ ∃ i u, inner w (ι id) (.nrow e sz q e' sz' m [] xs) i u ∧ blockOf u = some B) ∧ (j = id ∧ ob = .row e sz xs ∨ ob = ob0) := fun j ob hj => by
    rw [getO_setO] at hj
    split at hj
    · rename_i e1; subst e1; cases hj
      exact ⟨_, hg, fun B hB => ⟨.inl (owns_flat rfl hB), fun ⟨i, u, hi, hb⟩ => ko.base i u B hi hb (owns_flat rfl hB)⟩, .inl ⟨rfl, rfl⟩⟩
    · rename_i e1
      exact ⟨ob, hj, fun B hB => ⟨hB, fun ⟨i, u, hi, hb⟩ => e1 (h.rel.inj _ _ _ _ hj hg B hB (.inr ⟨i, u, hi, hb⟩))⟩, .inr rfl⟩
  refine ⟨J, h.below, h.le.trans hmono, fun b o u hb => ?_, fun b o u hb => ?_, h.size, h.defers, h.fix, fun s => (h.rel.slot s).cong hmono fun _ _ => rfl, fun j ob hj => ?_, fun j ob hj B hB => ?_, fun j j' ob ob' hj hj' B hB hB' => ?_⟩
  · by_cases hex : ∃ i u, inner w (ι id) (.nrow e sz q e' sz' m [] xs) i u ∧ blockOf u = some b
    · exact .inr (hfree b hex).1
    · rw [hJn b o hex] at hb; exact h.new b o u hb
  · by_cases hex : ∃ i u, inner w (ι id) (.nrow e sz q e' sz' m [] xs) i u ∧ blockOf u = some b
    · rw [hJi b o hex] at hb; exact hb
    · rw [hJn b o hex] at hb; exact h.agr b o u hb
  · obtain ⟨ob0, h1, _, h3⟩ := hothers j ob hj
    rcases h3 with ⟨rfl, rfl⟩ | rfl
    · exact hrow
    · exact (h.rel.obj j ob h1).cong hmono (fun _ _ => rfl) fun _ _ => rfl
  · obtain ⟨ob0, h1, h2, _⟩ := hothers j ob hj
    obtain ⟨q1, q2, q3⟩ := h.rel.own j ob0 h1 B (h2 B hB).1
    exact ⟨q1, q2, fun o => by rw [hJn B o (h2 B hB).2]; exact q3 o⟩
  · obtain ⟨ob1, h1, h2, _⟩ := hothers j ob hj
    obtain ⟨ob2, h3, h4, _⟩ := hothers j' ob' hj'
    exact h.rel.inj _ _ _ _ h1 h3 B (h2 B hB).1 (h4 B hB').1

/-! ### Maps of own slices -/
theorem St.takeG (h : St E fr hp I ι a w) {id d : Nat} {ob0 ob1 : Ob} {e' sz' : Nat} {ys : List El} (hg : getO hp id = some ob0) (hd : fresh E.k d fr hp = true) {i : Nat} {u : Value} (hin : inner w (ι id) ob0 i u) (hrow : RRow I w u e' sz' ys) (ko : Once w (ι id) ob0)
    (hsub : ∀ j u', inner w (ι id) ob1 j u' → inner w (ι id) ob0 j u' ∧ j ≠ i) (hro : RO I (upd ι d u) w (ι id) ob1) : ∃ ι', St E fr (setO (setO hp d (.row e' sz' ys)) id ob1) I ι' a w := by
  obtain ⟨hd1, hd2⟩ := fresh_spec hd
  have hne : id ≠ d := (freshB_ob hd1 hg).1
  have hι : ∀ j, j ≠ d → upd ι d u j = ι j := fun j hj => upd_ne ι u hj
  have hdv : upd ι d u d = u := upd_same ι d u
  have howns : ∀ B, owns w (ι id) ob1 B → owns w (ι id) ob0 B ∧ blockOf u ≠ some B := fun B hB => by
    rcases hB with hB | ⟨j, u', hj, hB⟩
    · exact ⟨.inl hB, fun e => ko.base i u B hin e hB⟩
    · obtain ⟨a1, a2⟩ := hsub j u' hj
      exact ⟨.inr ⟨j, u', a1, hB⟩, fun e => a2 (ko.each j i u' u B a1 hin hB e)⟩
  have hget : ∀ j ob, getO (setO (setO hp d (.row e' sz' ys)) id ob1) j = some ob → (j = id ∧ ob = ob1) ∨ (j = d ∧ ob = .row e' sz' ys) ∨ (j ≠ id ∧ j ≠ d ∧ getO hp j = some ob) := fun j ob hj => by
    rw [getO_setO, getO_setO] at hj
    split at hj
    · rename_i e; cases hj; exact .inl ⟨e, rfl⟩
    · rename_i e1
      split at hj
      · rename_i e; cases hj; exact .inr (.inl ⟨e, rfl⟩)
      · rename_i e2; exact .inr (.inr ⟨e1, e2, hj⟩)
  refine ⟨upd ι d u, h.regroup (fun j hj => hι j (by omega)) (fun s => (h.rel.slot s).cong (Im.le_refl _) fun j hj => hι j fun e => freshB_slot hd1 s (e ▸ hj)) (fun j ob hj => ?_) (fun j ob hj B hB => ?_) fun j j' ob ob' hj hj' B hB hB' => ?_⟩
  · rcases hget j ob hj with ⟨e1, e2⟩ | ⟨e1, e2⟩ | ⟨n1, n2, hk⟩
    · subst e2; rw [e1, hι id hne]; exact hro
    · subst e2; rw [e1, hdv]; exact hrow
    · rw [hι j n2]
      exact (h.rel.obj j ob hk).cong (Im.le_refl _) (fun j' hj' => hι j' fun e => (freshB_ob hd1 hk).2 (e ▸ hj')) fun _ _ => rfl
  · rcases hget j ob hj with ⟨e1, e2⟩ | ⟨e1, e2⟩ | ⟨n1, n2, hk⟩
    · subst e2; rw [e1, hι id hne] at hB
      exact ⟨id, _, hg, (howns B hB).1⟩
    · subst e2; rw [e1, hdv] at hB
      exact ⟨id, _, hg, .inr ⟨i, u, hin, owns_flat rfl hB⟩⟩
    · rw [hι j n2] at hB
      exact ⟨j, ob, hk, hB⟩
  · rcases hget j ob hj with ⟨e1, e2⟩ | ⟨e1, e2⟩ | ⟨n1, n2, hk⟩ <;> rcases hget j' ob' hj' with ⟨f1, f2⟩ | ⟨f1, f2⟩ | ⟨n1', n2', hk'⟩
    · rw [e1, f1]
    · subst e2; subst f2; rw [e1, hι _ hne] at hB; rw [f1, hdv] at hB'
      exact ((howns B hB).2 (owns_flat rfl hB')).elim
    · subst e2; rw [e1, hι _ hne] at hB; rw [hι _ n2'] at hB'
      rw [e1]; exact h.rel.inj _ _ _ _ hg hk' B (howns B hB).1 hB'
    · subst e2; subst f2; rw [f1, hι _ hne] at hB'; rw [e1, hdv] at hB
      exact ((howns B hB').2 (owns_flat rfl hB)).elim
    · rw [e1, f1]
    · subst e2; rw [e1, hdv] at hB; rw [hι _ n2'] at hB'
      exact (n1' (h.rel.inj _ _ _ _ hg hk' B (.inr ⟨i, u, hin, owns_flat rfl hB⟩) hB').symm).elim
    · subst f2; rw [f1, hι _ hne] at hB'; rw [hι _ n2] at hB
      rw [f1]; exact h.rel.inj _ _ _ _ hk hg B hB (howns B hB').1
    · subst f2; rw [f1, hdv] at hB'; rw [hι _ n2] at hB
      exact (n1 (h.rel.inj _ _ _ _ hk hg B hB (.inr ⟨i, u, hin, owns_flat rfl hB'⟩))).elim
    · rw [hι _ n2] at hB; rw [hι _ n2'] at hB'
      exact h.rel.inj _ _ _ _ hk hk' B hB hB'
theorem St.closeG (h : St E fr hp I ι a w) {id d : Nat} {ob0 ob1 : Ob} {e' sz' : Nat} {ys : List El} (hg : getO hp id = some ob0) (hgd : getO hp d = some (.row e' sz' ys)) (hne : id ≠ d) (hsub : ∀ j u', inner w (ι id) ob1 j u' → inner w (ι id) ob0 j u' ∨ u' = ι d)
    (hro : RO I ι w (ι id) ob1) : St E fr (setO (delO hp d) id ob1) I ι a w := by
  have hown : ∀ B, owns w (ι id) ob1 B → owns w (ι id) ob0 B ∨ owns w (ι d) (.row e' sz' ys) B := fun B hB => by
    rcases hB with hB | ⟨j, u', hj, hB⟩
    · exact .inl (.inl hB)
    · rcases hsub j u' hj with q | rfl
      · exact .inl (.inr ⟨j, u', q, hB⟩)
      · exact .inr (.inl hB)
  have hget : ∀ j ob, getO (setO (delO hp d) id ob1) j = some ob → (j = id ∧ ob = ob1) ∨ (j ≠ id ∧ j ≠ d ∧ getO hp j = some ob) := fun j ob hj => by
    rw [getO_setO, getO_delO] at hj
    split at hj
    · rename_i e; cases hj; exact .inl ⟨e, rfl⟩
    · rename_i e1
      split at hj
      · cases hj
      · rename_i e2; exact .inr ⟨e1, e2, hj⟩
  have key : ∀ B j ob, getO hp j = some ob → j ≠ id → j ≠ d → owns w (ι id) ob1 B → owns w (ι j) ob B → False := fun B j ob hj n1 n2 h1 h2 => by
    rcases hown B h1 with q | q
    · exact n1 (h.rel.inj _ _ _ _ hj hg B h2 q)
    · exact n2 (h.rel.inj _ _ _ _ hj hgd B h2 q)
  refine h.regroup (fun _ _ => rfl) h.rel.slot (fun j ob hj => ?_) (fun j ob hj B hB => ?_) fun j j' ob ob' hj hj' B hB hB' => ?_
  · rcases hget j ob hj with ⟨e1, e2⟩ | ⟨n1, n2, hk⟩
    · subst e2; rw [e1]; exact hro
    · exact h.rel.obj j ob hk
  · rcases hget j ob hj with ⟨e1, e2⟩ | ⟨n1, n2, hk⟩
    · subst e2; rw [e1] at hB
      rcases hown B hB with q | q
      · exact ⟨_, _, hg, q⟩
      · exact ⟨_, _, hgd, q⟩
    · exact ⟨j, ob, hk, hB⟩
  · rcases hget j ob hj with ⟨e1, e2⟩ | ⟨n1, n2, hk⟩ <;> rcases hget j' ob' hj' with ⟨f1, f2⟩ | ⟨n1', n2', hk'⟩
    · rw [e1, f1]
    · subst e2; rw [e1] at hB
      exact (key B j' ob' hk' n1' n2' hB hB').elim
    · subst f2; rw [f1] at hB'
      exact (key B j ob hk n1 n2 hB' hB).elim
    · exact h.rel.inj _ _ _ _ hk hk' B hB hB'
/-- The own slices within become data. -/
theorem St.freezeG (h : St E fr hp I ι a w) {id : Nat} {ob0 ob1 : Ob} (hg : getO hp id = some ob0) (hf : flatO ob1 = true) (ko : Once w (ι id) ob0) (hro : ∀ J : Im, I.le J → (∀ i u b, inner w (ι id) ob0 i u → blockOf u = some b → ∀ o v, w.cell? ⟨b, o, none⟩ = some v → J b o = some v) → RO J ι w (ι id) ob1) :
    ∃ I', St E fr (setO hp id ob1) I' ι a w := by
  classical
  let J : Im := fun b o => if ∃ i u, inner w (ι id) ob0 i u ∧ blockOf u = some b then w.cell? ⟨b, o, none⟩ else I b o
  have hfree : ∀ b, (∃ i u, inner w (ι id) ob0 i u ∧ blockOf u = some b) → (E.w0.heap.size ≤ b ∨ E.L b) ∧ b < w.heap.size ∧ ∀ o, I b o = none := fun b ⟨i, u, hi, hb⟩ => h.rel.own _ _ hg b (.inr ⟨i, u, hi, hb⟩)
  have hmono : I.le J := fun b o u hb => by
    show (if _ then _ else _) = some u
    rw [if_neg]
    · exact hb
    · intro hex
      rw [(hfree b hex).2.2] at hb; cases hb
  have hJn : ∀ b o, (¬ ∃ i u, inner w (ι id) ob0 i u ∧ blockOf u = some b) → J b o = I b o := fun b o hn => if_neg hn
  have hJi : ∀ b o, (∃ i u, inner w (ι id) ob0 i u ∧ blockOf u = some b) → J b o = w.cell? ⟨b, o, none⟩ := fun b o hn => if_pos hn
  have hrow : RO J ι w (ι id) ob1 := hro J hmono fun i u b hi hb o v hv => by rw [hJi b o ⟨i, u, hi, hb⟩]; exact hv
  have hothers : ∀ j ob, getO (setO hp id ob1) j = some ob → ∃ ob0', getO hp j = some ob0' ∧ (∀ B, owns w (ι j) ob B → owns w (ι j) ob0' B ∧ ¬ ∃ i u, inner w (ι id) ob0 i u ∧ blockOf u = some B) ∧ (j = id ∧ ob = ob1 ∨ ob = ob0') := fun j ob hj => by
    rw [getO_setO] at hj
    split at hj
    · rename_i e1; subst e1; cases hj
      exact ⟨_, hg, fun B hB => ⟨.inl (owns_flat hf hB), fun ⟨i, u, hi, hb⟩ => ko.base i u B hi hb (owns_flat hf hB)⟩, .inl ⟨rfl, rfl⟩⟩
    · rename_i e1
      exact ⟨ob, hj, fun B hB => ⟨hB, fun ⟨i, u, hi, hb⟩ => e1 (h.rel.inj _ _ _ _ hj hg B hB (.inr ⟨i, u, hi, hb⟩))⟩, .inr rfl⟩
  refine ⟨J, h.below, h.le.trans hmono, fun b o u hb => ?_, fun b o u hb => ?_, h.size, h.defers, h.fix, fun s => (h.rel.slot s).cong hmono fun _ _ => rfl, fun j ob hj => ?_, fun j ob hj B hB => ?_, fun j j' ob ob' hj hj' B hB hB' => ?_⟩
  · by_cases hex : ∃ i u, inner w (ι id) ob0 i u ∧ blockOf u = some b
    · exact .inr (hfree b hex).1
    · rw [hJn b o hex] at hb; exact h.new b o u hb
  · by_cases hex : ∃ i u, inner w (ι id) ob0 i u ∧ blockOf u = some b
    · rw [hJi b o hex] at hb; exact hb
    · rw [hJn b o hex] at hb; exact h.agr b o u hb
  · obtain ⟨ob0', h1, _, h3⟩ := hothers j ob hj
    rcases h3 with ⟨rfl, rfl⟩ | rfl
    · exact hrow
    · exact (h.rel.obj j ob h1).cong hmono (fun _ _ => rfl) fun _ _ => rfl
  · obtain ⟨ob0', h1, h2, _⟩ := hothers j ob hj
    obtain ⟨q1, q2, q3⟩ := h.rel.own j ob0' h1 B (h2 B hB).1
    exact ⟨q1, q2, fun o => by rw [hJn B o (h2 B hB).2]; exact q3 o⟩
  · obtain ⟨ob1', h1, h2, _⟩ := hothers j ob hj
    obtain ⟨ob2', h3, h4, _⟩ := hothers j' ob' hj'
    exact h.rel.inj _ _ _ _ h1 h3 B (h2 B hB).1 (h4 B hB').1

theorem St.mwrap (h : St E fr hp I ι a w) {id : Nat} {kp : Value → Prop} (hg : getO hp id = some (.map kp [])) (e' sz' : Nat) : St E fr (setO hp id (.nmap kp e' sz' none [])) I ι a w := by
  obtain ⟨B, ents, clock, h1, h2, h3, h4, h5⟩ := h.rel.obj _ _ hg
  have hn : ∀ i u, ¬ inner w (ι id) (.nmap kp e' sz' none []) i u := fun i u ⟨B', en', cl', en, a1, a2, a3, _⟩ => by
    rw [h1] at a1; simp at a1; subst a1
    rw [h2] at a2; simp at a2
    obtain ⟨rfl, _⟩ := a2
    have hl : ents.toList.length = 0 := h3.len
    have := (Array.getElem?_eq_some_iff.1 a3).1
    simp at hl; subst hl; simp at this
  refine h.objTo hg (fun _ => ⟨⟨B, ents, clock, h1, h2, All2.of h3.len fun i x y hx hy => by simp at hy, h4, h5, fun k d e => by cases e⟩, ⟨fun i u B hi => (hn i u hi).elim, fun i j u u' B hi => (hn i u hi).elim⟩⟩) fun B hB => ?_
  rcases hB with hB | ⟨i, u, hi, _⟩
  · exact .inl hB
  · exact (hn i u hi).elim
theorem ix_inj {es : List (Value × DV)} (h4 : (es.map (·.1)).Nodup) {i j : Nat} {p q : Value × DV} (hp : es[i]? = some p) (hq : es[j]? = some q) (e : p.1 = q.1) : i = j := by
  have hlt := (List.getElem?_eq_some_iff.1 hp).1
  have hlt2 := (List.getElem?_eq_some_iff.1 hq).1
  have e1 : (es.map (·.1))[i]'(by simpa using hlt) = p.1 := by simp [(List.getElem?_eq_some_iff.1 hp).2]
  have e2 : (es.map (·.1))[j]'(by simpa using hlt2) = p.1 := by rw [e]; simp [(List.getElem?_eq_some_iff.1 hq).2]
  have hpw := List.pairwise_iff_getElem.1 h4
  rcases Nat.lt_trichotomy i j with hl | hl | hl
  · exact (hpw i j (by simpa using hlt) (by simpa using hlt2) hl (by rw [e1, e2])).elim
  · exact hl
  · exact (hpw j i (by simpa using hlt2) (by simpa using hlt) hl (by rw [e1, e2])).elim
theorem St.mtake (h : St E fr hp I ι a w) {id e' sz' : Nat} {kp : Value → Prop} {es : List (Value × DV)} (hg : getO hp id = some (.nmap kp e' sz' none es)) {d : Nat} (hd : fresh E.k d fr hp = true) {kv : Value} {ys : List El} (hl : look es kv = some (.v (.sl sz' ys))) :
    ∃ ι', St E fr (setO (setO hp d (.row e' sz' ys)) id (.nmap kp e' sz' (some (kv, d)) es)) I ι' a w := by
  obtain ⟨⟨B, ents, clock, h1, h2, h3, h4, h5, h6⟩, ko⟩ := h.rel.obj _ _ hg
  obtain ⟨j, hj⟩ := List.mem_iff_getElem?.1 (look_some hl)
  obtain ⟨en, hen, hk, hr⟩ := h3.at j _ hj
  simp only at hk
  obtain ⟨ys', c1, hrow⟩ := hr (fun d e => by cases e)
  simp only [DV.v.injEq, C.sl.injEq, true_and] at c1
  subst c1
  have hen' : ents[j]? = some en := by simpa using hen
  have hin : inner w (ι id) (.nmap kp e' sz' none es) j en.val := ⟨B, ents, clock, en, h1, h2, hen', (fun d e => by cases e), rfl⟩
  have hsub : ∀ i u', inner w (ι id) (.nmap kp e' sz' (some (kv, d)) es) i u' → inner w (ι id) (.nmap kp e' sz' none es) i u' ∧ i ≠ j := fun i u' ⟨B', en', cl', e1, a1, a2, a3, a4, a5⟩ => by
    refine ⟨⟨B', en', cl', e1, a1, a2, a3, (fun d e => by cases e), a5⟩, fun q => ?_⟩
    subst q
    rw [h1] at a1; simp at a1; subst a1
    rw [h2] at a2; simp at a2
    obtain ⟨rfl, _⟩ := a2
    rw [hen'] at a3; cases a3
    exact a4 d (by rw [hk])
  refine h.takeG hg hd hin hrow ko hsub ⟨⟨B, ents, clock, h1, h2, h3.imp fun a b r => ⟨r.1, fun _ => r.2 fun d e => by cases e⟩, h4, h5, fun k d' e => ?_⟩, ⟨fun i u B hi => ko.base i u B (hsub i u hi).1, fun i j u u' B hi hj => ko.each i j u u' B (hsub _ _ hi).1 (hsub _ _ hj).1⟩⟩
  cases e
  obtain ⟨us, k1, _⟩ := hrow
  obtain ⟨A, c, hv⟩ := own_slice k1
  exact ⟨en, List.mem_of_getElem? hen, hk, (upd_same ι d _).symm, by rw [hv]; rfl⟩
theorem St.mclose (h : St E fr hp I ι a w) {id e' sz' d : Nat} {kv : Value} {kp : Value → Prop} {es : List (Value × DV)} (hg : getO hp id = some (.nmap kp e' sz' (some (kv, d)) es)) {ys : List El} (hgd : getO hp d = some (.row e' sz' ys)) :
    St E fr (setO (delO hp d) id (.nmap kp e' sz' none (putE es kv (.v (.sl sz' ys))))) I ι a w := by
  classical
  obtain ⟨⟨B, ents, clock, h1, h2, h3, h4, h5, h6⟩, ko⟩ := h.rel.obj _ _ hg
  have hne : id ≠ d := fun e => by subst e; rw [hg] at hgd; cases hgd
  have hrow := h.rel.obj _ _ hgd
  obtain ⟨en0, m0, k0, v0, o0⟩ := h6 kv d rfl
  obtain ⟨j0, hj0⟩ := List.mem_iff_getElem?.1 m0
  obtain ⟨p0, hp0, hr0⟩ := h3.at' j0 en0 hj0
  have hp0k : p0.1 = kv := by rw [← hr0.1, k0]
  have hany : (es.any fun q => decide (q.1 = kv)) = true := List.any_eq_true.2 ⟨p0, List.mem_of_getElem? hp0, by simpa using hp0k⟩
  have hput : putE es kv (.v (.sl sz' ys)) = es.map (fun q => if q.1 = kv then (kv, .v (.sl sz' ys)) else q) := by unfold putE; rw [if_pos hany]
  have hk' := putE_keys (k := kv) (v := .v (.sl sz' ys)) h4 kp h5 (by rw [← hp0k]; exact h5 _ (List.mem_of_getElem? hp0))
  have hval : ∀ (i : Nat) (en : MapEntry), ents.toList[i]? = some en → en.key = kv → en.val = ι d ∧ i = j0 := fun i en hi hk => by
    obtain ⟨p, hp, hr⟩ := h3.at' i en hi
    have : i = j0 := ix_inj h4 hp hp0 (by rw [hp0k, ← hr.1, hk])
    subst this
    rw [hj0] at hi; cases hi
    exact ⟨v0, rfl⟩
  have hsub : ∀ j u', inner w (ι id) (.nmap kp e' sz' none (putE es kv (.v (.sl sz' ys)))) j u' → inner w (ι id) (.nmap kp e' sz' (some (kv, d)) es) j u' ∨ (j = j0 ∧ u' = ι d) := fun j u' ⟨B', en', cl', e1, a1, a2, a3, a4, a5⟩ => by
    by_cases q : e1.key = kv
    · have e2 : B' = B := by rw [h1] at a1; simp at a1; exact a1.symm
      subst e2
      rw [h2] at a2; simp at a2
      obtain ⟨rfl, _⟩ := a2
      obtain ⟨q1, q2⟩ := hval j e1 (by simpa using a3) q
      exact .inr ⟨q2, a5.trans q1⟩
    · exact .inl ⟨B', en', cl', e1, a1, a2, a3, (fun d' e => by cases e; exact q rfl), a5⟩
  have hdis : ∀ B, owns w (ι id) (.nmap kp e' sz' (some (kv, d)) es) B → owns w (ι d) (.row e' sz' ys) B → False := fun B q1 q2 => hne (h.rel.inj _ _ _ _ hg hgd B q1 q2)
  refine h.closeG hg hgd hne (fun j u' hj => (hsub j u' hj).imp (fun q => q) fun q => q.2) ⟨⟨B, ents, clock, h1, h2, All2.of (by rw [hput]; simpa using h3.len) fun i en p hen hp => ?_, hk'.1, hk'.2, fun k d e => by cases e⟩, ⟨fun i u B hi hB => ?_, fun i j u u' B hi hj hB hB' => ?_⟩⟩
  · rw [hput, List.getElem?_map] at hp
    obtain ⟨p1, hp1, hr1⟩ := h3.at' i en hen
    rw [hp1] at hp
    simp only [Option.map_some, Option.some.injEq] at hp
    subst hp
    by_cases q : p1.1 = kv
    · rw [if_pos q]
      have hek : en.key = kv := by rw [hr1.1, q]
      refine ⟨hek, fun _ => ⟨ys, rfl, ?_⟩⟩
      rw [(hval i en hen hek).1]; exact hrow
    · rw [if_neg q]
      exact ⟨hr1.1, fun _ => hr1.2 fun d' e => by cases e; exact q hr1.1.symm⟩
  · rcases hsub i u hi with q | ⟨_, rfl⟩
    · exact ko.base i u B q hB
    · exact fun hv => hdis B (.inl hv) (.inl hB)
  · rcases hsub i u hi with q | ⟨r1, r2⟩ <;> rcases hsub j u' hj with q' | ⟨r1', r2'⟩
    · exact ko.each i j u u' B q q' hB hB'
    · subst r2'; exact (hdis B (.inr ⟨_, _, q, hB⟩) (.inl hB')).elim
    · subst r2; exact (hdis B (.inr ⟨_, _, q', hB'⟩) (.inl hB)).elim
    · rw [r1, r1']
theorem St.mfreeze (h : St E fr hp I ι a w) {id e' sz' : Nat} {kp : Value → Prop} {es : List (Value × DV)} (hg : getO hp id = some (.nmap kp e' sz' none es)) : ∃ I', St E fr (setO hp id (.map kp es)) I' ι a w := by
  obtain ⟨⟨B, ents, clock, h1, h2, h3, h4, h5, h6⟩, ko⟩ := h.rel.obj _ _ hg
  refine h.freezeG hg rfl ko fun J hJ hc => ⟨B, ents, clock, h1, h2, All2.of h3.len fun i en p hen hp => ?_, h4, h5⟩
  obtain ⟨p', hp', r1, r2⟩ := h3.at' i en hen
  rw [hp] at hp'; cases hp'
  obtain ⟨ys, c1, c2⟩ := r2 fun d e => by cases e
  refine ⟨r1, ?_⟩
  rw [c1]
  exact c2.asC hJ fun g hb o v hv => hc i en.val g ⟨B, ents, clock, en, h1, h2, by simpa using hen, (fun d e => by cases e), rfl⟩ hb o v hv

/-! ### All these as steps of a script -/
/-- A pointer that is nil, or leads to its own variable. -/
theorem St.selfp (h : St E fr hp I ι a w) {id t q : Nat} {l : List CV} (hg : getO hp id = some (.cells t l)) {x : CV} (hx : l[q]? = some x) (hv : ∀ v, RV1 I ι v x → RV1 I ι v (.sp id)) : St E fr (setO hp id (.cells t (l.set q (.sp id)))) I ι a w := by
  refine h.objTo hg (fun ho => ?_) fun B hB => hB
  obtain ⟨B, vs, h1, h2, h3⟩ := ho
  refine ⟨B, vs, h1, h2, ?_⟩
  obtain ⟨v, k1, k2⟩ := h3.at q x hx
  have := h3.set q (a := v) (b := CV.sp id) ⟨hv v k2.1, k2.2⟩
  have hlt := (List.getElem?_eq_some_iff.1 k1)
  obtain ⟨hlt, he⟩ := hlt
  rw [← he, List.set_getElem_self] at this
  exact this
/-- w, mw: an own slice (a map) is one of own slices; t, mt: one is taken out; x: the next element's cell is opened; n: the next element's cell is nil; c, mc: it is within again; z, mz: all within are data. -/
inductive Gh where
  | w (id q e' sz' : Nat)
  | t (id i d : Nat) (el : El)
  | x (id d : Nat)
  | n (id m' : Nat) (el : El) (xs' : List El)
  | c (id d m' : Nat) (el : El) (xs' : List El)
  | z (id : Nat)
  | e (id m' : Nat)
  | s (id q : Nat)
  | mw (id e' sz' : Nat)
  | mt (id : Nat) (kv : Value) (d : Nat) (ys : List El)
  | mc (id : Nat) (es' : List (Value × DV))
  | mz (id : Nat)
noncomputable def ghost (k : Nat) (fr : Fr) (hp : Hp) : Gh → Option (Hp × List Prop)
  | .w id q e' sz' => match getO hp id with
    | some (.row e sz xs) => bif Nat.blt q sz then some (setO hp id (.nrow e sz q e' sz' 0 [] xs), []) else none
    | _ => none
  | .t id i d el => match getO hp id with
    | some (.nrow e sz q e' sz' m hole xs) => match el[q]? with
      | some (.sl s ys) => bif s == sz' && fresh k d fr hp then some (setO (setO hp d (.row e' sz' ys)) id (.nrow e sz q e' sz' m ((i, d) :: hole) xs), [i < m, xs[i]? = some el, notIn hole i]) else none
      | _ => none
    | _ => none
  | .x id d => match getO hp id with
    | some (.nrow e sz q e' sz' m [] xs) => bif fresh k d fr hp then some (setO hp id (.nrow e sz q e' sz' (m + 1) [(m, d)] xs), [m < xs.length]) else none
    | _ => none
  | .n id m' el xs' => match getO hp id with
    | some (.nrow e sz q e' sz' m [] xs) => match el[q]? with
      | some .nil => some (setO hp id (.nrow e sz q e' sz' m' [] xs'), [m' = m + 1, xs[m]? = some el, xs' = xs.set m (el.set q (.sl sz' []))])
      | _ => none
    | _ => none
  | .c id d m' el xs' => match getO hp id with
    | some (.nrow e sz q e' sz' m hole xs) => match getO hp d, holeOf hole d with
      | some (.row e2 sz2 ys), some i => bif e2 == e' && sz2 == sz' then some (setO (delO hp d) id (.nrow e sz q e' sz' m' (dropD hole d) xs'), [m' = m, xs[i]? = some el, xs' = xs.set i (el.set q (.sl sz' ys))]) else none
      | _, _ => none
    | _ => none
  | .z id => match getO hp id with
    | some (.nrow e sz q e' sz' m [] xs) => some (setO hp id (.row e sz xs), [])
    | _ => none
  | .e id m' => match getO hp id with
    | some (.nrow e sz q e' sz' m hole xs) => some (setO hp id (.nrow e sz q e' sz' m' hole xs), [m' = m])
    | _ => none
  | .s id q => match getO hp id with
    | some (.cells t l) => match l[q]? with
      | some (.c (.v (.pointer none))) => some (setO hp id (.cells t (l.set q (.sp id))), [])
      | some (.ptr j 0) => bif j == id then some (setO hp id (.cells t (l.set q (.sp id))), []) else none
      | _ => none
    | _ => none
  | .mw id e' sz' => match getO hp id with
    | some (.map kp []) => some (setO hp id (.nmap kp e' sz' none []), [])
    | _ => none
  | .mt id kv d ys => match getO hp id with
    | some (.nmap kp e' sz' none es) => bif fresh k d fr hp then some (setO (setO hp d (.row e' sz' ys)) id (.nmap kp e' sz' (some (kv, d)) es), [look es kv = some (.v (.sl sz' ys))]) else none
    | _ => none
  | .mc id es' => match getO hp id with
    | some (.nmap kp e' sz' (some (kv, d)) es) => match getO hp d with
      | some (.row e2 sz2 ys) => bif e2 == e' && sz2 == sz' then some (setO (delO hp d) id (.nmap kp e' sz' none es'), [es' = putE es kv (.v (.sl sz' ys))]) else none
      | _ => none
    | _ => none
  | .mz id => match getO hp id with
    | some (.nmap kp e' sz' none es) => some (setO hp id (.map kp es), [])
    | _ => none
theorem ghost_st {g : Gh} {ps : List Prop} (h : St E fr hp I ι a w) (he : ghost E.k fr hp g = some (hp', ps)) (hp_ : ∀ p ∈ ps, p) : ∃ I' ι', St E fr hp' I' ι' a w := by
  cases g with
  | w id q e' sz' =>
    simp only [ghost] at he
    split at he
    · rename_i e sz xs hg
      cases hb : Nat.blt q sz with
      | false => rw [hb] at he; cases he
      | true =>
        rw [hb] at he; simp only [cond_true, Option.some.injEq, Prod.mk.injEq] at he
        obtain ⟨rfl, _⟩ := he
        exact ⟨_, _, h.nwrap hg (by simpa using hb) e' sz'⟩
    · cases he
  | t id i d el =>
    simp only [ghost] at he
    split at he
    · rename_i e sz q e' sz' m hole xs hg
      split at he
      · rename_i s ys hc
        cases hb : s == sz' && fresh E.k d fr hp with
        | false => rw [hb] at he; cases he
        | true =>
          rw [hb] at he; simp only [cond_true, Option.some.injEq, Prod.mk.injEq] at he
          obtain ⟨rfl, rfl⟩ := he
          simp only [Bool.and_eq_true, beq_iff_eq] at hb
          obtain ⟨rfl, hd⟩ := hb
          obtain ⟨ι', hs⟩ := h.ntake hg hd (hp_ (i < m) List.mem_cons_self) (hp_ (notIn hole i) (List.mem_cons_of_mem _ (List.mem_cons_of_mem _ List.mem_cons_self))) (hp_ (xs[i]? = some el) (List.mem_cons_of_mem _ List.mem_cons_self)) hc
          exact ⟨_, _, hs⟩
      · cases he
    · cases he
  | x id d =>
    simp only [ghost] at he
    split at he
    · rename_i e sz q e' sz' m xs hg
      cases hb : fresh E.k d fr hp with
      | false => rw [hb] at he; cases he
      | true =>
        rw [hb] at he; simp only [cond_true, Option.some.injEq, Prod.mk.injEq] at he
        obtain ⟨rfl, rfl⟩ := he
        obtain ⟨ι', hs⟩ := h.nopen hg hb (hp_ _ List.mem_cons_self)
        exact ⟨_, _, hs⟩
    · cases he
  | n id m' el xs' =>
    simp only [ghost] at he
    split at he
    · rename_i e sz q e' sz' m xs hg
      split at he
      · rename_i hc
        simp only [Option.some.injEq, Prod.mk.injEq] at he
        obtain ⟨rfl, rfl⟩ := he
        have e1 := hp_ _ List.mem_cons_self
        have e2 := hp_ _ (List.mem_cons_of_mem _ List.mem_cons_self)
        have e3 := hp_ _ (List.mem_cons_of_mem _ (List.mem_cons_of_mem _ List.mem_cons_self))
        subst e1
        subst e3
        exact ⟨_, _, h.nnil hg e2 hc⟩
      · cases he
    · cases he
  | c id d m' el xs' =>
    simp only [ghost] at he
    split at he
    · rename_i e sz q e' sz' m hole xs hg
      split at he
      · rename_i e2 sz2 ys i hgd hj
        cases hb : e2 == e' && sz2 == sz' with
        | false => rw [hb] at he; cases he
        | true =>
          rw [hb] at he; simp only [cond_true, Option.some.injEq, Prod.mk.injEq] at he
          obtain ⟨rfl, rfl⟩ := he
          simp only [Bool.and_eq_true, beq_iff_eq] at hb
          obtain ⟨rfl, rfl⟩ := hb
          have e1 := hp_ _ List.mem_cons_self
          have e2 := hp_ _ (List.mem_cons_of_mem _ List.mem_cons_self)
          have e3 := hp_ _ (List.mem_cons_of_mem _ (List.mem_cons_of_mem _ List.mem_cons_self))
          subst e1
          subst e3
          exact ⟨_, _, h.nclose hg hj hgd e2⟩
      · cases he
    · cases he
  | z id =>
    simp only [ghost] at he
    split at he
    · rename_i e sz q e' sz' m xs hg
      simp only [Option.some.injEq, Prod.mk.injEq] at he
      obtain ⟨rfl, _⟩ := he
      obtain ⟨I', hs⟩ := h.nfreeze hg
      exact ⟨_, _, hs⟩
    · cases he
  | e id m' =>
    simp only [ghost] at he
    split at he
    · rename_i e sz q e' sz' m hole xs hg
      simp only [Option.some.injEq, Prod.mk.injEq] at he
      obtain ⟨rfl, rfl⟩ := he
      have e1 := hp_ _ List.mem_cons_self
      subst e1
      exact ⟨_, _, h.objTo hg (fun q => q) fun _ q => q⟩
    · cases he
  | s id q =>
    simp only [ghost] at he
    split at he
    · rename_i t l hg
      split at he
      · rename_i hq
        simp only [Option.some.injEq, Prod.mk.injEq] at he
        obtain ⟨rfl, _⟩ := he
        exact ⟨_, _, h.selfp hg hq fun v hv => by
          have hv' : RC I v (.v (.pointer none)) := hv
          cases hv'; exact .inl rfl⟩
      · rename_i j hq
        cases hb : j == id with
        | false => rw [hb] at he; cases he
        | true =>
          rw [hb] at he; simp only [cond_true, Option.some.injEq, Prod.mk.injEq] at he
          obtain ⟨rfl, _⟩ := he
          have hj : j = id := eq_of_beq hb
          subst hj
          exact ⟨_, _, h.selfp hg hq fun v ⟨B, h1, h2⟩ => .inr ⟨B, h1, h2⟩⟩
      · cases he
    · cases he
  | mw id e' sz' =>
    simp only [ghost] at he
    split at he
    · rename_i kp hg
      simp only [Option.some.injEq, Prod.mk.injEq] at he
      obtain ⟨rfl, _⟩ := he
      exact ⟨_, _, h.mwrap hg e' sz'⟩
    · cases he
  | mt id kv d ys =>
    simp only [ghost] at he
    split at he
    · rename_i kp e' sz' es hg
      cases hb : fresh E.k d fr hp with
      | false => rw [hb] at he; cases he
      | true =>
        rw [hb] at he; simp only [cond_true, Option.some.injEq, Prod.mk.injEq] at he
        obtain ⟨rfl, rfl⟩ := he
        obtain ⟨ι', hs⟩ := h.mtake hg hb (hp_ _ List.mem_cons_self)
        exact ⟨_, _, hs⟩
    · cases he
  | mc id es' =>
    simp only [ghost] at he
    split at he
    · rename_i kp e' sz' kv d es hg
      split at he
      · rename_i e2 sz2 ys hgd
        cases hb : e2 == e' && sz2 == sz' with
        | false => rw [hb] at he; cases he
        | true =>
          rw [hb] at he; simp only [cond_true, Option.some.injEq, Prod.mk.injEq] at he
          obtain ⟨rfl, rfl⟩ := he
          simp only [Bool.and_eq_true, beq_iff_eq] at hb
          obtain ⟨rfl, rfl⟩ := hb
          have e1 := hp_ _ List.mem_cons_self
          subst e1
          exact ⟨_, _, h.mclose hg hgd⟩
      · cases he
    · cases he
  | mz id =>
    simp only [ghost] at he
    split at he
    · rename_i kp e' sz' es hg
      simp only [Option.some.injEq, Prod.mk.injEq] at he
      obtain ⟨rfl, _⟩ := he
      obtain ⟨I', hs⟩ := h.mfreeze hg
      exact ⟨_, _, hs⟩
    · cases he
end
end Go.Proofs.Ytajmjfdopminbaa.Sym
