/- Sym: how the relation moves: a slot put, an object made, written, forgotten, the names changed, the world extended. Conditions: none. -/
import Derived.Test.YtajmjfdopminbaaSyma
set_option linter.unusedVariables false
set_option linter.unusedSimpArgs false
namespace Go.Proofs.Ytajmjfdopminbaa.Sym
open Go Go.RowKit

/-! ### What is named -/
def mentCap : Cap → List Nat
  | .c _ => []
  | .own id => [id]
def ment : CV → List Nat
  | .u => []
  | .c _ => []
  | .ptr id _ => [id]
  | .rt id => [id]
  | .sub _ id _ _ => [id]
  | .el _ id _ _ => [id]
  | .fn _ caps => caps.flatMap mentCap
  | .sn _ _ => []
  | .sp id => [id]
def mentT : TV → List Nat
  | .v x => ment x
  | .agg l => l.flatMap ment
def mentA : AV → List Nat
  | .t x => mentT x
  | .tup l => l.flatMap mentT
def mentO : Ob → List Nat
  | .cells _ l => l.flatMap ment
  | .row _ _ _ => []
  | .map _ _ => []
  | .iter _ _ => []
  | .nrow _ _ _ _ _ _ hole _ => hole.map (·.2)
  | .nmap _ _ _ hole _ => hole.toList.map (·.2)
/-- It has no own slices within. -/
def flatO : Ob → Bool
  | .nrow _ _ _ _ _ _ _ _ => false
  | .nmap _ _ _ _ _ => false
  | _ => true

section
variable {I I' : Im} {ι ι' : Lo} {w w' : World} {v : Value}

theorem RCap.cong {x : Cap} (h : RCap I ι v x) (hi : I.le I') (hc : ∀ id ∈ mentCap x, ι' id = ι id) : RCap I' ι' v x := by
  cases x with
  | c x => exact RC.mono hi h
  | own id => obtain ⟨B, h1, h2⟩ := h; exact ⟨B, by rw [hc id (by simp [mentCap])]; exact h1, h2⟩
theorem RV1.cong {x : CV} (h : RV1 I ι v x) (hi : I.le I') (hc : ∀ id ∈ ment x, ι' id = ι id) : RV1 I' ι' v x := by
  cases x with
  | u => trivial
  | c x => exact RC.mono hi h
  | ptr id off => obtain ⟨B, h1, h2⟩ := h; exact ⟨B, by rw [hc id (by simp [ment])]; exact h1, h2⟩
  | rt id => exact ⟨by rw [hc id (by simp [ment])]; exact h.1, h.2⟩
  | sub sz id lo n => obtain ⟨A, len, cap, h1, h2, h3⟩ := h; exact ⟨A, len, cap, by rw [hc id (by simp [ment])]; exact h1, h2, h3⟩
  | el sz id i off => obtain ⟨B, len, cap, h1, h2⟩ := h; exact ⟨B, len, cap, by rw [hc id (by simp [ment])]; exact h1, h2⟩
  | fn f caps =>
    obtain ⟨vals, h1, h2⟩ := h
    refine ⟨vals, h1, All2.of h2.len fun i x y hx hy => ?_⟩
    obtain ⟨y', hy', hr⟩ := h2.at' i x hx
    rw [hy] at hy'; cases hy'
    exact hr.cong hi fun id hid => hc id (List.mem_flatMap.2 ⟨y, List.mem_of_getElem? hy, hid⟩)
  | sn sz xs => exact ⟨h.1.mono hi, h.2⟩
  | sp id => exact h.imp (fun q => q) fun ⟨B, h1, h2⟩ => ⟨B, by rw [hc id (by simp [ment])]; exact h1, h2⟩
theorem RK.cong {x : CV} (h : RK I ι v x) (hi : I.le I') (hc : ∀ id ∈ ment x, ι' id = ι id) : RK I' ι' v x := ⟨h.1.cong hi hc, h.2⟩
theorem All2.cong {α : Type} {R R' : Value → α → Prop} {vs : List Value} {l : List α} (h : All2 R vs l) (hc : ∀ x ∈ l, ∀ v, R v x → R' v x) : All2 R' vs l :=
  All2.of h.len fun i x y hx hy => by
    obtain ⟨y', hy', hr⟩ := h.at' i x hx
    rw [hy] at hy'; cases hy'
    exact hc y (List.mem_of_getElem? hy) x hr
theorem RT.cong {x : TV} (h : RT I ι v x) (hi : I.le I') (hc : ∀ id ∈ mentT x, ι' id = ι id) : RT I' ι' v x := by
  cases x with
  | v x => exact RV1.cong h hi hc
  | agg l =>
    obtain ⟨vs, h1, h2⟩ := h
    exact ⟨vs, h1, h2.cong fun x hx v hr => hr.cong hi fun id hid => hc id (List.mem_flatMap.2 ⟨x, hx, hid⟩)⟩
theorem RV.cong {x : AV} (h : RV I ι v x) (hi : I.le I') (hc : ∀ id ∈ mentA x, ι' id = ι id) : RV I' ι' v x := by
  cases x with
  | t x => exact RT.cong h hi hc
  | tup l =>
    obtain ⟨vs, h1, h2⟩ := h
    exact ⟨vs, h1, h2.cong fun x hx v hr => hr.cong hi fun id hid => hc id (List.mem_flatMap.2 ⟨x, hx, hid⟩)⟩
theorem RD.mono {x : DV} (hi : I.le I') (h : RD I v x) : RD I' v x := by
  cases x with
  | v x => exact RC.mono hi h
  | agg l => obtain ⟨vs, h1, h2⟩ := h; exact ⟨vs, h1, h2.mono hi⟩
theorem ownsRow_move0 {e size n : Nat} {xs : List Value} (h : w.ownsRow 0 e size v n xs) (hm : ∀ B, blockOf v = some B → w'.heap[B]? = w.heap[B]?) : w'.ownsRow 0 e size v n xs := by
  refine ⟨h.1, h.2.imp id fun ⟨g, cap, cur, h1, h2, h3, h4⟩ => ⟨g, cap, cur, h1, h2, ?_, h4⟩⟩
  rw [hm g (by rw [h1]; rfl)]; exact h3
theorem RRow.cong {e sz : Nat} {xs : List El} (h : RRow I w v e sz xs) (hi : I.le I') (hm : ∀ B, blockOf v = some B → w'.heap[B]? = w.heap[B]?) : RRow I' w' v e sz xs := by
  obtain ⟨vals, h1, h2, h3, h4⟩ := h
  exact ⟨vals, ownsRow_move0 h1 hm, h2, h3.mono hi, h4⟩
theorem cell_cong {B o : Nat} (h : w'.heap[B]? = w.heap[B]?) : w'.cell? ⟨B, o, none⟩ = w.cell? ⟨B, o, none⟩ := World.cell?_of_block h
theorem inner_cong {x : Ob} (hm : ∀ B, blockOf v = some B → w'.heap[B]? = w.heap[B]?) (i : Nat) (u : Value) : inner w' v x i u ↔ inner w v x i u := by
  cases x with
  | nrow e sz q e' sz' m hole xs =>
    refine and_congr Iff.rfl (and_congr Iff.rfl (exists_congr fun g => exists_congr fun len => exists_congr fun cap => and_congr_right fun hv => ?_))
    rw [cell_cong (hm g (by rw [hv]; rfl))]
  | nmap kp e' sz' hole es =>
    refine exists_congr fun B => exists_congr fun ents => exists_congr fun clock => exists_congr fun en => and_congr_right fun hv => ?_
    rw [hm B (by rw [hv]; rfl)]
  | _ => exact Iff.rfl
theorem owns_cong {x : Ob} (hm : ∀ B, blockOf v = some B → w'.heap[B]? = w.heap[B]?) (B : Nat) : owns w' v x B ↔ owns w v x B :=
  or_congr Iff.rfl (exists_congr fun i => exists_congr fun u => and_congr (inner_cong hm i u) Iff.rfl)
theorem Once.cong {x : Ob} (h : Once w v x) (hm : ∀ B, blockOf v = some B → w'.heap[B]? = w.heap[B]?) : Once w' v x :=
  ⟨fun i u B h1 => h.base i u B ((inner_cong hm i u).1 h1), fun i j u u' B h1 h2 => h.each i j u u' B ((inner_cong hm i u).1 h1) ((inner_cong hm j u').1 h2)⟩
theorem owns_flat {x : Ob} (hf : flatO x = true) {B : Nat} (h : owns w v x B) : blockOf v = some B := by
  rcases h with h | ⟨i, u, h, _⟩
  · exact h
  · cases x <;> first | exact h.elim | cases hf
/-- The place of an own slice within. -/
theorem RO.cell {e sz q e' sz' m : Nat} {hole : List (Nat × Nat)} {xs : List El} {vals : List Value} (h : w.ownsRow 0 e sz v xs.length vals) {i j : Nat} {u : Value} (hu : vals[i * sz + j]? = some u) : ∃ g cap, v = .slice (some ⟨g, 0, none⟩) xs.length cap ∧ w.cell? ⟨g, i * sz + j, none⟩ = some u := by
  rcases h.2 with ⟨rfl, hn⟩ | ⟨g, cap, cur, rfl, _⟩
  · have : vals.length = 0 := by rw [h.1, hn]; simp
    have := (List.getElem?_eq_some_iff.1 hu).1
    omega
  · refine ⟨g, cap, rfl, ?_⟩
    have := h.cells (g := g) rfl (i * sz + j) u hu
    rw [Addr.add_lit, Nat.zero_add] at this
    exact this
theorem RO.cong {x : Ob} (h : RO I ι w v x) (hi : I.le I') (hc : ∀ id ∈ mentO x, ι' id = ι id) (hm' : ∀ B, owns w v x B → w'.heap[B]? = w.heap[B]?) : RO I' ι' w' v x := by
  have hm : ∀ B, blockOf v = some B → w'.heap[B]? = w.heap[B]? := fun B hB => hm' B (.inl hB)
  cases x with
  | nrow e sz q e' sz' m hole xs =>
    obtain ⟨⟨vals, h1, h2, h3, h4, h5, h6, h7, h8, h9⟩, ho⟩ := h
    refine ⟨⟨vals, ownsRow_move0 h1 hm, h2, h3, h4, h5, h6, fun i j x c u a b d k => (h7 i j x c u a b d k).mono hi, fun i x u a b c d => ?_, fun i d a => ?_⟩, ho.cong hm⟩
    · obtain ⟨ys, k1, k2⟩ := h8 i x u a b c d
      refine ⟨ys, k1, k2.cong hi fun B hB => hm' B (.inr ⟨i, u, ⟨a, b, ?_⟩, hB⟩)⟩
      obtain ⟨g, cap, k3, k4⟩ := RO.cell (e := e) (sz := sz) (q := q) (e' := e') (sz' := sz') (m := m) (hole := hole) h1 d
      exact ⟨g, _, cap, k3, k4⟩
    · obtain ⟨k1, k2⟩ := h9 i d a
      refine ⟨k1, ?_⟩
      rw [hc d (List.mem_map.2 ⟨(i, d), a, rfl⟩)]; exact k2
  | nmap kp e' sz' hole es =>
    obtain ⟨⟨B, ents, clock, h1, h2, h3, h4, h5, h6⟩, ho⟩ := h
    refine ⟨⟨B, ents, clock, h1, by rw [hm B (by rw [h1]; rfl)]; exact h2, All2.of h3.len fun i en p hen hp => ?_, h4, h5, fun k d a => ?_⟩, ho.cong hm⟩
    · obtain ⟨p', hp', k1, k2⟩ := h3.at' i en hen
      rw [hp] at hp'; cases hp'
      refine ⟨k1, fun k => ?_⟩
      obtain ⟨ys, k3, k4⟩ := k2 k
      exact ⟨ys, k3, k4.cong hi fun B' hB' => hm' B' (.inr ⟨i, en.val, ⟨B, ents, clock, en, h1, h2, by simpa using hen, k, rfl⟩, hB'⟩)⟩
    · rw [hc d (by subst a; simp [mentO])]; exact h6 k d a
  | cells t l =>
    obtain ⟨B, vs, h1, h2, h3⟩ := h
    exact ⟨B, vs, h1, by rw [hm B (by rw [h1]; rfl)]; exact h2, h3.cong fun x hx v hr => hr.cong hi fun id hid => hc id (List.mem_flatMap.2 ⟨x, hx, hid⟩)⟩
  | row e sz xs =>
    obtain ⟨vals, h1, h2, h3, h4⟩ := h
    exact ⟨vals, ownsRow_move0 h1 hm, h2, h3.mono hi, h4⟩
  | map kp es =>
    obtain ⟨B, ents, clock, h1, h2, h3, h4⟩ := h
    exact ⟨B, ents, clock, h1, by rw [hm B (by rw [h1]; rfl)]; exact h2, h3.imp fun a b hr => ⟨hr.1, hr.2.mono hi⟩, h4⟩
  | iter s i =>
    obtain ⟨B, h1, h2⟩ := h
    exact ⟨B, h1, by rw [hm B (by rw [h1]; rfl)]; exact h2⟩
end

section
variable {ok : Nat → Prop} {I I' : Im} {ι : Lo} {f : Vs} {w w' : World} {fr fr' : Fr} {hp hp' : Hp}

theorem Rel.put (h : Rel ok I ι f w fr hp) (d : Nat) {v : Value} {x : AV} (hx : RV I ι v x) : Rel ok I ι (upd f d v) w (setS fr d x) hp := by
  refine ⟨fun s => ?_, h.obj, h.own, h.inj⟩
  rw [get_setS]
  by_cases e : s = d
  · subst e; rw [upd_same, if_pos rfl]; exact hx
  · rw [upd_ne f v e, if_neg e]; exact h.slot s
theorem Rel.move (h : Rel ok I ι f w fr hp) (hi : I.le I') (hs : w.heap.size ≤ w'.heap.size)
    (hb : ∀ id ob, getO hp id = some ob → ∀ B, owns w (ι id) ob B → w'.heap[B]? = w.heap[B]? ∧ ∀ o, I' B o = none) : Rel ok I' ι f w' fr hp := by
  have hback : ∀ id ob, getO hp id = some ob → ∀ B, owns w' (ι id) ob B → owns w (ι id) ob B := fun id ob hg B => (owns_cong (fun B' hB' => (hb id ob hg B' (.inl hB')).1) B).1
  exact ⟨fun s => (h.slot s).cong hi fun _ _ => rfl, fun id ob hg => (h.obj id ob hg).cong hi (fun _ _ => rfl) fun B hB => (hb id ob hg B hB).1,
    fun id ob hg B hB => have hB := hback id ob hg B hB; ⟨(h.own id ob hg B hB).1, Nat.lt_of_lt_of_le (h.own id ob hg B hB).2.1 hs, (hb id ob hg B hB).2⟩,
    fun id id' ob ob' hg hg' B hB hB' => h.inj id id' ob ob' hg hg' B (hback id ob hg B hB) (hback id' ob' hg' B hB')⟩
theorem Rel.del (h : Rel ok I ι f w fr hp) (d : Nat) : Rel ok I ι f w fr (delO hp d) := by
  have key : ∀ id ob, getO (delO hp d) id = some ob → getO hp id = some ob := fun id ob hg => by
    rw [getO_delO] at hg; split at hg
    · cases hg
    · exact hg
  exact ⟨h.slot, fun id ob hg => h.obj id ob (key id ob hg), fun id ob hg => h.own id ob (key id ob hg), fun id id' ob ob' hg hg' => h.inj id id' ob ob' (key id ob hg) (key id' ob' hg')⟩

/-- An object's content is written. -/
theorem Rel.set' (h : Rel ok I ι f w fr hp) {d : Nat} {ob0 ob : Ob} (hd : getO hp d = some ob0) (hs : w.heap.size ≤ w'.heap.size)
    (hm : ∀ B, B < w.heap.size → ¬ owns w (ι d) ob0 B → w'.heap[B]? = w.heap[B]?) (ho : RO I ι w' (ι d) ob) (hw : ∀ B, owns w' (ι d) ob B → owns w (ι d) ob0 B) : Rel ok I ι f w' fr (setO hp d ob) := by
  have hoth : ∀ id ob, id ≠ d → getO hp id = some ob → ∀ B, owns w (ι id) ob B → w'.heap[B]? = w.heap[B]? := fun id ob hne hg B hB =>
    hm B (h.own id ob hg B hB).2.1 fun q => hne (h.inj id d ob ob0 hg hd B hB q)
  have key : ∀ id ob', getO (setO hp d ob) id = some ob' → ∃ ob'', getO hp id = some ob'' ∧ ∀ B, owns w' (ι id) ob' B → owns w (ι id) ob'' B := fun id ob' hg => by
    rw [getO_setO] at hg
    by_cases e : id = d
    · subst e; rw [if_pos rfl] at hg; cases hg; exact ⟨_, hd, hw⟩
    · rw [if_neg e] at hg; exact ⟨_, hg, fun B => (owns_cong (fun B' hB' => hoth id ob' e hg B' (.inl hB')) B).1⟩
  refine ⟨h.slot, fun id ob' hg => ?_, fun id ob' hg B hB => ?_, fun id id' ob1 ob2 h1 h2 B hB hB' => ?_⟩
  · rw [getO_setO] at hg
    by_cases e : id = d
    · subst e; rw [if_pos rfl] at hg; cases hg; exact ho
    · rw [if_neg e] at hg; exact (h.obj id ob' hg).cong (Im.le_refl I) (fun _ _ => rfl) (hoth id ob' e hg)
  · obtain ⟨ob'', k1, k2⟩ := key id ob' hg
    obtain ⟨h1, h2, h3⟩ := h.own id ob'' k1 B (k2 B hB)
    exact ⟨h1, by omega, h3⟩
  · obtain ⟨o1, k1, k2⟩ := key id ob1 h1
    obtain ⟨o2, k3, k4⟩ := key id' ob2 h2
    exact h.inj id id' o1 o2 k1 k3 B (k2 B hB) (k4 B hB')
theorem Rel.set (h : Rel ok I ι f w fr hp) {d : Nat} {ob0 ob : Ob} (hd : getO hp d = some ob0) (hs : w.heap.size ≤ w'.heap.size)
    (hm : ∀ B, B < w.heap.size → blockOf (ι d) ≠ some B → w'.heap[B]? = w.heap[B]?) (ho : RO I ι w' (ι d) ob) (hf : flatO ob = true) : Rel ok I ι f w' fr (setO hp d ob) :=
  h.set' hd hs (fun B hB hn => hm B hB fun q => hn (.inl q)) ho fun B hB => .inl (owns_flat hf hB)

/-- Nothing names d. -/
def freshB (d : Nat) (fr : Fr) (hp : Hp) : Bool := fr.all (fun p => (mentA p.2).all fun i => i != d) && hp.all (fun p => p.1 != d && (mentO p.2).all fun i => i != d)
theorem freshB_slot {d : Nat} (h : freshB d fr hp = true) (s : Nat) : d ∉ mentA (get fr s) := by
  simp only [freshB, Bool.and_eq_true, List.all_eq_true] at h
  have h1 := h.1
  clear h
  induction fr with
  | nil => simp [get, mentA, mentT, ment]
  | cons p r ih =>
    obtain ⟨k, x⟩ := p
    simp only [get]
    cases e : k == s with
    | true =>
      simp only [cond_true]
      intro hm
      have := h1 (k, x) (by simp) d hm
      simp at this
    | false => simp only [cond_false]; exact ih fun p hp => h1 p (by simp [hp])
theorem getO_mem {hp : Hp} {id : Nat} {ob : Ob} (h : getO hp id = some ob) : (id, ob) ∈ hp := by
  induction hp with
  | nil => simp [getO] at h
  | cons p r ih =>
    obtain ⟨k, x⟩ := p
    simp only [getO] at h
    cases e : k == id with
    | true =>
      rw [e] at h; simp at h e
      subst h; subst e; simp
    | false => rw [e] at h; simp at h; simp [ih h]
theorem freshB_ob {d : Nat} (h : freshB d fr hp = true) {id : Nat} {ob : Ob} (hg : getO hp id = some ob) : id ≠ d ∧ d ∉ mentO ob := by
  simp only [freshB, Bool.and_eq_true, List.all_eq_true] at h
  have := h.2 _ (getO_mem hg)
  simp only [bne_iff_ne] at this
  exact ⟨this.1, fun hm => this.2 d hm rfl⟩

/-- A new object. -/
theorem Rel.new' (h : Rel ok I ι f w fr hp) {d : Nat} (hd : freshB d fr hp = true) {v : Value} {ob : Ob} (hs : w.heap.size ≤ w'.heap.size)
    (hm : ∀ id ob', getO hp id = some ob' → ∀ B, owns w (ι id) ob' B → w'.heap[B]? = w.heap[B]? ∧ ¬ owns w' v ob B)
    (hv : RO I (upd ι d v) w' v ob) (hown : ∀ B, owns w' v ob B → ok B ∧ B < w'.heap.size ∧ ∀ o, I B o = none) : Rel ok I (upd ι d v) f w' fr (setO hp d ob) := by
  have hne : ∀ id ob', getO (setO hp d ob) id = some ob' → id ≠ d → getO hp id = some ob' := fun id ob' hg e => by
    rw [getO_setO, if_neg e] at hg; exact hg
  have hself : ∀ ob', getO (setO hp d ob) d = some ob' → ob' = ob := fun ob' hg => by
    rw [getO_setO, if_pos rfl] at hg; cases hg; rfl
  have hback : ∀ id ob', getO hp id = some ob' → ∀ B, owns w' (ι id) ob' B → owns w (ι id) ob' B := fun id ob' hg B => (owns_cong (fun B' hB' => (hm id ob' hg B' (.inl hB')).1) B).1
  refine ⟨fun s => (h.slot s).cong (Im.le_refl I) fun id hid => upd_ne ι v (fun e => freshB_slot hd s (e ▸ hid)), fun id ob' hg => ?_, fun id ob' hg B hB => ?_, fun id id' ob1 ob2 h1 h2 B hB hB' => ?_⟩
  · by_cases e : id = d
    · subst e
      rw [hself ob' hg, upd_same]; exact hv
    · have hg' := hne id ob' hg e
      rw [upd_ne ι v e]
      exact (h.obj id ob' hg').cong (Im.le_refl I) (fun i hi => upd_ne ι v (fun q => (freshB_ob hd hg').2 (q ▸ hi))) fun B hB => (hm id ob' hg' B hB).1
  · by_cases e : id = d
    · subst e; rw [upd_same, hself ob' hg] at hB; exact hown B hB
    · rw [upd_ne ι v e] at hB
      have hg' := hne id ob' hg e
      obtain ⟨q1, q2, q3⟩ := h.own id ob' hg' B (hback id ob' hg' B hB)
      exact ⟨q1, by omega, q3⟩
  · by_cases e : id = d
    · subst e
      by_cases e' : id' = id
      · exact e'.symm
      · rw [upd_same, hself ob1 h1] at hB; rw [upd_ne ι v e'] at hB'
        have hg' := hne id' ob2 h2 e'
        exact ((hm id' ob2 hg' B (hback id' ob2 hg' B hB')).2 hB).elim
    · by_cases e' : id' = d
      · subst e'
        rw [upd_same, hself ob2 h2] at hB'; rw [upd_ne ι v e] at hB
        have hg' := hne id ob1 h1 e
        exact ((hm id ob1 hg' B (hback id ob1 hg' B hB)).2 hB').elim
      · rw [upd_ne ι v e] at hB; rw [upd_ne ι v e'] at hB'
        have g1 := hne id ob1 h1 e
        have g2 := hne id' ob2 h2 e'
        exact h.inj id id' ob1 ob2 g1 g2 B (hback id ob1 g1 B hB) (hback id' ob2 g2 B hB')
theorem Rel.new (h : Rel ok I ι f w fr hp) {d : Nat} (hd : freshB d fr hp = true) {v : Value} {ob : Ob} (hs : w.heap.size ≤ w'.heap.size)
    (hm : ∀ id ob', getO hp id = some ob' → ∀ B, owns w (ι id) ob' B → w'.heap[B]? = w.heap[B]? ∧ blockOf v ≠ some B)
    (hv : RO I (upd ι d v) w' v ob) (hown : ∀ B, blockOf v = some B → ok B ∧ B < w'.heap.size ∧ ∀ o, I B o = none) (hf : flatO ob = true) : Rel ok I (upd ι d v) f w' fr (setO hp d ob) :=
  h.new' hd hs (fun id ob' hg B hB => ⟨(hm id ob' hg B hB).1, fun q => (hm id ob' hg B hB).2 (owns_flat hf q)⟩) hv fun B hB => hown B (owns_flat hf hB)

/-! ### Names changed, things forgotten -/
def renCap (ρ : Nat → Nat) : Cap → Cap
  | .c x => .c x
  | .own id => .own (ρ id)
def ren (ρ : Nat → Nat) : CV → CV
  | .u => .u
  | .c x => .c x
  | .ptr id off => .ptr (ρ id) off
  | .rt id => .rt (ρ id)
  | .sub sz id lo n => .sub sz (ρ id) lo n
  | .el sz id i off => .el sz (ρ id) i off
  | .fn f caps => .fn f (caps.map (renCap ρ))
  | .sn sz xs => .sn sz xs
  | .sp id => .sp (ρ id)
def renT (ρ : Nat → Nat) : TV → TV
  | .v x => .v (ren ρ x)
  | .agg l => .agg (l.map (ren ρ))
def renA (ρ : Nat → Nat) : AV → AV
  | .t x => .t (renT ρ x)
  | .tup l => .tup (l.map (renT ρ))
def renO (ρ : Nat → Nat) : Ob → Ob
  | .cells t l => .cells t (l.map (ren ρ))
  | .row e sz xs => .row e sz xs
  | .map kp es => .map kp es
  | .iter s i => .iter s i
  | .nrow e sz q e' sz' m hole xs => .nrow e sz q e' sz' m (hole.map fun p => (p.1, ρ p.2)) xs
  | .nmap kp e' sz' hole es => .nmap kp e' sz' (hole.map fun p => (p.1, ρ p.2)) es

theorem All2.of_map {α β γ : Type} {R : α → γ → Prop} {g : β → γ} {l : List α} {m : List β} (h : All2 R l (m.map g)) : All2 (fun a b => R a (g b)) l m := by
  refine All2.of (by simpa using h.len) fun i a b ha hb => ?_
  obtain ⟨c, hc, hr⟩ := h.at' i a ha
  rw [List.getElem?_map, hb] at hc
  simp at hc; subst hc; exact hr
theorem RCap.ren {ρ : Nat → Nat} {v : Value} {x : Cap} : RCap I ι v (renCap ρ x) ↔ RCap I (fun i => ι (ρ i)) v x := by cases x <;> exact Iff.rfl
theorem RV1.ren {ρ : Nat → Nat} {v : Value} {x : CV} : RV1 I ι v (ren ρ x) ↔ RV1 I (fun i => ι (ρ i)) v x := by
  cases x with
  | fn f caps =>
    refine ⟨fun ⟨vals, h1, h2⟩ => ⟨vals, h1, h2.of_map.imp fun a b hr => RCap.ren.1 hr⟩, fun ⟨vals, h1, h2⟩ => ⟨vals, h1, h2.map_ fun a b hr => RCap.ren.2 hr⟩⟩
  | _ => exact Iff.rfl
theorem RK.ren {ρ : Nat → Nat} {v : Value} {x : CV} : RK I ι v (Sym.ren ρ x) ↔ RK I (fun i => ι (ρ i)) v x := and_congr RV1.ren Iff.rfl
theorem RT.ren {ρ : Nat → Nat} {v : Value} {x : TV} : RT I ι v (renT ρ x) ↔ RT I (fun i => ι (ρ i)) v x := by
  cases x with
  | v x => exact RV1.ren
  | agg l => exact ⟨fun ⟨vals, h1, h2⟩ => ⟨vals, h1, h2.of_map.imp fun a b hr => RK.ren.1 hr⟩, fun ⟨vals, h1, h2⟩ => ⟨vals, h1, h2.map_ fun a b hr => RK.ren.2 hr⟩⟩
theorem RV.ren {ρ : Nat → Nat} {v : Value} {x : AV} : RV I ι v (renA ρ x) ↔ RV I (fun i => ι (ρ i)) v x := by
  cases x with
  | t x => exact RT.ren
  | tup l => exact ⟨fun ⟨vals, h1, h2⟩ => ⟨vals, h1, h2.of_map.imp fun a b hr => RT.ren.1 hr⟩, fun ⟨vals, h1, h2⟩ => ⟨vals, h1, h2.map_ fun a b hr => RT.ren.2 hr⟩⟩
theorem hole_ren {α : Type} {ρ : Nat → Nat} (hole : Option (α × Nat)) (i : α) : (∀ d, hole.map (fun p => (p.1, ρ p.2)) ≠ some (i, d)) ↔ ∀ d, hole ≠ some (i, d) := by
  cases hole with
  | none => simp
  | some p =>
    obtain ⟨j, d0⟩ := p
    refine ⟨fun h d e => ?_, fun h d e => ?_⟩
    · simp at e; exact h (ρ d0) (by simp [e.1])
    · simp at e; exact h d0 (by simp [e.1])
theorem holes_ren {ρ : Nat → Nat} (hole : List (Nat × Nat)) (i : Nat) : (∀ d, (i, d) ∉ hole.map fun p => (p.1, ρ p.2)) ↔ ∀ d, (i, d) ∉ hole :=
  ⟨fun h d e => h (ρ d) (List.mem_map.2 ⟨(i, d), e, rfl⟩), fun h d e => by
    obtain ⟨⟨j, d0⟩, h1, h2⟩ := List.mem_map.1 e
    simp at h2
    obtain ⟨rfl, _⟩ := h2
    exact h d0 h1⟩
theorem holes_all {ρ : Nat → Nat} (hole : List (Nat × Nat)) (R : Nat → Nat → Prop) : (∀ i d, (i, d) ∈ (hole.map fun p => (p.1, ρ p.2)) → R i d) ↔ ∀ i d, (i, d) ∈ hole → R i (ρ d) :=
  ⟨fun h i d e => h i (ρ d) (List.mem_map.2 ⟨(i, d), e, rfl⟩), fun h i d e => by
    obtain ⟨⟨j, d0⟩, h1, h2⟩ := List.mem_map.1 e
    simp at h2
    obtain ⟨rfl, rfl⟩ := h2
    exact h j d0 h1⟩
theorem inner_ren {ρ : Nat → Nat} {v : Value} {x : Ob} (i : Nat) (u : Value) : inner w v (renO ρ x) i u ↔ inner w v x i u := by
  cases x with
  | nrow e sz q e' sz' m hole xs => exact and_congr Iff.rfl (and_congr (holes_ren hole i) Iff.rfl)
  | nmap kp e' sz' hole es => exact exists_congr fun B => exists_congr fun ents => exists_congr fun clock => exists_congr fun en => and_congr Iff.rfl (and_congr Iff.rfl (and_congr Iff.rfl (and_congr (hole_ren hole en.key) Iff.rfl)))
  | _ => exact Iff.rfl
theorem owns_ren {ρ : Nat → Nat} {v : Value} {x : Ob} (B : Nat) : owns w v (renO ρ x) B ↔ owns w v x B :=
  or_congr Iff.rfl (exists_congr fun i => exists_congr fun u => and_congr (inner_ren i u) Iff.rfl)
theorem Once.ren {ρ : Nat → Nat} {v : Value} {x : Ob} : Once w v (renO ρ x) ↔ Once w v x :=
  ⟨fun h => ⟨fun i u B h1 => h.base i u B ((inner_ren i u).2 h1), fun i j u u' B h1 h2 => h.each i j u u' B ((inner_ren i u).2 h1) ((inner_ren j u').2 h2)⟩,
    fun h => ⟨fun i u B h1 => h.base i u B ((inner_ren i u).1 h1), fun i j u u' B h1 h2 => h.each i j u u' B ((inner_ren i u).1 h1) ((inner_ren j u').1 h2)⟩⟩
theorem hole_all {α : Type} {ρ : Nat → Nat} (hole : Option (α × Nat)) (R : α → Nat → Prop) : (∀ i d, hole.map (fun p => (p.1, ρ p.2)) = some (i, d) → R i d) ↔ ∀ i d, hole = some (i, d) → R i (ρ d) := by
  cases hole with
  | none => simp
  | some p =>
    obtain ⟨j, d0⟩ := p
    refine ⟨fun h i d e => ?_, fun h i d e => ?_⟩
    · simp at e; obtain ⟨rfl, rfl⟩ := e; exact h _ _ rfl
    · simp at e; obtain ⟨rfl, rfl⟩ := e; exact h _ _ rfl
theorem RO.ren {ρ : Nat → Nat} {v : Value} {x : Ob} : RO I ι w v (renO ρ x) ↔ RO I (fun i => ι (ρ i)) w v x := by
  cases x with
  | nrow e sz q e' sz' m hole xs =>
    refine and_congr (exists_congr fun vals => ?_) (Once.ren (x := .nrow e sz q e' sz' m hole xs))
    refine and_congr Iff.rfl (and_congr Iff.rfl (and_congr Iff.rfl (and_congr Iff.rfl (and_congr Iff.rfl (and_congr Iff.rfl (and_congr Iff.rfl (and_congr ?_ (holes_all hole fun i d => i < m ∧ vals[i * sz + q]? = some (ι d)))))))))
    refine forall_congr' fun i => forall_congr' fun x => forall_congr' fun u => forall_congr' fun _ => ?_
    rw [holes_ren]
  | nmap kp e' sz' hole es =>
    refine and_congr (exists_congr fun B => exists_congr fun ents => exists_congr fun clock => ?_) (Once.ren (x := .nmap kp e' sz' hole es))
    refine and_congr Iff.rfl (and_congr Iff.rfl (and_congr ?_ (and_congr Iff.rfl (and_congr Iff.rfl (hole_all hole fun k d => ∃ en ∈ ents.toList, en.key = k ∧ en.val = ι d ∧ en.val.oneCell' = true)))))
    refine ⟨fun h => h.imp fun a b r => ⟨r.1, fun k => r.2 ((hole_ren hole a.key).2 k)⟩, fun h => h.imp fun a b r => ⟨r.1, fun k => r.2 ((hole_ren hole a.key).1 k)⟩⟩
  | cells t l => exact ⟨fun ⟨B, vals, h1, h2, h3⟩ => ⟨B, vals, h1, h2, h3.of_map.imp fun a b hr => RK.ren.1 hr⟩, fun ⟨B, vals, h1, h2, h3⟩ => ⟨B, vals, h1, h2, h3.map_ fun a b hr => RK.ren.2 hr⟩⟩
  | _ => exact Iff.rfl

def renF (ρ : Nat → Nat) (fr : Fr) : Fr := fr.map fun p => (p.1, renA ρ p.2)
def pickF (fr : Fr) (ks : List Nat) : Fr := ks.map fun k => (k, get fr k)
def renH (ρ : Nat → Nat) (hp : Hp) : List (Nat × Option Ob) := hp.map fun p => (p.1, some (renO ρ p.2))
def pickH (hp : Hp) (ρ : Nat → Nat) (ks : List Nat) : List (Nat × Option Ob) := ks.map fun k => (k, getO hp (ρ k))
theorem renF_spec {ρ : Nat → Nat} (h : renF ρ fr' = pickF fr (fr'.map (·.1))) (s : Nat) : get fr' s = .u ∨ renA ρ (get fr' s) = get fr s := by
  induction fr' with
  | nil => exact .inl rfl
  | cons p r ih =>
    obtain ⟨k, x⟩ := p
    simp only [renF, pickF, List.map_cons, List.cons.injEq, Prod.mk.injEq, true_and] at h
    simp only [get]
    cases e : k == s with
    | true => have : k = s := by simpa using e
              subst this; exact .inr h.1
    | false => exact ih h.2
theorem renH_spec {ρ : Nat → Nat} (h : renH ρ hp' = pickH hp ρ (hp'.map (·.1))) {id : Nat} {ob : Ob} (hg : getO hp' id = some ob) : getO hp (ρ id) = some (renO ρ ob) := by
  have hm := getO_mem hg
  simp only [renH, pickH, List.map_map] at h
  have := List.map_inj_left.1 h _ hm
  simpa using this.symm
def nodupB : List Nat → Bool
  | [] => true
  | x :: r => (r.all fun y => y != x) && nodupB r
theorem nodupB_spec {α : Type} {g : α → Nat} : ∀ {l : List α}, nodupB (l.map g) = true → ∀ a ∈ l, ∀ b ∈ l, g a = g b → a = b
  | [], _, a, ha, _, _, _ => by cases ha
  | x :: r, h, a, ha, b, hb, e => by
    simp only [List.map_cons, nodupB, Bool.and_eq_true, List.all_eq_true, List.mem_map, bne_iff_ne] at h
    rcases List.mem_cons.1 ha with rfl | ha'
    · rcases List.mem_cons.1 hb with rfl | hb'
      · rfl
      · exact (h.1 (g b) ⟨b, hb', rfl⟩ e.symm).elim
    · rcases List.mem_cons.1 hb with rfl | hb'
      · exact (h.1 (g a) ⟨a, ha', rfl⟩ e).elim
      · exact nodupB_spec h.2 a ha' b hb' e

theorem Rel.ren (h : Rel ok I ι f w fr hp) (ρ : Nat → Nat) (hf : renF ρ fr' = pickF fr (fr'.map (·.1))) (hh : renH ρ hp' = pickH hp ρ (hp'.map (·.1))) (hn : nodupB ((hp'.map (·.1)).map ρ) = true) : Rel ok I (fun i => ι (ρ i)) f w fr' hp' := by
  refine ⟨fun s => ?_, fun id ob hg => RO.ren.1 (h.obj _ _ (renH_spec hh hg)), fun id ob hg B hB => h.own _ _ (renH_spec hh hg) B ((owns_ren B).2 hB), fun id id' ob ob' h1 h2 B hB hB' => ?_⟩
  · rcases renF_spec hf s with e | e
    · rw [e]; trivial
    · have := h.slot s
      rw [← e] at this
      exact RV.ren.1 this
  · have := h.inj _ _ _ _ (renH_spec hh h1) (renH_spec hh h2) B ((owns_ren B).2 hB) ((owns_ren B).2 hB')
    exact nodupB_spec hn id (List.mem_map.2 ⟨_, getO_mem h1, rfl⟩) id' (List.mem_map.2 ⟨_, getO_mem h2, rfl⟩) this
end

/-! ### A function's state moves -/
section
variable {E : Env} {w w' : World} {I I' : Im} {ι : Lo} {fr fr' : Fr} {hp hp' : Hp} {a : Act}

theorem vals_put (a : Act) (d : Nat) (v : Value) (h : d < a.tmps.size) : vals (a.put (some d) v) = upd (vals a) d v := by
  funext s
  simp only [vals, Act.put, upd, Array.getD_eq_getD_getElem?, Array.getElem?_setIfInBounds]
  by_cases e : s = d
  · subst e; simp [h]
  · have e' : ¬ d = s := fun q => e q.symm
    simp [e, e']
theorem St.put (h : St E fr hp I ι a w) {d : Nat} (hd : d < E.N) {v : Value} {x : AV} (hx : RV I ι v x) : St E (setS fr d x) hp I ι (a.put (some d) v) w := by
  refine ⟨h.below, h.le, h.new, h.agr, by simp [Act.put, h.size], h.defers, h.fix, ?_⟩
  have := Rel.put h.rel d hx
  rw [← vals_put a d v (by rw [h.size]; exact hd)] at this
  exact this
theorem St.ren (h : St E fr hp I ι a w) (ρ : Nat → Nat) (hf : renF ρ fr' = pickF fr (fr'.map (·.1))) (hh : renH ρ hp' = pickH hp ρ (hp'.map (·.1))) (hn : nodupB ((hp'.map (·.1)).map ρ) = true) (hk : ∀ id, id < E.k → ρ id = id) :
    St E fr' hp' I (fun i => ι (ρ i)) a w :=
  ⟨h.below, h.le, h.new, h.agr, h.size, h.defers, fun id hid => by rw [hk id hid]; exact h.fix id hid, h.rel.ren ρ hf hh hn⟩
theorem St.del (h : St E fr hp I ι a w) (d : Nat) : St E fr (delO hp d) I ι a w :=
  ⟨h.below, h.le, h.new, h.agr, h.size, h.defers, h.fix, h.rel.del d⟩

/-- What a call leaves. -/
structure Ext (L : Nat → Prop) (I : Im) (w : World) (I' : Im) (w' : World) : Prop where
  below : Bel L w w'
  le : I.le I'
  new : ∀ b o v, I' b o = some v → I b o = some v ∨ w.heap.size ≤ b ∨ L b
  agr : Agr I' w'
theorem Ext.refl (L : Nat → Prop) (h : Agr I w) : Ext L I w I w := ⟨Bel.refl _ _, Im.le_refl I, fun _ _ _ e => .inl e, h⟩

/-- The world has been extended; at most objects of the call's own have been written, and these are known anew. -/
theorem St.step {L : Nat → Prop} (h : St E fr hp I ι a w) (e : Ext L I w I' w') (hL : ∀ B, L B → E.w0.heap.size ≤ B ∨ E.L B) {ι' : Lo} (hfix : ∀ id, id < E.k → ι' id = ι id)
    (hr : Rel (fun B => E.w0.heap.size ≤ B ∨ E.L B) I' ι' (vals a) w' fr' hp') : St E fr' hp' I' ι' a w' := by
  refine ⟨⟨e.below.os.trans h.below.os, e.below.tape.trans h.below.tape, e.below.output.trans h.below.output, Nat.le_trans h.below.size e.below.size, fun k hk hnk => ?_⟩, h.le.trans e.le, fun b o v hb => ?_, e.agr, h.size, h.defers, fun id hid => (hfix id hid).trans (h.fix id hid), hr⟩
  · rw [e.below.block k (Nat.lt_of_lt_of_le hk h.below.size) fun q => ?_, h.below.block k hk hnk]
    rcases hL k q with q | q
    · omega
    · exact hnk q
  · rcases e.new b o v hb with hb | hb | hb
    · exact h.new b o v hb
    · exact .inr (.inl (Nat.le_trans h.below.size hb))
    · exact .inr (hL b hb)
/-- Nothing that was there has been written. -/
theorem St.ext (h : St E fr hp I ι a w) (e : Ext (fun _ => False) I w I' w') : St E fr hp I' ι a w' := by
  refine h.step e (fun B q => q.elim) (fun _ _ => rfl) (h.rel.move e.le e.below.size fun id ob hg B hB => ?_)
  obtain ⟨h1, h2, h3⟩ := h.rel.own id ob hg B hB
  refine ⟨e.below.block B h2 (fun q => q), fun o => ?_⟩
  cases hi : I' B o with
  | none => rfl
  | some v =>
    rcases e.new B o v hi with hb | hb | hb
    · rw [h3] at hb; cases hb
    · omega
    · exact hb.elim

theorem Agr.free (h : Agr I w) {B : Nat} (hB : w.heap.size ≤ B) (o : Nat) : I B o = none := by
  cases hi : I B o with
  | none => rfl
  | some v => have := World.block_lt_of_cell? w _ (h _ _ _ hi); simp at this; omega
theorem Agr.step (h : Agr I w) (hm : ∀ B, (∃ o, I B o ≠ none) → w'.heap[B]? = w.heap[B]?) : Agr I w' := fun b o v hb => by
  rw [← h b o v hb]
  exact World.cell?_of_block (hm b ⟨o, by rw [hb]; simp⟩)

/-- A new object in a new block. -/
theorem St.make (h : St E fr hp I ι a w) {d : Nat} (hd : freshB d fr hp = true) (hk : E.k ≤ d) {v : Value} {ob : Ob} {o : Obj} (hw : w' = w.alloc o) (hv : RO I (upd ι d v) w' v ob) (hB : blockOf v = some w.heap.size) (hf : flatO ob = true := by rfl) :
    St E fr (setO hp d ob) I (upd ι d v) a w' := by
  subst hw
  have hagr : Agr I (w.alloc o) := h.agr.step fun B ⟨o', ho⟩ => by
    refine Below.heap_alloc w o B ?_
    rcases Nat.lt_or_ge B w.heap.size with q | q
    · exact q
    · exact (ho (h.agr.free q o')).elim
  have hx : Ext (fun _ => False) I w I (w.alloc o) := ⟨⟨rfl, rfl, rfl, by simp, fun k hk _ => Below.heap_alloc w o k hk⟩, Im.le_refl I, fun _ _ _ e => .inl e, hagr⟩
  refine h.step hx (fun B q => q.elim) (fun id hid => upd_ne ι v (show id ≠ d by omega)) ?_
  refine h.rel.new hd (by simp) (fun id ob hg B hB' => ?_) hv (fun B hB' => ?_) ?_
  · have := (h.rel.own id ob hg B hB').2.1
    exact ⟨Below.heap_alloc w o B this, fun q => by rw [hB] at q; simp at q; omega⟩
  · rw [hB] at hB'; simp at hB'; subst hB'
    exact ⟨.inl h.below.size, by simp, h.agr.free (Nat.le_refl _)⟩
  · exact hf

/-- An object's content is written. -/
theorem St.set' (h : St E fr hp I ι a w) {d B : Nat} {ob0 ob : Ob} (hd : getO hp d = some ob0) (hB : blockOf (ι d) = some B) (hos : w'.os = w.os) (htp : w'.tape = w.tape) (hop : w'.output = w.output) (hs : w'.heap.size = w.heap.size)
    (hm : ∀ B', B' ≠ B → w'.heap[B']? = w.heap[B']?) (ho : RO I ι w' (ι d) ob) (hw : ∀ B, owns w' (ι d) ob B → owns w (ι d) ob0 B) : St E fr (setO hp d ob) I ι a w' := by
  obtain ⟨h1, h2, h3⟩ := h.rel.own d ob0 hd B (.inl hB)
  refine h.step (L := fun B' => B' = B) ⟨⟨hos, htp, hop, by omega, fun k hk hnk => hm k hnk⟩, Im.le_refl I, fun _ _ _ e => .inl e, h.agr.step fun B' ⟨o', q⟩ => hm B' (fun e => q (e ▸ h3 o'))⟩ (fun B' e => e ▸ h1) (fun _ _ => rfl) ?_
  exact h.rel.set' hd (by omega) (fun B' _ hne => hm B' fun e => hne (.inl (e ▸ hB))) ho hw
theorem St.set (h : St E fr hp I ι a w) {d B : Nat} {ob0 ob : Ob} (hd : getO hp d = some ob0) (hB : blockOf (ι d) = some B) (hos : w'.os = w.os) (htp : w'.tape = w.tape) (hop : w'.output = w.output) (hs : w'.heap.size = w.heap.size)
    (hm : ∀ B', B' ≠ B → w'.heap[B']? = w.heap[B']?) (ho : RO I ι w' (ι d) ob) (hf : flatO ob = true := by rfl) : St E fr (setO hp d ob) I ι a w' :=
  h.set' hd hB hos htp hop hs hm ho fun B hB => .inl (owns_flat hf hB)

end
end Go.Proofs.Ytajmjfdopminbaa.Sym
