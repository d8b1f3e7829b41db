/- Sym: slices and variables that nobody writes any more become data. Conditions: none. -/
import Derived.Test.YtajmjfdopminbaaSyml
set_option linter.unusedVariables false
set_option linter.unusedSimpArgs false
namespace Go.Proofs.Ytajmjfdopminbaa.Sym
open Go Go.RowKit

def fnC (f : FuncId) (caps : List Cap) : CV := match allC caps with
  | some cs => .c (.fn f cs)
  | none => .fn f caps
/-- An own slice is data from now on. -/
def fz (id sz : Nat) (xs : List El) : CV → CV
  | .rt i => bif i == id then .c (.sl sz xs) else .rt i
  | .sub s i lo n => bif i == id then (bif s == sz then .c (.sl sz ((xs.take (lo + n)).drop lo)) else .u) else .sub s i lo n
  | .el s i j o => bif i == id then .u else .el s i j o
  | x => x
/-- A variable is data from now on. -/
def fb (id : Nat) (cs : List C) : CV → CV
  | .ptr i o => bif i == id then .c (.ptr (cs.drop o)) else .ptr i o
  | .fn f caps => fnC f (caps.map fun c => match c with
    | .own i => bif i == id then .c (.ptr cs) else .own i
    | .c x => .c x)
  | x => x
def mapT (g : CV → CV) : TV → TV
  | .v x => .v (g x)
  | .agg l => .agg (l.map g)
def mapA (g : CV → CV) : AV → AV
  | .t x => .t (mapT g x)
  | .tup l => .tup (l.map (mapT g))
def mapO (g : CV → CV) : Ob → Ob
  | .cells t l => .cells t (l.map g)
  | .row e sz xs => .row e sz xs
  | x => x
def mapFr (g : CV → CV) (fr : Fr) : Fr := fr.map fun p => (p.1, mapA g p.2)
def mapHp (g : CV → CV) (hp : Hp) : Hp := hp.map fun p => (p.1, mapO g p.2)

section
variable {P : Program} {X : Tab} {E : Env} {w w' : World} {I I' : Im} {ι : Lo} {fr : Fr} {hp : Hp} {a : Act} {o : Oper}

theorem get_mapFr {g : CV → CV} (hu : g .u = .u) (fr : Fr) (s : Nat) : get (mapFr g fr) s = mapA g (get fr s) := by
  induction fr with
  | nil => simp [mapFr, get, mapA, mapT, hu]
  | cons p r ih =>
    obtain ⟨k, x⟩ := p
    simp only [mapFr, List.map_cons, get]
    cases k == s
    · exact ih
    · rfl
theorem getO_mapHp {g : CV → CV} (hp : Hp) (s : Nat) : getO (mapHp g hp) s = (getO hp s).map (mapO g) := by
  induction hp with
  | nil => rfl
  | cons p r ih =>
    obtain ⟨k, x⟩ := p
    simp only [mapHp, List.map_cons, getO]
    cases k == s
    · exact ih
    · rfl

theorem owns_mapO {g : CV → CV} {v : Value} {x : Ob} (B : Nat) : owns w v (mapO g x) B ↔ owns w v x B := by cases x <;> exact Iff.rfl
/-- What is known of all values turns, when the cells of an own block are known as data. -/
theorem St.turn (h : St E fr hp I ι a w) {id : Nat} {ob : Ob} (hg : getO hp id = some ob) {g : CV → CV} (hu : g .u = .u) (hi : I.le I') (hA : Agr I' w) (hout : ∀ b o v, I' b o = some v → I b o = some v ∨ owns w (ι id) ob b)
    (hgv : ∀ x v, RV1 I ι v x → RV1 I' ι v (g x)) : St E (mapFr g fr) (mapHp g (delO hp id)) I' ι a w := by
  have hT : ∀ x v, RT I ι v x → RT I' ι v (mapT g x) := fun x v hx => by
    cases x with
    | v x => exact hgv x v hx
    | agg l => obtain ⟨vs, h1, h2⟩ := hx; exact ⟨vs, h1, h2.map_ fun a b r => ⟨hgv b a r.1, r.2⟩⟩
  have hAv : ∀ x v, RV I ι v x → RV I' ι v (mapA g x) := fun x v hx => by
    cases x with
    | t x => exact hT x v hx
    | tup l => obtain ⟨vs, h1, h2⟩ := hx; exact ⟨vs, h1, h2.map_ fun a b r => hT b a r⟩
  have hget : ∀ i ob', getO (mapHp g (delO hp id)) i = some ob' → ∃ ob0, i ≠ id ∧ getO hp i = some ob0 ∧ ob' = mapO g ob0 := fun i ob' hq => by
    rw [getO_mapHp, getO_delO] at hq
    split at hq
    · cases hq
    · rename_i hne
      cases hq2 : getO hp i with
      | none => rw [hq2] at hq; cases hq
      | some ob0 => rw [hq2] at hq; simp at hq; exact ⟨ob0, hne, rfl, hq.symm⟩
  refine ⟨h.below, h.le.trans hi, fun b o v hb => ?_, hA, h.size, h.defers, h.fix, fun s => ?_, fun i ob' hq => ?_, fun i ob' hq B hB => ?_, fun i i' o1 o2 h1 h2 B hB hB' => ?_⟩
  · rcases hout b o v hb with hb | hb
    · exact h.new b o v hb
    · exact .inr (h.rel.own id ob hg b hb).1
  · rw [get_mapFr hu]; exact hAv _ _ (h.rel.slot s)
  · obtain ⟨ob0, hne, hq', rfl⟩ := hget i ob' hq
    have := h.rel.obj i ob0 hq'
    cases ob0 with
    | cells t l => obtain ⟨B, vs, h1, h2, h3⟩ := this; exact ⟨B, vs, h1, h2, h3.map_ fun a b r => ⟨hgv b a r.1, r.2⟩⟩
    | _ => exact this.cong hi (fun _ _ => rfl) fun _ _ => rfl
  · obtain ⟨ob0, hne, hq', rfl⟩ := hget i ob' hq
    have hB := (owns_mapO (g := g) B).1 hB
    obtain ⟨q1, q2, q3⟩ := h.rel.own i ob0 hq' B hB
    refine ⟨q1, q2, fun o => ?_⟩
    cases hi2 : I' B o with
    | none => rfl
    | some v =>
      rcases hout B o v hi2 with hb | hb
      · rw [q3] at hb; cases hb
      · exact (hne (h.rel.inj i id ob0 ob hq' hg B hB hb)).elim
  · obtain ⟨ob1, hn1, hq1, rfl⟩ := hget i o1 h1
    obtain ⟨ob2, hn2, hq2, rfl⟩ := hget i' o2 h2
    exact h.rel.inj i i' ob1 ob2 hq1 hq2 B ((owns_mapO B).1 hB) ((owns_mapO B).1 hB')

theorem St.frz (h : St E fr hp I ι a w) {id e sz : Nat} {xs : List El} (hg : getO hp id = some (.row e sz xs)) : ∃ I', St E (mapFr (fz id sz xs) fr) (mapHp (fz id sz xs) (delO hp id)) I' ι a w := by
  obtain ⟨vals', h1, h2, h3, h4⟩ := h.rel.obj _ _ hg
  have key : ∃ I', I.le I' ∧ Agr I' w ∧ (∀ b o v, I' b o = some v → I b o = some v ∨ owns w (ι id) (.row e sz xs) b) ∧ RC I' (ι id) (.sl sz xs) := by
    rcases h1.2 with ⟨hv, hn⟩ | ⟨g, cap, cur, hv, hbg, hgg, hnc, hcm, hcs, htake⟩
    · have : xs = [] := List.eq_nil_of_length_eq_zero hn
      subst this
      exact ⟨I, Im.le_refl I, h.agr, fun b o v hb => .inl hb, by rw [hv]; exact .emp _ _ _ (fun _ => rfl)⟩
    · have hbl : blockOf (ι id) = some g := by rw [hv]; rfl
      have hfree := (h.rel.own _ _ hg g (.inl hbl)).2.2
      have hmono : I.le (fun b o => if b = g then (if o < xs.length * sz then w.cell? ⟨g, o, none⟩ else none) else I b o) := fun b o v hb => by
        have : b ≠ g := by rintro rfl; rw [hfree] at hb; cases hb
        simp only [if_neg this]; exact hb
      refine ⟨fun b o => if b = g then (if o < xs.length * sz then w.cell? ⟨g, o, none⟩ else none) else I b o, hmono, fun b o v hb => ?_, fun b o v hb => ?_, ?_⟩
      · by_cases q : b = g
        · subst q
          simp only [if_true] at hb
          split at hb
          · exact hb
          · cases hb
        · simp only [if_neg q] at hb; exact h.agr b o v hb
      · by_cases q : b = g
        · subst q; exact .inr (.inl hbl)
        · simp only [if_neg q] at hb; exact .inl hb
      · rw [hv]
        refine .sl g 0 cap sz xs (fun i j => vals'.getD (i * sz + j) undef) hnc h4 (fun i e' he => h2 e' (List.mem_of_getElem? he)) (fun i j hi hj => ?_) (fun i j e' x he hx => ?_)
        · have hlt : i * sz + j < xs.length * sz := by
            have : (i + 1) * sz ≤ xs.length * sz := Nat.mul_le_mul_right _ hi
            rw [Nat.succ_mul] at this; omega
          simp only [Nat.zero_add, if_true, if_pos hlt]
          have hvl : i * sz + j < vals'.length := by rw [h1.1]; exact hlt
          have hc := h1.cells (g := g) (by rw [hv]; rfl) (i * sz + j) _ (List.getElem?_eq_getElem hvl)
          rw [Addr.add_lit, Nat.zero_add] at hc
          rw [hc, List.getD_eq_getElem?_getD, List.getElem?_eq_getElem hvl]
          rfl
        · have hel : e'.length = sz := h2 e' (List.mem_of_getElem? he)
          have hj : j < sz := by rw [← hel]; exact (List.getElem?_eq_some_iff.1 hx).1
          have hp : 0 < sz := by omega
          have hfl : xs.flatten[i * sz + j]? = some x := by
            rw [flat_get hp xs h2]
            have h4 : (i * sz + j) / sz = i := by
              rw [Nat.mul_comm, Nat.mul_add_div hp, Nat.div_eq_of_lt hj, Nat.add_zero]
            have h5 : (i * sz + j) % sz = j := by
              rw [Nat.mul_comm, Nat.mul_add_mod, Nat.mod_eq_of_lt hj]
            rw [h4, h5, he]; exact hx
          obtain ⟨u, hu, hR⟩ := h3.at _ _ hfl
          simp only [List.getD_eq_getElem?_getD, hu, Option.getD_some]
          exact hR.mono hmono
  obtain ⟨I', hi, hA, hout, hRC⟩ := key
  refine ⟨I', h.turn hg rfl hi hA hout fun x v hx => ?_⟩
  cases x with
  | rt i =>
    simp only [fz]
    cases e : i == id with
    | true => have : i = id := by simpa using e
              subst this; rw [show v = ι i from hx.1]; exact hRC
    | false => exact hx
  | sub s i lo n =>
    simp only [fz]
    cases e : i == id with
    | true =>
      have : i = id := by simpa using e
      subst this
      simp only [cond_true]
      cases e2 : s == sz with
      | false => trivial
      | true =>
        have : s = sz := by simpa using e2
        subst this
        obtain ⟨A, len, cap, q1, q2, q3⟩ := hx
        rw [q1] at hRC
        have hlen : len = xs.length := by
          obtain ⟨A', c', q⟩ := sl_form hRC
          simp at q; exact q.2.1
        subst hlen
        have := (RC.cut hRC (Nat.le_add_right lo n) q2 rfl).2.2
        rw [q3]; exact this
    | false => exact hx
  | el s i j o =>
    simp only [fz]
    cases e : i == id with
    | true => trivial
    | false => exact hx
  | _ => exact RV1.cong hx hi fun _ _ => rfl

theorem fnC_sound {f : FuncId} {vs : List Value} {caps : List Cap} (h : All2 (RCap I ι) vs caps) : RV1 I ι (.func (.func f) #[] vs.toArray) (fnC f caps) := by
  unfold fnC
  split
  · rename_i cs hc
    have hR := allC_sound h hc
    exact RC.fn f vs cs hR.len fun i x c hx hc => by
      obtain ⟨c', h1, h2⟩ := hR.at' i x hx
      rw [hc] at h1; cases h1; exact h2
  · exact ⟨vs, rfl, h⟩

theorem St.frzB (h : St E fr hp I ι a w) {id t : Nat} {l : List CV} (hg : getO hp id = some (.cells t l)) {cs : List C} (hd : allD l = some cs) : ∃ I', St E (mapFr (fb id cs) fr) (mapHp (fb id cs) (delO hp id)) I' ι a w := by
  obtain ⟨g, vs, hv, hgg, h3⟩ := h.rel.obj _ _ hg
  have hbl : blockOf (ι id) = some g := by rw [hv]; rfl
  have hfree := (h.rel.own _ _ hg g (.inl hbl)).2.2
  have hR := allD_sound h3 hd
  have hmono : I.le (fun b o => if b = g then w.cell? ⟨g, o, none⟩ else I b o) := fun b o v hb => by
    have : b ≠ g := by rintro rfl; rw [hfree] at hb; cases hb
    simp only [if_neg this]; exact hb
  have hcell : ∀ j, w.cell? ⟨g, j, none⟩ = vs[j]? := fun j => by rw [cell_of_row w g j _ t (0, 0) hgg]; simp
  have hptr : ∀ n, RC (fun b o => if b = g then w.cell? ⟨g, o, none⟩ else I b o) (.pointer (some ⟨g, n, none⟩)) (.ptr (cs.drop n)) := fun n => by
    refine .ptr g n _ (fun j => vs.getD (n + j) undef) (fun j hj => ?_) (fun j c hj => ?_)
    · simp only [if_true, hcell]
      have : n + j < vs.length := by rw [hR.len]; simp at hj; omega
      simp [List.getD_eq_getElem?_getD, List.getElem?_eq_getElem this]
    · rw [List.getElem?_drop] at hj
      obtain ⟨u, hu, hr⟩ := hR.at _ _ hj
      simp only [List.getD_eq_getElem?_getD, hu, Option.getD_some]
      exact hr.mono hmono
  refine ⟨_, h.turn hg rfl hmono (fun b o v hb => ?_) (fun b o v hb => ?_) fun x v hx => ?_⟩
  · by_cases q : b = g
    · subst q; simpa using hb
    · simp only [if_neg q] at hb; exact h.agr b o v hb
  · by_cases q : b = g
    · subst q; exact .inr (.inl hbl)
    · simp only [if_neg q] at hb; exact .inl hb
  · cases x with
    | ptr i off =>
      simp only [fb]
      cases e : i == id with
      | true =>
        have : i = id := by simpa using e
        subst this
        obtain ⟨B, h1, h2⟩ := hx
        rw [hv] at h1; simp at h1; subst h1
        rw [h2]; exact hptr off
      | false => exact hx
    | fn f caps =>
      obtain ⟨us, rfl, h2⟩ := hx
      refine fnC_sound (h2.map_ fun b c hr => ?_)
      cases c with
      | c y => exact hr.mono hmono
      | own i =>
        simp only
        cases e : i == id with
        | true =>
          have : i = id := by simpa using e
          subst this
          obtain ⟨B, h1, h2⟩ := hr
          rw [hv] at h1; simp at h1; subst h1
          rw [h2]
          have := hptr 0
          rw [List.drop_zero] at this
          exact this
        | false => exact hr
    | _ => exact RV1.cong hx hmono fun _ _ => rfl

end
end Go.Proofs.Ytajmjfdopminbaa.Sym
