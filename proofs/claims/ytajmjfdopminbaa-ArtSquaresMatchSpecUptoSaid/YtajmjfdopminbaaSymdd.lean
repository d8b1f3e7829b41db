/- Sym: contracts of the library's functions that take own rows and give own rows, as specs of lent rows. Conditions: none. -/
import Derived.Test.YtajmjfdopminbaaSymw
set_option linter.unusedVariables false
set_option linter.unusedSimpArgs false
namespace Go.Proofs.Ytajmjfdopminbaa.Sym
open Go Go.RowKit

theorem ownBlock_blockOf {v : Value} {w : World} {b e sz n : Nat} {xs : List Value} (h : w.ownsRow b e sz v n xs) : blockOf v = v.ownBlock := by
  rcases h.2 with ⟨rfl, _⟩ | ⟨g, cap, cur, rfl, _⟩ <;> rfl
theorem ownsRow_one {v : Value} {w : World} {b e sz n : Nat} {xs : List Value} (h : w.ownsRow b e sz v n xs) : v.oneCell' = true := by
  rcases h.2 with ⟨rfl, _⟩ | ⟨g, cap, cur, rfl, _⟩ <;> rfl
/-- What is to be shown of a call that gives an own row, made of the first row that was lent to it. -/
theorem row_post {I : Im} {ι : Lo} {w w' : World} {hin : Hp} {k e sz : Nat} {xs zs : List El} {v' : Value} {vals' : List Value} (hA : Agr I w) (hL : Lent I ι w hin) (h0 : getO hin 0 = some (.row e sz xs)) (hk : getO hin k = none)
    (hown : w'.ownsRow 0 e sz v' zs.length vals') (hg : w.grownBy w' (ι 0).ownBlock) (hat : v'.ownBlock = (ι 0).ownBlock ∨ v'.ownBlock = some w.heap.size) (hs : ∀ x ∈ zs, x.length = sz) (hR : RCs I vals' zs.flatten) (hl : zs.length ≤ lim) :
    Ext (LB w ι hin) I w I w' ∧ RV I (upd ι k v') v' (.t (.v (.rt k))) ∧ (∀ id ob, getO hin id = some ob → upd ι k v' id = ι id) ∧ Lent I (upd ι k v') w' [(k, .row e sz zs)] ∧ ∀ id ob B, getO [(k, Ob.row e sz zs)] id = some ob → owns w' (upd ι k v' id) ob B → w.heap.size ≤ B ∨ LB w ι hin B := by
  obtain ⟨vals, r1, r2, r3, r4⟩ := hL.obj 0 _ h0
  have hb0 := ownBlock_blockOf r1
  have hb1 := ownBlock_blockOf hown
  have hLB : ∀ B, (ι 0).ownBlock = some B → LB w ι hin B := fun B hB => ⟨0, _, h0, .inl (by rw [hb0]; exact hB)⟩
  have hI0 : ∀ B, (ι 0).ownBlock = some B → B < w.heap.size ∧ ∀ o, I B o = none := fun B hB => hL.own 0 _ h0 B (.inl (by rw [hb0]; exact hB))
  have hAgr : Agr I w' := fun b o v hb => by
    have hc := hA b o v hb
    have hbs : b < w.heap.size := by
      rcases Nat.lt_or_ge b w.heap.size with q | q
      · exact q
      · simp [World.cell?, Array.getElem?_eq_none q] at hc
    rw [cell_cong (hg.block b hbs fun e => by have := (hI0 b e.symm).2 o; rw [this] at hb; cases hb)]; exact hc
  have hget : ∀ id ob, getO [(k, Ob.row e sz zs)] id = some ob → id = k ∧ ob = .row e sz zs := fun id ob hgo => by
    unfold getO at hgo
    by_cases q : k = id
    · subst q
      simp at hgo
      exact ⟨rfl, hgo.symm⟩
    · have : (k == id) = false := by simpa using q
      rw [this] at hgo
      cases hgo
  have hupd : upd ι k v' k = v' := by simp [upd]
  have hown2 : ∀ B, blockOf v' = some B → (B < w'.heap.size ∧ ∀ o, I B o = none) ∧ (w.heap.size ≤ B ∨ LB w ι hin B) := fun B hB => by
    rw [hb1] at hB
    rcases hat with q | q
    · rw [q] at hB
      obtain ⟨q1, q2⟩ := hI0 B hB
      exact ⟨⟨Nat.lt_of_lt_of_le q1 hg.size, q2⟩, .inr (hLB B hB)⟩
    · rw [q] at hB
      cases hB
      refine ⟨⟨?_, hA.free (Nat.le_refl _)⟩, .inl (Nat.le_refl _)⟩
      rcases hown.2 with ⟨hn, _⟩ | ⟨g, cap, cur, hn, _, hh, _⟩
      · rw [hn] at q; cases q
      · rw [hn] at q
        cases q
        exact (Array.getElem?_eq_some_iff.1 hh).1
  refine ⟨⟨⟨hg.os, hg.tape, hg.output, hg.size, fun b hb hn => hg.block b hb fun e => hn (hLB b e.symm)⟩, Im.le_refl _, fun b o v hb => .inl hb, hAgr⟩, ⟨by rw [hupd], ownsRow_one hown⟩, fun id ob hgo => ?_, ⟨fun id ob hgo => ?_, fun id ob hgo B hB => ?_, fun id id' ob ob' h1 h2 B _ _ => ?_⟩, fun id ob B hgo hB => ?_⟩
  · have : id ≠ k := fun q => by rw [q, hk] at hgo; cases hgo
    simp [upd, this]
  · obtain ⟨rfl, rfl⟩ := hget _ _ hgo
    rw [hupd]
    exact ⟨_, hown, hs, hR, hl⟩
  · obtain ⟨rfl, rfl⟩ := hget _ _ hgo
    rw [hupd] at hB
    exact (hown2 B (owns_flat rfl hB)).1
  · obtain ⟨rfl, _⟩ := hget _ _ h1
    obtain ⟨rfl, _⟩ := hget _ _ h2
    rfl
  · obtain ⟨rfl, rfl⟩ := hget _ _ hgo
    rw [hupd] at hB
    exact (hown2 B (owns_flat rfl hB)).2

theorem flat_len' {sz : Nat} : ∀ {xs : List El}, (∀ x ∈ xs, x.length = sz) → xs.flatten.length = xs.length * sz
  | [], _ => by simp
  | x :: l, h => by
    have := flat_len' (xs := l) fun y hy => h y (List.mem_cons_of_mem _ hy)
    have := h x List.mem_cons_self
    rw [List.flatten_cons, List.length_append, List.length_cons, Nat.succ_mul]; omega
theorem flat_take {sz : Nat} : ∀ {xs : List El} (i : Nat), (∀ x ∈ xs, x.length = sz) → (xs.take i).flatten = xs.flatten.take (i * sz)
  | [], i, _ => by simp
  | x :: l, 0, _ => by simp
  | x :: l, i + 1, h => by
    have h0 := h x List.mem_cons_self
    have ih := flat_take (xs := l) i fun y hy => h y (List.mem_cons_of_mem _ hy)
    rw [List.take_succ_cons, List.flatten_cons, List.flatten_cons, ih, show (i + 1) * sz = x.length + i * sz by rw [h0, Nat.succ_mul]; omega, List.take_length_add_append]
theorem flat_drop {sz : Nat} {xs : List El} (i : Nat) (h : ∀ x ∈ xs, x.length = sz) : (xs.drop i).flatten = xs.flatten.drop (i * sz) := by
  have h1 := flat_take i h
  have h2 : xs.flatten = (xs.take i).flatten ++ (xs.drop i).flatten := by rw [← List.flatten_append, List.take_append_drop]
  by_cases hi : i ≤ xs.length
  · have hl : (xs.take i).flatten.length = i * sz := by
      rw [flat_len' (fun x hx => h x (List.mem_of_mem_take hx)), List.length_take, Nat.min_eq_left hi]
    rw [h2, ← hl, List.drop_left]
  · rw [List.drop_of_length_le (by omega)]
    have := flat_len' h
    rw [List.drop_of_length_le (by rw [this]; exact Nat.mul_le_mul_right _ (by omega))]
    rfl
theorem RCs.take {I : Im} {vs : List Value} {cs : List C} (h : RCs I vs cs) (i : Nat) : RCs I (vs.take i) (cs.take i) := by
  induction h generalizing i with
  | nil => simp; exact .nil
  | cons h1 h2 ih =>
    cases i with
    | zero => exact .nil
    | succ i => exact .cons h1 (ih i)
theorem RCs.drop {I : Im} {vs : List Value} {cs : List C} (h : RCs I vs cs) (i : Nat) : RCs I (vs.drop i) (cs.drop i) := by
  induction h generalizing i with
  | nil => simp; exact .nil
  | cons h1 h2 ih =>
    cases i with
    | zero => exact .cons h1 h2
    | succ i => exact ih i
theorem RCs.app {I : Im} {vs ws : List Value} {cs ds : List C} (h : RCs I vs cs) (k : RCs I ws ds) : RCs I (vs ++ ws) (cs ++ ds) := by
  induction h with
  | nil => exact k
  | cons h1 h2 ih => exact .cons h1 ih

/-- slices.Insert. -/
theorem Spec.insertRow {P : Program} {f e sz : Nat} (hc : callable P f)
    (h : ∀ (v u : Value) (n m i : Nat) (cs vs : List Value) (w : World), w.ownsRow 0 e sz v n cs → w.ownsRow 0 e sz u m vs → (∀ B, v.ownBlock = some B → u.ownBlock ≠ some B) → i ≤ n → 0 < m → n + m ≤ 1099511627776 → (∀ x ∈ cs, x.oneCell' = true) → (∀ x ∈ vs, x.oneCell' = true) →
      Calls P f #[v, .int .i64 i, u] w fun r w' => ∃ v', r = .returned v' ∧ w'.ownsRow 0 e sz v' (n + m) (cs.take (i * sz) ++ vs ++ cs.drop (i * sz)) ∧ w.grownBy w' v.ownBlock ∧ (v'.ownBlock = v.ownBlock ∨ v'.ownBlock = some w.heap.size))
    {xs ys : List El} {i : Int} (h0 : 0 ≤ i) (hi : i ≤ (xs.length : Int)) (hm : 0 < ys.length) (hl : xs.length + ys.length ≤ lim) :
    Spec P f [.v (.rt 0), .v (.c (.v (.int .i64 i))), .v (.rt 1)] [(0, .row e sz xs), (1, .row e sz ys)] (.t (.v (.rt 2))) [(2, .row e sz (xs.take i.toNat ++ ys ++ xs.drop i.toNat))] := by
  refine ⟨hc, fun I ι w vs hA hvs hL => ?_⟩
  cases hvs with
  | cons hv ht =>
  cases ht with
  | cons hv2 ht =>
  cases ht with
  | cons hv3 ht =>
  cases ht
  rename_i v iv u
  obtain ⟨rfl, _⟩ := hv
  obtain ⟨rfl, _⟩ := hv3
  have hiv : iv = .int .i64 i := by
    have : RC I iv (.v (.int .i64 i)) := hv2
    cases this; rfl
  subst hiv
  obtain ⟨vals, r1, r2, r3, r4⟩ := hL.obj 0 _ rfl
  obtain ⟨wals, s1, s2, s3, s4⟩ := hL.obj 1 _ rfl
  have hlim : lim = 1099511627776 := rfl
  have hne : ∀ B, (ι 0).ownBlock = some B → (ι 1).ownBlock ≠ some B := fun B hB hB' => by
    have := hL.inj 0 1 _ _ rfl rfl B (.inl (by rw [ownBlock_blockOf r1]; exact hB)) (.inl (by rw [ownBlock_blockOf s1]; exact hB'))
    cases this
  have hcall := h (ι 0) (ι 1) xs.length ys.length i.toNat vals wals w r1 s1 hne (by omega) hm (by omega) r3.one s3.one
  rw [show ((i.toNat : Nat) : Int) = i from Int.toNat_of_nonneg h0] at hcall
  refine hcall.mono fun r w' ⟨v', q1, q2, q3, q4⟩ => ?_
  have hz : ∀ x ∈ xs.take i.toNat ++ ys ++ xs.drop i.toNat, x.length = sz := fun x hx => by
    rcases List.mem_append.1 hx with hx | hx
    · rcases List.mem_append.1 hx with hx | hx
      · exact r2 x (List.mem_of_mem_take hx)
      · exact s2 x hx
    · exact r2 x (List.mem_of_mem_drop hx)
  have hlen : (xs.take i.toNat ++ ys ++ xs.drop i.toNat).length = xs.length + ys.length := by
    rw [List.length_append, List.length_append, List.length_take, List.length_drop]; omega
  have hR : RCs I (vals.take (i.toNat * sz) ++ wals ++ vals.drop (i.toNat * sz)) (xs.take i.toNat ++ ys ++ xs.drop i.toNat).flatten := by
    rw [List.flatten_append, List.flatten_append, flat_take _ r2, flat_drop _ r2]
    exact ((r3.take _).app s3).app (r3.drop _)
  obtain ⟨p1, p2, p3, p4, p5⟩ := row_post (k := 2) hA hL rfl rfl (by rw [hlen]; exact q2) q3 q4 hz hR (by omega)
  exact ⟨v', I, upd ι 2 v', q1, p1, p2, p3, p4, p5⟩

/-- slices.Delete. -/
theorem Spec.deleteRow {P : Program} {f e sz : Nat} (hc : callable P f)
    (h : ∀ (v : Value) (n i j : Nat) (cs : List Value) (w : World), w.ownsRow 0 e sz v n cs → i < j → j ≤ n → (∀ x ∈ cs, x.oneCell' = true) →
      Calls P f #[v, .int .i64 i, .int .i64 j] w fun r w' => ∃ v', r = .returned v' ∧ w'.ownsRow 0 e sz v' (i + (n - j)) (cs.take (i * sz) ++ cs.drop (j * sz)) ∧ w.grownBy w' v.ownBlock ∧ v'.ownBlock = v.ownBlock)
    {xs : List El} {i j : Int} (h0 : 0 ≤ i) (hij : i < j) (hj : j ≤ (xs.length : Int)) :
    Spec P f [.v (.rt 0), .v (.c (.v (.int .i64 i))), .v (.c (.v (.int .i64 j)))] [(0, .row e sz xs)] (.t (.v (.rt 1))) [(1, .row e sz (xs.take i.toNat ++ xs.drop j.toNat))] := by
  refine ⟨hc, fun I ι w vs hA hvs hL => ?_⟩
  cases hvs with
  | cons hv ht =>
  cases ht with
  | cons hv2 ht =>
  cases ht with
  | cons hv3 ht =>
  cases ht
  rename_i v iv jv
  obtain ⟨rfl, _⟩ := hv
  have hiv : iv = .int .i64 i := by
    have : RC I iv (.v (.int .i64 i)) := hv2
    cases this; rfl
  have hjv : jv = .int .i64 j := by
    have : RC I jv (.v (.int .i64 j)) := hv3
    cases this; rfl
  subst hiv hjv
  obtain ⟨vals, r1, r2, r3, r4⟩ := hL.obj 0 _ rfl
  have hcall := h (ι 0) xs.length i.toNat j.toNat vals w r1 (by omega) (by omega) r3.one
  rw [show ((i.toNat : Nat) : Int) = i from Int.toNat_of_nonneg h0, show ((j.toNat : Nat) : Int) = j from Int.toNat_of_nonneg (by omega)] at hcall
  refine hcall.mono fun r w' ⟨v', q1, q2, q3, q4⟩ => ?_
  have hz : ∀ x ∈ xs.take i.toNat ++ xs.drop j.toNat, x.length = sz := fun x hx => by
    rcases List.mem_append.1 hx with hx | hx
    · exact r2 x (List.mem_of_mem_take hx)
    · exact r2 x (List.mem_of_mem_drop hx)
  have hlen : (xs.take i.toNat ++ xs.drop j.toNat).length = i.toNat + (xs.length - j.toNat) := by
    rw [List.length_append, List.length_take, List.length_drop]; omega
  have hR : RCs I (vals.take (i.toNat * sz) ++ vals.drop (j.toNat * sz)) (xs.take i.toNat ++ xs.drop j.toNat).flatten := by
    rw [List.flatten_append, flat_take _ r2, flat_drop _ r2]
    exact (r3.take _).app (r3.drop _)
  obtain ⟨p1, p2, p3, p4, p5⟩ := row_post (k := 1) hA hL rfl rfl (by rw [hlen]; exact q2) q3 (.inl q4) hz hR (by rw [hlen]; omega)
  exact ⟨v', I, upd ι 1 v', q1, p1, p2, p3, p4, p5⟩

/-- An own row that a call gives, taken as data. -/
theorem Spec.data {P : Program} {f k e sz : Nat} {args : List TV} {hin : Hp} {xs : List El} (h : Spec P f args hin (.t (.v (.rt k))) [(k, .row e sz xs)]) : Spec P f args hin (.t (.v (.c (.sl sz xs)))) [] := by
  refine ⟨h.1, fun I ι w vs hA hvs hL => (h.2 I ι w vs hA hvs hL).mono fun r w' ⟨v, I', ι', h1, h2, h3, h4, h5, h6⟩ => ?_⟩
  obtain ⟨hb, hle, hout, hagr⟩ := h2
  have hgk : getO [(k, Ob.row e sz xs)] k = some (.row e sz xs) := by simp [getO]
  have hrow := h5.obj k _ hgk
  obtain ⟨rfl, h3'⟩ := h3
  have hown : ∀ b, blockOf (ι' k) = some b → (∀ o, I' b o = none) ∧ (w.heap.size ≤ b ∨ LB w ι hin b) := fun b hb' => ⟨(h5.own k _ hgk b (.inl hb')).2, h6 k _ b hgk (.inl hb')⟩
  have hJ : ∀ b o u, I' b o = some u → (if blockOf (ι' k) = some b then w'.cell? ⟨b, o, none⟩ else I' b o) = some u := fun b o u hu => by
    by_cases q : blockOf (ι' k) = some b
    · rw [(hown b q).1 o] at hu; cases hu
    · rw [if_neg q]; exact hu
  refine ⟨ι' k, fun b o => if blockOf (ι' k) = some b then w'.cell? ⟨b, o, none⟩ else I' b o, ι', h1, ⟨hb, fun b o u hu => hJ b o u (hle b o u hu), fun b o u hu => ?_, fun b o u hu => ?_⟩, ?_, h4, ⟨fun id ob hg => (by cases hg), fun id ob hg => (by cases hg), fun id id' ob ob' hg => (by cases hg)⟩, fun id ob B hg => (by cases hg)⟩
  · by_cases q : blockOf (ι' k) = some b
    · exact .inr (hown b q).2
    · simp only [if_neg q] at hu
      exact hout b o u hu
  · by_cases q : blockOf (ι' k) = some b
    · simp only [if_pos q] at hu; exact hu
    · simp only [if_neg q] at hu; exact hagr b o u hu
  · exact RRow.asC hrow (fun b o u hu => hJ b o u hu) fun g hg o u hu => by rw [if_pos hg]; exact hu
end Go.Proofs.Ytajmjfdopminbaa.Sym
