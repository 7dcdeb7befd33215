/- Plain law: what valleys are alive, and which places are joined. No program in sight. -/
import Derived.Test.YtfdmphgbodmkpaaCSVal2
set_option linter.unusedVariables false
set_option linter.unusedSimpArgs false
namespace Go.Proofs.Ytfdmphgbodmkpaa
open Go Go.SL

/-- Joined by steps within a set. -/
inductive Con (nr : Nat → List Nat) (A : Nat → Prop) (p : Nat) : Nat → Prop
  | base (h : A p) : Con nr A p p
  | step {q r : Nat} (h : Con nr A p q) (hn : r ∈ nr q) (ha : A r) : Con nr A p r
section
variable {nr : Nat → List Nat} {A : Nat → Prop}
theorem Con.l {p q : Nat} (h : Con nr A p q) : A p := by induction h with | base h => exact h | step _ _ _ ih => exact ih
theorem Con.r {p q : Nat} (h : Con nr A p q) : A q := by cases h with | base h => exact h | step _ _ ha => exact ha
theorem Con.trans {p q r : Nat} (h : Con nr A p q) (k : Con nr A q r) : Con nr A p r := by
  induction k with
  | base _ => exact h
  | step _ hn ha ih => exact .step ih hn ha
theorem Con.symm (hs : ∀ i j, A i → A j → j ∈ nr i → i ∈ nr j) {p q : Nat} (h : Con nr A p q) : Con nr A q p := by
  induction h with
  | base h => exact .base h
  | step h hn ha ih => exact (Con.step (.base ha) (hs _ _ h.r ha hn) h.r).trans ih
theorem Con.mono {B : Nat → Prop} (hAB : ∀ x, A x → B x) {p q : Nat} (h : Con nr A p q) : Con nr B p q := by
  induction h with
  | base h => exact .base (hAB _ h)
  | step _ hn ha ih => exact .step ih hn (hAB _ ha)
theorem Con.congr {B : Nat → Prop} (hAB : ∀ x, A x ↔ B x) {p q : Nat} : Con nr A p q ↔ Con nr B p q := ⟨fun h => h.mono fun x => (hAB x).1, fun h => h.mono fun x => (hAB x).2⟩
end

/-- What holds of the valleys when the places l have been added. -/
structure Inv2 (num : Nat → Int) (nr : Nat → List Nat) (l : List Nat) (st : VSt) : Prop where
  no : ∀ q, st.of q = none ↔ q ∉ l
  lt : ∀ q v, st.of q = some v → v < st.vs.length
  alive : ∀ (v : Nat) (e : Int × Nat × Int), st.vs[v]? = some e → (e.2.2 = -1 ↔ ∃ q, st.of q = some v)
  con : ∀ p q, p ∈ l → q ∈ l → (st.of p = st.of q ↔ Con nr (· ∈ l) p q)
  born : ∀ (v : Nat) (e : Int × Nat × Int), st.vs[v]? = some e → e.1 = num e.2.1 ∧ e.2.1 ∈ l
  dies : ∀ (v : Nat) (e : Int × Nat × Int), st.vs[v]? = some e → e.2.2 = -1 ∨ ∃ j, j ∈ l ∧ e.2.2 = num j
  zero : l ≠ [] → ∃ q, st.of q = some 0
section
variable {num : Nat → Int} {nr : Nat → List Nat} {l : List Nat} {st : VSt} {i : Nat}
theorem Inv2.own (h : Inv2 num nr l st) {q : Nat} (hq : q ∈ l) : ∃ v, st.of q = some v := by
  rcases e : st.of q with _ | v
  · exact absurd hq ((h.no q).1 e)
  · exact ⟨v, rfl⟩
theorem Inv2.mem (h : Inv2 num nr l st) {q v : Nat} (hq : st.of q = some v) : q ∈ l := by
  rcases Decidable.em (q ∈ l) with k | k
  · exact k
  · rw [(h.no q).2 k] at hq; cases hq
theorem Inv2.start : Inv2 num nr [] startV where
  no := fun q => by simp [startV]
  lt := fun q v h => by simp [startV] at h
  alive := fun v e h => by simp [startV] at h
  con := fun p q hp => by simp at hp
  born := fun v e h => by simp [startV] at h
  dies := fun v e h => by simp [startV] at h
  zero := fun h => absurd rfl h

def Touch (nr : Nat → List Nat) (l : List Nat) (i q : Nat) : Prop := ∃ r, r ∈ nr i ∧ r ∈ l ∧ Con nr (· ∈ l) q r
theorem con_add (hs : ∀ a b, a ∈ l ++ [i] → b ∈ l ++ [i] → b ∈ nr a → a ∈ nr b) (hi : i ∉ l) {p x : Nat} (h : Con nr (· ∈ l ++ [i]) p x) :
    (p ∈ l ∧ x ∈ l ∧ (Con nr (· ∈ l) p x ∨ Touch nr l i p ∧ Touch nr l i x)) ∨ (x = i ∧ (p = i ∨ p ∈ l ∧ Touch nr l i p)) ∨ (p = i ∧ x ∈ l ∧ Touch nr l i x) := by
  have hsl : ∀ a b, a ∈ l → b ∈ l → b ∈ nr a → a ∈ nr b := fun a b ha hb => hs a b (List.mem_append_left _ ha) (List.mem_append_left _ hb)
  induction h with
  | base h =>
    rcases List.mem_append.1 h with h | h
    · exact .inl ⟨h, h, .inl (.base h)⟩
    · rw [List.mem_singleton] at h; exact .inr (.inl ⟨h, .inl h⟩)
  | @step q r h hn ha ih =>
    rcases List.mem_append.1 ha with hr | hr
    · -- a step to an old place
      rcases ih with ⟨hp, hq, ih⟩ | ⟨rfl, ih⟩ | ⟨rfl, hq, ih⟩
      · refine .inl ⟨hp, hr, ?_⟩
        rcases ih with ih | ⟨t1, t2⟩
        · exact .inl (.step ih hn hr)
        · obtain ⟨z, z1, z2, z3⟩ := t2
          refine .inr ⟨t1, z, z1, z2, ?_⟩
          exact (Con.step (.base hr) (hsl _ _ hq hr hn) hq).trans z3
      · have tr : Touch nr l q r := ⟨r, hn, hr, .base hr⟩
        rcases ih with rfl | ⟨hp, t1⟩
        · exact .inr (.inr ⟨rfl, hr, tr⟩)
        · exact .inl ⟨hp, hr, .inr ⟨t1, tr⟩⟩
      · obtain ⟨z, z1, z2, z3⟩ := ih
        exact .inr (.inr ⟨rfl, hr, z, z1, z2, (Con.step (.base hr) (hsl _ _ hq hr hn) hq).trans z3⟩)
    · rw [List.mem_singleton] at hr
      subst hr
      refine .inr (.inl ⟨rfl, ?_⟩)
      rcases ih with ⟨hp, hq, ih⟩ | ⟨rfl, ih⟩ | ⟨rfl, hq, ih⟩
      · refine .inr ⟨hp, ?_⟩
        rcases ih with ih | ⟨t1, _⟩
        · exact ⟨q, hs _ _ (List.mem_append_left _ hq) ha hn, hq, ih⟩
        · exact t1
      · exact ih
      · exact .inl rfl
theorem touch_con {p : Nat} (hs : ∀ a b, a ∈ l ++ [i] → b ∈ l ++ [i] → b ∈ nr a → a ∈ nr b) (t : Touch nr l i p) : Con nr (· ∈ l ++ [i]) p i := by
  obtain ⟨r, h1, h2, h3⟩ := t
  have hi : i ∈ l ++ [i] := by simp
  exact .step (h3.mono fun x hx => List.mem_append_left _ hx) (hs i r hi (List.mem_append_left _ h2) h1) hi
theorem con_add' (hs : ∀ a b, a ∈ l ++ [i] → b ∈ l ++ [i] → b ∈ nr a → a ∈ nr b) {p x : Nat} (h : Con nr (· ∈ l) p x ∨ Touch nr l i p ∧ Touch nr l i x) : Con nr (· ∈ l ++ [i]) p x := by
  rcases h with h | ⟨h1, h2⟩
  · exact h.mono fun x hx => List.mem_append_left _ hx
  · exact (touch_con hs h1).trans ((touch_con hs h2).symm hs)

theorem Inv2.step (h : Inv2 num nr l st) (hs : ∀ a b, a ∈ l ++ [i] → b ∈ l ++ [i] → b ∈ nr a → a ∈ nr b) (hi : i ∉ l) (h0 : 0 ≤ num i) : Inv2 num nr (l ++ [i]) (stepV num nr st i) := by
  have hio : st.of i = none := (h.no i).2 hi
  have hsl : ∀ a b, a ∈ l → b ∈ l → b ∈ nr a → a ∈ nr b := fun a b ha hb => hs a b (List.mem_append_left _ ha) (List.mem_append_left _ hb)
  -- touching is having a root's valley
  have touch : ∀ {p v : Nat}, st.of p = some v → (Touch nr l i p ↔ v ∈ roots st (nr i)) := by
    intro p v hp
    rw [roots_mem]
    constructor
    · rintro ⟨r, h1, h2, h3⟩
      exact ⟨r, h1, by rw [← (h.con p r (h.mem hp) h2).2 h3]; exact hp⟩
    · rintro ⟨r, h1, h2⟩
      exact ⟨r, h1, h.mem h2, (h.con p r (h.mem hp) (h.mem h2)).1 (by rw [hp, h2])⟩
  have hpl : ∀ {p : Nat}, p ∈ l → p ≠ i := fun hp e => hi (e ▸ hp)
  unfold stepV
  split
  · rename_i hR
    have noT : ∀ p, p ∈ l → ¬ Touch nr l i p := fun p hp t => by
      obtain ⟨v, hv⟩ := h.own hp
      have := (touch hv).1 t
      rw [hR] at this; cases this
    refine ⟨fun q => ?_, fun q v hv => ?_, fun v e he => ?_, fun p q hp hq => ?_, fun v e he => ?_, fun v e he => ?_, fun _ => ?_⟩
    · show (if q = i then some st.vs.length else st.of q) = none ↔ _
      rw [List.mem_append, List.mem_singleton]
      split
      · rename_i e; simp [e]
      · rename_i e; rw [h.no q]; simp [e]
    · have hv : (if q = i then some st.vs.length else st.of q) = some v := hv
      show v < (st.vs ++ [_]).length
      rw [List.length_append, List.length_singleton]
      split at hv
      · cases hv; omega
      · have := h.lt q v hv; omega
    · have he : (st.vs ++ [(num i, i, (-1 : Int))])[v]? = some e := he
      show _ ↔ ∃ q, (if q = i then some st.vs.length else st.of q) = some v
      by_cases hvl : v < st.vs.length
      · rw [List.getElem?_append_left hvl] at he
        rw [h.alive v e he]
        constructor
        · rintro ⟨q, hq⟩
          exact ⟨q, by rw [if_neg (hpl (h.mem hq))]; exact hq⟩
        · rintro ⟨q, hq⟩
          split at hq
          · cases hq; omega
          · exact ⟨q, hq⟩
      · have : v = st.vs.length := by
          have := (List.getElem?_eq_some_iff.1 he).1
          rw [List.length_append, List.length_singleton] at this; omega
        subst this
        rw [List.getElem?_append_right (Nat.le_refl _), Nat.sub_self, List.getElem?_cons_zero, Option.some.injEq] at he
        subst he
        exact ⟨fun _ => ⟨i, by rw [if_pos rfl]⟩, fun _ => rfl⟩
    · show ((if p = i then some st.vs.length else st.of p) = if q = i then some st.vs.length else st.of q) ↔ _
      rw [List.mem_append, List.mem_singleton] at hp hq
      rcases hp with hp | rfl
      · rcases hq with hq | rfl
        · rw [if_neg (hpl hp), if_neg (hpl hq), h.con p q hp hq]
          constructor
          · exact fun k => con_add' hs (.inl k)
          · intro k
            rcases con_add hs hi k with ⟨_, _, k | ⟨t, _⟩⟩ | ⟨rfl, _⟩ | ⟨rfl, _⟩
            · exact k
            · exact absurd t (noT p hp)
            · exact absurd hq hi
            · exact absurd hp hi
        · rw [if_neg (hpl hp), if_pos rfl]
          constructor
          · intro k
            have := h.lt _ _ k; omega
          · intro k
            rcases con_add hs hi k with ⟨_, k, _⟩ | ⟨_, rfl | ⟨_, t⟩⟩ | ⟨rfl, _⟩
            · exact absurd k hi
            · exact absurd hp hi
            · exact absurd t (noT p hp)
            · exact absurd hp hi
      · rcases hq with hq | rfl
        · rw [if_neg (hpl hq), if_pos rfl]
          constructor
          · intro k
            have := h.lt _ _ k.symm; omega
          · intro k
            rcases con_add hs hi k with ⟨k, _, _⟩ | ⟨rfl, _⟩ | ⟨_, _, t⟩
            · exact absurd k hi
            · exact absurd hq hi
            · exact absurd t (noT q hq)
        · exact ⟨fun _ => .base (by simp), fun _ => rfl⟩
    · have he : (st.vs ++ [(num i, i, (-1 : Int))])[v]? = some e := he
      by_cases hvl : v < st.vs.length
      · rw [List.getElem?_append_left hvl] at he
        exact ⟨(h.born v e he).1, List.mem_append_left _ (h.born v e he).2⟩
      · have : v = st.vs.length := by
          have := (List.getElem?_eq_some_iff.1 he).1
          rw [List.length_append, List.length_singleton] at this; omega
        subst this
        rw [List.getElem?_append_right (Nat.le_refl _), Nat.sub_self, List.getElem?_cons_zero, Option.some.injEq] at he
        subst he
        exact ⟨rfl, by simp⟩
    · have he : (st.vs ++ [(num i, i, (-1 : Int))])[v]? = some e := he
      by_cases hvl : v < st.vs.length
      · rw [List.getElem?_append_left hvl] at he
        exact (h.dies v e he).imp id fun ⟨j, a, b⟩ => ⟨j, List.mem_append_left _ a, b⟩
      · have : v = st.vs.length := by
          have := (List.getElem?_eq_some_iff.1 he).1
          rw [List.length_append, List.length_singleton] at this; omega
        subst this
        rw [List.getElem?_append_right (Nat.le_refl _), Nat.sub_self, List.getElem?_cons_zero, Option.some.injEq] at he
        subst he
        exact .inl rfl
    · show ∃ q, (if q = i then some st.vs.length else st.of q) = some 0
      by_cases hl : l = []
      · refine ⟨i, ?_⟩
        rw [if_pos rfl]
        rcases Nat.eq_zero_or_pos st.vs.length with k | k
        · rw [k]
        · have := (h.born 0 _ (List.getElem?_eq_getElem k)).2
          rw [hl] at this; cases this
      · obtain ⟨q, hq⟩ := h.zero hl
        exact ⟨q, by rw [if_neg (hpl (h.mem hq))]; exact hq⟩
  · rename_i hR
    obtain ⟨hs1, hs2⟩ := minL_mem hR
    generalize hsd : minL (roots st (nr i)) = s at hs1 hs2
    generalize hRd : roots st (nr i) = R at hs1 hs2 touch
    have hRa : ∀ v, v ∈ R → ∃ q, st.of q = some v := fun v hv => by
      rw [← hRd] at hv
      obtain ⟨q, _, hq⟩ := roots_mem.1 hv
      exact ⟨q, hq⟩
    -- the new owner
    have of' : ∀ q, (addV (mergeV st s R (num i)) s i).of q = if q = i then some s else (st.of q).map fun v => if v ∈ R then s else v := fun q => rfl
    have ofl : ∀ {q v : Nat}, st.of q = some v → (addV (mergeV st s R (num i)) s i).of q = some (if v ∈ R then s else v) := fun hq => by
      rw [of', if_neg (hpl (h.mem hq)), hq]; rfl
    have ofi : (addV (mergeV st s R (num i)) s i).of i = some s := by rw [of', if_pos rfl]
    have vs' : (addV (mergeV st s R (num i)) s i).vs = st.vs.mapIdx fun v e => if v ∈ R ∧ v ≠ s then (e.1, e.2.1, num i) else e := rfl
    have vsg : ∀ {v : Nat} {e : Int × Nat × Int}, (addV (mergeV st s R (num i)) s i).vs[v]? = some e → ∃ e0, st.vs[v]? = some e0 ∧ e = if v ∈ R ∧ v ≠ s then (e0.1, e0.2.1, num i) else e0 := fun he => by
      rw [vs', List.getElem?_mapIdx] at he
      obtain ⟨e0, h1, h2⟩ := Option.map_eq_some_iff.1 he
      exact ⟨e0, h1, h2.symm⟩
    refine ⟨fun q => ?_, fun q v hv => ?_, fun v e he => ?_, fun p q hp hq => ?_, fun v e he => ?_, fun v e he => ?_, fun _ => ?_⟩
    · rw [of', List.mem_append, List.mem_singleton]
      split
      · rename_i e; simp [e]
      · rename_i e; rw [Option.map_eq_none_iff, h.no q]; simp [e]
    · rw [vs', List.length_mapIdx]
      have hsl' : s < st.vs.length := by obtain ⟨q0, hq0⟩ := hRa s hs1; exact h.lt q0 s hq0
      rw [of'] at hv
      split at hv
      · cases hv; exact hsl'
      · obtain ⟨u, hu, rfl⟩ := Option.map_eq_some_iff.1 hv
        split
        · exact hsl'
        · exact h.lt q u hu
    · obtain ⟨e0, he0, rfl⟩ := vsg he
      have ha := h.alive v e0 he0
      split
      · rename_i hv
        constructor
        · intro k
          have k : num i = -1 := k
          omega
        · rintro ⟨q, hq⟩
          rw [of'] at hq
          split at hq
          · cases hq; exact absurd rfl hv.2
          · obtain ⟨u, hu, k⟩ := Option.map_eq_some_iff.1 hq
            split at k
            · exact absurd k.symm hv.2
            · rename_i hu2
              subst k; exact absurd hv.1 hu2
      · rename_i hv
        rw [ha]
        constructor
        · rintro ⟨q, hq⟩
          by_cases hvR : v ∈ R
          · have hvs : v = s := Decidable.not_not.1 fun k => hv ⟨hvR, k⟩
            exact ⟨i, by rw [hvs]; exact ofi⟩
          · exact ⟨q, by rw [ofl hq, if_neg hvR]⟩
        · rintro ⟨q, hq⟩
          rw [of'] at hq
          split at hq
          · cases hq; exact hRa _ hs1
          · obtain ⟨u, hu, k⟩ := Option.map_eq_some_iff.1 hq
            split at k
            · subst k; exact hRa _ hs1
            · subst k; exact ⟨q, hu⟩
    · rw [List.mem_append, List.mem_singleton] at hp hq
      rcases hp with hp | rfl
      · obtain ⟨u, hu⟩ := h.own hp
        have tu := touch hu
        rcases hq with hq | rfl
        · obtain ⟨v, hv⟩ := h.own hq
          have tv := touch hv
          rw [ofl hu, ofl hv]
          have base := h.con p q hp hq
          rw [hu, hv] at base
          have key : Con nr (· ∈ l ++ [i]) p q ↔ (u = v ∨ u ∈ R ∧ v ∈ R) := by
            constructor
            · intro k
              rcases con_add hs hi k with ⟨_, _, k | ⟨t1, t2⟩⟩ | ⟨rfl, _⟩ | ⟨rfl, _⟩
              · exact .inl (Option.some.inj (base.2 k))
              · exact .inr ⟨tu.1 t1, tv.1 t2⟩
              · exact absurd hq hi
              · exact absurd hp hi
            · rintro (rfl | ⟨k1, k2⟩)
              · exact con_add' hs (.inl (base.1 rfl))
              · exact con_add' hs (.inr ⟨tu.2 k1, tv.2 k2⟩)
          rw [key, Option.some.injEq]
          by_cases k1 : u ∈ R
          · rw [if_pos k1]
            by_cases k2 : v ∈ R
            · rw [if_pos k2]; exact ⟨fun _ => .inr ⟨k1, k2⟩, fun _ => rfl⟩
            · rw [if_neg k2]
              constructor
              · rintro rfl; exact absurd hs1 k2
              · rintro (rfl | ⟨_, k⟩)
                · exact absurd k1 k2
                · exact absurd k k2
          · rw [if_neg k1]
            by_cases k2 : v ∈ R
            · rw [if_pos k2]
              constructor
              · rintro rfl; exact absurd hs1 k1
              · rintro (rfl | ⟨k, _⟩)
                · exact absurd k2 k1
                · exact absurd k k1
            · rw [if_neg k2]
              exact ⟨.inl, fun k => k.elim id fun k => absurd k.1 k1⟩
        · rw [ofl hu, ofi, Option.some.injEq]
          constructor
          · intro k
            have : u ∈ R := by
              split at k
              · rename_i k1; exact k1
              · subst k; exact hs1
            exact touch_con hs (tu.2 this)
          · intro k
            rcases con_add hs hi k with ⟨_, k, _⟩ | ⟨_, rfl | ⟨_, t⟩⟩ | ⟨rfl, _⟩
            · exact absurd k hi
            · exact absurd hp hi
            · rw [if_pos (tu.1 t)]
            · exact absurd hp hi
      · rcases hq with hq | rfl
        · obtain ⟨v, hv⟩ := h.own hq
          have tv := touch hv
          rw [ofl hv, ofi, Option.some.injEq]
          constructor
          · intro k
            have : v ∈ R := by
              split at k
              · rename_i k1; exact k1
              · subst k; exact hs1
            exact (touch_con hs (tv.2 this)).symm hs
          · intro k
            rcases con_add hs hi k with ⟨k, _, _⟩ | ⟨rfl, _⟩ | ⟨_, _, t⟩
            · exact absurd k hi
            · exact absurd hq hi
            · rw [if_pos (tv.1 t)]
        · exact ⟨fun _ => .base (by simp), fun _ => rfl⟩
    · obtain ⟨e0, he0, rfl⟩ := vsg he
      have := h.born v e0 he0
      split
      · exact ⟨this.1, List.mem_append_left _ this.2⟩
      · exact ⟨this.1, List.mem_append_left _ this.2⟩
    · obtain ⟨e0, he0, rfl⟩ := vsg he
      split
      · exact .inr ⟨i, by simp, rfl⟩
      · exact (h.dies v e0 he0).imp id fun ⟨j, a, b⟩ => ⟨j, List.mem_append_left _ a, b⟩
    · by_cases hl : l = []
      · exfalso
        obtain ⟨q, hq⟩ := hRa s hs1
        have := h.mem hq
        rw [hl] at this; cases this
      · obtain ⟨q, hq⟩ := h.zero hl
        refine ⟨q, ?_⟩
        rw [ofl hq]
        split
        · rename_i k
          have := hs2 0 k
          rw [Nat.le_zero.1 this]
        · rfl
end
end Go.Proofs.Ytfdmphgbodmkpaa
