/- Plain law, continued: how many valleys are alive at a level. No program in sight. -/
import Derived.Test.YtfdmphgbodmkpaaPComp
import Derived.Test.YtfdmphgbodmkpaaPVal2
set_option linter.unusedVariables false
set_option linter.unusedSimpArgs false
namespace Go.Proofs.Ytfdmphgbodmkpaa
open Go Go.SL

section
variable {num : Nat → Int} {nr : Nat → List Nat}
theorem inv2_run {l : List Nat} (hs : ∀ a b, a ∈ l → b ∈ l → b ∈ nr a → a ∈ nr b) (hn : l.Nodup) (h0 : ∀ q ∈ l, 0 ≤ num q) : Inv2 num nr l (runV num nr l) := by
  have key : ∀ (l pre : List Nat) (st : VSt), (∀ a b, a ∈ pre ++ l → b ∈ pre ++ l → b ∈ nr a → a ∈ nr b) → (pre ++ l).Nodup → (∀ q ∈ pre ++ l, 0 ≤ num q) → Inv2 num nr pre st → Inv2 num nr (pre ++ l) (l.foldl (stepV num nr) st) := by
    intro l
    induction l with
    | nil => intro pre st _ _ _ h; simpa using h
    | cons i l ih =>
      intro pre st hs hn h0 h
      rw [List.foldl_cons]
      have e1 : pre ++ i :: l = (pre ++ [i]) ++ l := by simp
      rw [e1] at hs hn h0 ⊢
      refine ih (pre ++ [i]) _ hs hn h0 (h.step (fun a b ha hb => hs a b (List.mem_append_left _ ha) (List.mem_append_left _ hb)) ?_ (h0 i (by simp)))
      have := (List.nodup_append.1 (List.nodup_append.1 hn).1).2.2
      intro hi
      exact this i hi i (by simp) rfl
  have := key l [] startV (by simpa using hs) (by simpa using hn) (by simpa using h0) .start
  unfold runV
  simpa using this

/-- What later steps leave of the valleys. -/
structure Evo (lv : Int) (a b : List (Int × Nat × Int)) : Prop where
  old : ∀ (v : Nat) (e : Int × Nat × Int), a[v]? = some e → ∃ d, b[v]? = some (e.1, e.2.1, d) ∧ (e.2.2 ≠ -1 → d = e.2.2) ∧ (e.2.2 = -1 → d = -1 ∨ lv < d)
  new : ∀ (v : Nat) (e : Int × Nat × Int), a.length ≤ v → b[v]? = some e → lv < e.1
theorem Evo.refl {lv : Int} {a : List (Int × Nat × Int)} : Evo lv a a :=
  ⟨fun v e h => ⟨e.2.2, h, fun _ => rfl, fun h => .inl h⟩, fun v e hv h => by have := (List.getElem?_eq_some_iff.1 h).1; omega⟩
theorem Evo.trans {lv : Int} {a b c : List (Int × Nat × Int)} (h0 : -1 ≤ lv) (h : Evo lv a b) (k : Evo lv b c) : Evo lv a c := by
  refine ⟨fun v e he => ?_, fun v e hv he => ?_⟩
  · obtain ⟨d, h1, h2, h3⟩ := h.old v e he
    obtain ⟨d', k1, k2, k3⟩ := k.old v _ h1
    simp only at k1 k2 k3
    refine ⟨d', k1, fun hn => ?_, fun hn => ?_⟩
    · have e1 := h2 hn
      rw [k2 (by rw [e1]; exact hn), e1]
    · rcases h3 hn with e1 | e1
      · exact k3 e1
      · have e2 := k2 (by omega)
        exact .inr (by rw [e2]; exact e1)
  · by_cases hvb : b.length ≤ v
    · exact k.new v e hvb he
    · have hb := List.getElem?_eq_getElem (show v < b.length by omega)
      have := h.new v _ hv hb
      obtain ⟨d, k1, _⟩ := k.old v _ hb
      rw [k1, Option.some.injEq] at he
      subst he
      exact this
theorem Evo.step {lv : Int} {l : List Nat} {st : VSt} {i : Nat} (h : Inv2 num nr l st) (hi : lv < num i) : Evo lv st.vs (stepV num nr st i).vs := by
  unfold stepV
  split
  · refine ⟨fun v e he => ⟨e.2.2, ?_, fun _ => rfl, fun h => .inl h⟩, fun v e hv he => ?_⟩
    · show (st.vs ++ [_])[v]? = _
      rw [List.getElem?_append_left (List.getElem?_eq_some_iff.1 he).1]; exact he
    · have he : (st.vs ++ [(num i, i, (-1 : Int))])[v]? = some e := he
      have hvl : v = st.vs.length := by
        have := (List.getElem?_eq_some_iff.1 he).1
        rw [List.length_append, List.length_singleton] at this; omega
      subst hvl
      rw [List.getElem?_append_right (Nat.le_refl _), Nat.sub_self, List.getElem?_cons_zero, Option.some.injEq] at he
      subst he; exact hi
  · rename_i hR
    have vs' : (addV (mergeV st (minL (roots st (nr i))) (roots st (nr i)) (num i)) (minL (roots st (nr i))) i).vs = st.vs.mapIdx fun v e => if v ∈ roots st (nr i) ∧ v ≠ minL (roots st (nr i)) then (e.1, e.2.1, num i) else e := rfl
    rw [vs']
    refine ⟨fun v e he => ?_, fun v e hv he => ?_⟩
    · rw [List.getElem?_mapIdx, he]
      simp only [Option.map_some]
      by_cases hv : v ∈ roots st (nr i) ∧ v ≠ minL (roots st (nr i))
      · rw [if_pos hv]
        refine ⟨num i, rfl, fun hn => ?_, fun _ => .inr hi⟩
        obtain ⟨q, _, hq⟩ := roots_mem.1 hv.1
        exact absurd ((h.alive v e he).2 ⟨q, hq⟩) hn
      · rw [if_neg hv]
        exact ⟨e.2.2, rfl, fun _ => rfl, fun h => .inl h⟩
    · have := (List.getElem?_eq_some_iff.1 he).1
      rw [List.length_mapIdx] at this; omega
theorem evo_run {lv : Int} {l rest : List Nat} (h0 : 0 ≤ lv) (hs : ∀ a b, a ∈ l ++ rest → b ∈ l ++ rest → b ∈ nr a → a ∈ nr b) (hn : (l ++ rest).Nodup) (hl : ∀ q ∈ l, 0 ≤ num q) (hr : ∀ q ∈ rest, lv < num q) : Evo lv (runV num nr l).vs (runV num nr (l ++ rest)).vs := by
  have key : ∀ (rest pre : List Nat), (∀ a b, a ∈ pre ++ rest → b ∈ pre ++ rest → b ∈ nr a → a ∈ nr b) → (pre ++ rest).Nodup → (∀ q ∈ pre, 0 ≤ num q) → (∀ q ∈ rest, lv < num q) → Evo lv (runV num nr pre).vs (runV num nr (pre ++ rest)).vs := by
    intro rest
    induction rest with
    | nil => intro pre _ _ _ _; rw [List.append_nil]; exact .refl
    | cons i rest ih =>
      intro pre hs hn hl hr
      have e1 : pre ++ i :: rest = (pre ++ [i]) ++ rest := by simp
      rw [e1] at hs hn ⊢
      have hi := hr i (List.mem_cons_self ..)
      have h1 := inv2_run (num := num) (nr := nr) (l := pre) (fun a b ha hb => hs a b (by simp [ha]) (by simp [hb])) (List.nodup_append.1 (List.nodup_append.1 hn).1).1 hl
      have h2 := Evo.step (lv := lv) h1 hi
      rw [← run_snoc] at h2
      exact h2.trans (by omega) (ih (pre ++ [i]) hs hn (fun q hq => by
        rcases List.mem_append.1 hq with hq | hq
        · exact hl q hq
        · rw [List.mem_singleton] at hq; subst hq; omega) (fun q hq => hr q (List.mem_cons_of_mem _ hq)))
  exact key rest l hs hn hl hr

/-! ### Counting -/
def aliveB (lv : Int) (e : Int × Nat × Int) : Bool := decide (e.1 ≤ lv ∧ (e.2.2 = -1 ∨ lv < e.2.2))
theorem countP_tab {α : Type} (p : α → Bool) (n : Nat) (f : Nat → α) : (tab n f).countP p = ((List.range n).filter fun i => p (f i)).length := by
  unfold tab
  rw [List.countP_map, List.countP_eq_length_filter]; rfl
theorem alive_evo {lv : Int} {a b : List (Int × Nat × Int)} (h : Evo lv a b) (h0 : 0 ≤ lv) (hb : ∀ e ∈ a, e.1 ≤ lv ∧ (e.2.2 = -1 ∨ 0 ≤ e.2.2 ∧ e.2.2 ≤ lv)) : b.countP (aliveB lv) = a.countP fun e => decide (e.2.2 = -1) := by
  have hle : a.length ≤ b.length := by
    rcases Nat.eq_zero_or_pos a.length with k | k
    · omega
    · obtain ⟨d, h1, _⟩ := h.old (a.length - 1) _ (List.getElem?_eq_getElem (show a.length - 1 < a.length by omega))
      have := (List.getElem?_eq_some_iff.1 h1).1; omega
  have hsplit : b = b.take a.length ++ b.drop a.length := (List.take_append_drop _ _).symm
  rw [hsplit, List.countP_append]
  have hz : (b.drop a.length).countP (aliveB lv) = 0 := by
    rw [List.countP_eq_zero]
    intro e he
    obtain ⟨j, hj⟩ := List.getElem?_of_mem he
    rw [List.getElem?_drop] at hj
    have := h.new _ _ (by omega) hj
    unfold aliveB
    simp only [decide_eq_true_eq]
    omega
  rw [hz, Nat.add_zero]
  have hl : (b.take a.length).length = a.length := by rw [List.length_take]; omega
  have ta := tab_of a ((0, 0, 0) : Int × Nat × Int)
  have tb := tab_of (b.take a.length) ((0, 0, 0) : Int × Nat × Int)
  rw [hl] at tb
  have ca : (a.countP fun e => decide (e.2.2 = -1)) = ((List.range a.length).filter fun i => decide ((a.getD i (0, 0, 0)).2.2 = -1)).length := by
    conv => lhs; rw [ta]
    rw [countP_tab]
  have cb : (b.take a.length).countP (aliveB lv) = ((List.range a.length).filter fun i => aliveB lv ((b.take a.length).getD i (0, 0, 0))).length := by
    conv => lhs; rw [tb]
    rw [countP_tab]
  rw [ca, cb]
  congr 1
  refine List.filter_congr fun v hv => ?_
  rw [List.mem_range] at hv
  have ha := List.getElem?_eq_getElem hv
  obtain ⟨d, h1, h2, h3⟩ := h.old v _ ha
  have ha2 := hb _ (List.getElem_mem hv)
  rw [List.getD_eq_getElem?_getD, List.getD_eq_getElem?_getD, ha, List.getElem?_take, if_pos hv, h1]
  unfold aliveB
  simp only [Option.getD_some]
  refine decide_eq_decide.2 ?_
  by_cases hd : a[v].2.2 = -1
  · rcases h3 hd with e | e
    · exact ⟨fun _ => hd, fun _ => ⟨ha2.1, .inl e⟩⟩
    · exact ⟨fun _ => hd, fun _ => ⟨ha2.1, .inr e⟩⟩
  · have := h2 hd
    constructor
    · intro k; omega
    · intro k; exact absurd k hd

/-- How many sets of joined places there are. -/
noncomputable def comps (nr : Nat → List Nat) (N : Nat) (A : Nat → Prop) : Nat := ((List.range N).filter fun q => @decide (A q ∧ ∀ p, p < q → A p → ¬ Con nr A p q) (Classical.propDecidable _)).length
theorem nodup_eq {α : Type} [DecidableEq α] {S T : List α} (h1 : S.Nodup) (h2 : T.Nodup) (h : ∀ x, x ∈ S ↔ x ∈ T) : S.length = T.length :=
  Nat.le_antisymm (nodup_le h1 fun x hx => (h x).1 hx) (nodup_le h2 fun x hx => (h x).2 hx)
theorem least_of {P : Nat → Prop} : ∀ (n : Nat), P n → ∃ m, m ≤ n ∧ P m ∧ ∀ k, k < m → ¬ P k := by
  intro n
  induction n using Nat.strongRecOn with
  | ind n ih =>
    intro h
    by_cases hk : ∃ k, k < n ∧ P k
    · obtain ⟨k, hk, hp⟩ := hk
      obtain ⟨m, h1, h2, h3⟩ := ih k hk hp
      exact ⟨m, by omega, h2, h3⟩
    · exact ⟨n, Nat.le_refl _, h, fun k hk' hp => hk ⟨k, hk', hp⟩⟩
theorem alive_comps {l : List Nat} {st : VSt} {N : Nat} {A : Nat → Prop} (h : Inv2 num nr l st) (hA : ∀ q, q ∈ l ↔ A q) (hN : ∀ q, A q → q < N) : st.vs.countP (fun e => decide (e.2.2 = -1)) = comps nr N A := by
  have hcon : ∀ p q, A p → A q → (st.of p = st.of q ↔ Con nr A p q) := fun p q hp hq => by
    rw [h.con p q ((hA p).2 hp) ((hA q).2 hq)]
    exact Con.congr hA
  have own : ∀ q, A q → ∃ v, st.of q = some v := fun q hq => h.own ((hA q).2 hq)
  let AL := (List.range st.vs.length).filter fun v => @decide (∃ q, st.of q = some v) (Classical.propDecidable _)
  let LD := (List.range N).filter fun q => @decide (A q ∧ ∀ p, p < q → A p → ¬ Con nr A p q) (Classical.propDecidable _)
  have e1 : st.vs.countP (fun e => decide (e.2.2 = -1)) = AL.length := by
    conv => lhs; rw [tab_of st.vs (0, 0, 0)]
    rw [countP_tab]
    congr 1
    refine List.filter_congr fun v hv => ?_
    rw [List.mem_range] at hv
    have hg := List.getElem?_eq_getElem hv
    have := h.alive v _ hg
    rw [List.getD_eq_getElem?_getD, hg]
    simp only [Option.getD_some]
    exact decide_eq_decide.2 this
  have e2 : (AL.map some).length = (LD.map st.of).length := by
    refine nodup_eq ?_ ?_ fun x => ?_
    · unfold List.Nodup
      rw [List.pairwise_map]
      exact (List.nodup_range.sublist List.filter_sublist).imp fun {a b} hab e => hab (Option.some.inj e)
    · unfold List.Nodup
      rw [List.pairwise_map]
      have hp : LD.Pairwise (· < ·) := List.Pairwise.sublist List.filter_sublist List.pairwise_lt_range
      have hmem : ∀ q ∈ LD, A q ∧ ∀ p, p < q → A p → ¬ Con nr A p q := fun q hq => by
        have := (List.mem_filter.1 hq).2
        simpa only [decide_eq_true_eq] using this
      refine List.Pairwise.imp_of_mem (fun {a b} ha hb hab e => ?_) hp
      exact (hmem b hb).2 a hab (hmem a ha).1 ((hcon a b (hmem a ha).1 (hmem b hb).1).1 e)
    · rw [List.mem_map, List.mem_map]
      constructor
      · rintro ⟨v, hv, rfl⟩
        have := (List.mem_filter.1 hv).2
        simp only [decide_eq_true_eq] at this
        obtain ⟨q, hq⟩ := this
        obtain ⟨m, _, hm, hleast⟩ := least_of (P := fun q => st.of q = some v) q hq
        have hAm := (hA m).1 (h.mem hm)
        refine ⟨m, List.mem_filter.2 ⟨List.mem_range.2 (hN m hAm), ?_⟩, hm⟩
        simp only [decide_eq_true_eq]
        refine ⟨hAm, fun p hp hAp hc => hleast p hp ?_⟩
        show st.of p = some v
        rw [(hcon p m hAp hAm).2 hc]; exact hm
      · rintro ⟨q, hq, rfl⟩
        have := (List.mem_filter.1 hq).2
        simp only [decide_eq_true_eq] at this
        obtain ⟨v, hv⟩ := own q this.1
        rw [hv]
        refine ⟨v, List.mem_filter.2 ⟨List.mem_range.2 (h.lt q v hv), ?_⟩, rfl⟩
        simp only [decide_eq_true_eq]
        exact ⟨q, hv⟩
  rw [List.length_map, List.length_map] at e2
  rw [e1, e2]; rfl
end

/-! ### Levels -/
theorem ordK_split {N : Nat} {num : Nat → Int} {L k : Nat} : ∃ rest, ordK N num (L + k) 0 = ordK N num L 0 ++ rest ∧ ∀ q ∈ rest, (L : Int) ≤ num q := by
  refine ⟨((List.range k).map fun x => L + x).flatMap fun (l : Nat) => (List.range N).filter fun q => decide (num q = (l : Int)), ?_, fun q hq => ?_⟩
  · unfold ordK
    rw [List.range_add, List.flatMap_append]
    simp
  · obtain ⟨l, h1, h2⟩ := List.mem_flatMap.1 hq
    obtain ⟨x, _, rfl⟩ := List.mem_map.1 h1
    have := (List.mem_filter.1 h2).2
    simp only [decide_eq_true_eq] at this
    omega
theorem ordK_nodup (N : Nat) (num : Nat → Int) (L : Nat) : (ordK N num L 0).Nodup := by
  refine List.Pairwise.imp (fun {a b} h e => ?_) (ordK_sorted N num L 0)
  subst e
  unfold ltV at h; omega
theorem level_comps {N : Nat} {num : Nat → Int} {nr : Nat → List Nat} (hs : ∀ a b, a < N → b < N → b ∈ nr a → a ∈ nr b) (hn : ∀ q, 0 ≤ num q ∧ num q ≤ 99) {lv : Nat} (hlv : lv ≤ 99) :
    (runV num nr (ordK N num 100 0)).vs.countP (aliveB lv) = comps nr N fun q => q < N ∧ num q ≤ lv := by
  obtain ⟨rest, h1, h2⟩ := ordK_split (N := N) (num := num) (L := lv + 1) (k := 99 - lv)
  rw [show lv + 1 + (99 - lv) = 100 by omega] at h1
  have hm : ∀ L q, q ∈ ordK N num L 0 → q < N := fun L q hq => by
    rcases ordK_mem.1 hq with k | k
    · exact k.1
    · omega
  have hnd := ordK_nodup N num 100
  have hs' : ∀ a b, a ∈ ordK N num 100 0 → b ∈ ordK N num 100 0 → b ∈ nr a → a ∈ nr b := fun a b ha hb => hs a b (hm _ _ ha) (hm _ _ hb)
  rw [h1] at hnd hs'
  have hinv := inv2_run (num := num) (nr := nr) (l := ordK N num (lv + 1) 0) (fun a b ha hb => hs a b (hm _ _ ha) (hm _ _ hb)) (ordK_nodup ..) (fun q _ => (hn q).1)
  have hle : ∀ q, q ∈ ordK N num (lv + 1) 0 ↔ q < N ∧ num q ≤ lv := fun q => by
    rw [ordK_mem]
    have := hn q
    constructor
    · rintro (k | k)
      · exact ⟨k.1, by omega⟩
      · omega
    · rintro ⟨k1, k2⟩
      exact .inl ⟨k1, this.1, by omega⟩
  have hevo := evo_run (num := num) (nr := nr) (lv := lv) (by omega) hs' hnd (fun q _ => (hn q).1) (fun q hq => by have := h2 q hq; omega)
  rw [h1, alive_evo hevo (by omega) fun e he => ?_]
  · exact alive_comps hinv hle fun q hq => hq.1
  · obtain ⟨v, hv⟩ := List.getElem?_of_mem he
    have hb := hinv.born v e hv
    have hd := hinv.dies v e hv
    refine ⟨by rw [hb.1]; exact ((hle _).1 hb.2).2, hd.imp id fun ⟨j, hj, e⟩ => ?_⟩
    rw [e]
    exact ⟨(hn j).1, ((hle j).1 hj).2⟩
end Go.Proofs.Ytfdmphgbodmkpaa
