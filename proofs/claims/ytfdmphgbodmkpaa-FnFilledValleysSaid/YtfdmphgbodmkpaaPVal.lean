/- Plain law: valleys of numbers on places: pixels are added one by one; sets that meet become one. No program in sight. -/
import Derived.Test.YtfdmphgbodmkpaaPSort
set_option linter.unusedVariables false
set_option linter.unusedSimpArgs false
namespace Go.Proofs.Ytfdmphgbodmkpaa
open Go Go.SL

/-- What has been added: of each place its valley; the valleys' births, places and ends; who has joined them. -/
structure VSt where
  of : Nat → Option Nat
  vs : List (Int × Nat × Int)
  mem : Nat → Nat → Prop
section
variable (num : Nat → Int) (near : Nat → List Nat)
def roots (st : VSt) (l : List Nat) : List Nat := l.filterMap st.of
def mergeV (st : VSt) (s : Nat) (R : List Nat) (l : Int) : VSt where
  of := fun q => (st.of q).map fun v => if v ∈ R then s else v
  vs := st.vs.mapIdx fun v e => if v ∈ R ∧ v ≠ s then (e.1, e.2.1, l) else e
  mem := fun v q => st.mem v q ∨ v = s ∧ ∃ u, u ∈ R ∧ st.mem u q
def addV (st : VSt) (s i : Nat) : VSt where
  of := fun q => if q = i then some s else st.of q
  vs := st.vs
  mem := fun v q => st.mem v q ∨ v = s ∧ q = i
def bornV (st : VSt) (i : Nat) : VSt := { st with vs := st.vs ++ [(num i, i, -1)] }
def minL : List Nat → Nat
  | [] => 0
  | [x] => x
  | x :: l => min x (minL l)
theorem minL_mem : ∀ {l : List Nat}, l ≠ [] → minL l ∈ l ∧ ∀ x ∈ l, minL l ≤ x
  | [], h => absurd rfl h
  | [x], _ => by simp [minL]
  | x :: y :: l, _ => by
    have ih := minL_mem (l := y :: l) (by simp)
    show min x (minL (y :: l)) ∈ _ ∧ _
    constructor
    · rcases Nat.le_total x (minL (y :: l)) with h | h
      · rw [Nat.min_eq_left h]; simp
      · rw [Nat.min_eq_right h]; exact List.mem_cons_of_mem _ ih.1
    · intro z hz
      show min x (minL (y :: l)) ≤ z
      rcases List.mem_cons.1 hz with rfl | hz
      · exact Nat.min_le_left _ _
      · exact Nat.le_trans (Nat.min_le_right _ _) (ih.2 z hz)
/-- The least of a set, however it is listed. -/
theorem minL_eq {l : List Nat} {s : Nat} (h : s ∈ l) (hl : ∀ x ∈ l, s ≤ x) : minL l = s := by
  have hn : l ≠ [] := fun e => by subst e; cases h
  obtain ⟨h1, h2⟩ := minL_mem hn
  exact Nat.le_antisymm (h2 s h) (hl _ h1)
def stepV (st : VSt) (i : Nat) : VSt :=
  if roots st (near i) = [] then addV (bornV num st i) st.vs.length i
  else addV (mergeV st (minL (roots st (near i))) (roots st (near i)) (num i)) (minL (roots st (near i))) i
def startV : VSt := ⟨fun _ => none, [], fun _ _ => False⟩
def runV (order : List Nat) : VSt := order.foldl (stepV num near) startV

theorem VSt.ext {a b : VSt} (h1 : a.of = b.of) (h2 : a.vs = b.vs) (h3 : a.mem = b.mem) : a = b := by cases a; cases b; cases h1; cases h2; cases h3; rfl
theorem merge_congr {st : VSt} {s : Nat} {R R' : List Nat} {l : Int} (h : ∀ v, v ∈ R ↔ v ∈ R') : mergeV st s R l = mergeV st s R' l := by
  refine VSt.ext ?_ ?_ ?_
  · funext q; simp only [mergeV, h]
  · simp only [mergeV, h]
  · funext v q; simp only [mergeV, h]
theorem merge_nil {st : VSt} {s : Nat} {l : Int} : mergeV st s [] l = st := by
  refine VSt.ext ?_ ?_ ?_
  · funext q; simp [mergeV]
  · simp only [mergeV, List.not_mem_nil, false_and, if_false]
    exact List.mapIdx_eq_iff.2 fun i => by cases st.vs[i]? <;> rfl
  · funext v q; simp [mergeV]
theorem merge_self {st : VSt} {s : Nat} {R : List Nat} {l : Int} (hv : s ∈ R → True) : mergeV st s (s :: R) l = mergeV st s R l := by
  refine VSt.ext ?_ ?_ ?_
  · funext q
    simp only [mergeV, List.mem_cons]
    congr 1
    funext v
    by_cases h : v = s
    · subst h; simp
    · simp [h]
  · simp only [mergeV]
    congr 1
    funext v e
    by_cases h : v = s
    · subst h; simp
    · simp [h]
  · funext v q
    simp only [mergeV, List.mem_cons, eq_iff_iff]
    constructor
    · rintro (h | ⟨rfl, u, rfl | hu, hm⟩)
      · exact .inl h
      · exact .inl hm
      · exact .inr ⟨rfl, u, hu, hm⟩
    · rintro (h | ⟨rfl, u, hu, hm⟩)
      · exact .inl h
      · exact .inr ⟨rfl, u, .inr hu, hm⟩
/-- One more is merged. -/
theorem merge_snoc {st : VSt} {s v : Nat} {R : List Nat} {l : Int} (hv : v ∉ R) (hs : v ≠ s) :
    (∀ q, (mergeV st s (R ++ [v]) l).of q = if (mergeV st s R l).of q = some v then some s else (mergeV st s R l).of q) ∧
    (mergeV st s (R ++ [v]) l).vs = (mergeV st s R l).vs.modify v (fun e => (e.1, e.2.1, l)) ∧
    (∀ x q, (mergeV st s (R ++ [v]) l).mem x q ↔ (mergeV st s R l).mem x q ∨ x = s ∧ (mergeV st s R l).mem v q) := by
  refine ⟨fun q => ?_, ?_, fun x q => ?_⟩
  · simp only [mergeV, List.mem_append, List.mem_singleton]
    obtain ⟨x, hx⟩ : ∃ x, x = st.of q := ⟨_, rfl⟩
    match x, hx with
    | none, hx => simp only [← hx]; simp
    | some u, hx =>
      simp only [← hx, Option.map_some, Option.some.injEq]
      by_cases h1 : u ∈ R
      · simp [h1]
      · by_cases h2 : u = v
        · subst h2; simp [h1]
        · simp [h1, h2]
  · simp only [mergeV]
    apply List.ext_getElem?
    intro i
    rw [List.getElem?_modify, List.getElem?_mapIdx, List.getElem?_mapIdx]
    cases st.vs[i]? with
    | none => simp
    | some e =>
      simp only [Option.map_some, List.mem_append, List.mem_singleton]
      by_cases h1 : v = i
      · subst h1; simp [hs, hv]
      · have h1' : i ≠ v := fun e => h1 e.symm
        simp [h1, h1']
  · simp only [mergeV, List.mem_append, List.mem_singleton]
    constructor
    · rintro (h | ⟨rfl, u, hu | rfl, hm⟩)
      · exact .inl (.inl h)
      · exact .inl (.inr ⟨rfl, u, hu, hm⟩)
      · exact .inr ⟨rfl, .inl hm⟩
    · rintro ((h | ⟨rfl, u, hu, hm⟩) | ⟨rfl, h | ⟨h, _⟩⟩)
      · exact .inl h
      · exact .inr ⟨rfl, u, .inl hu, hm⟩
      · exact .inr ⟨rfl, v, .inr rfl, h⟩
      · exact absurd h hs

/-- What holds of what has been added. -/
structure InvV (st : VSt) : Prop where
  lt : ∀ q v, st.of q = some v → v < st.vs.length
  mem : ∀ q v, st.of q = some v → st.mem v q
  all : ∀ q v q', st.of q = some v → st.mem v q' → st.of q' = some v
  mlt : ∀ v q, st.mem v q → v < st.vs.length
theorem InvV.start : InvV startV := ⟨fun _ _ h => by simp [startV] at h, fun _ _ h => by simp [startV] at h, fun _ _ _ h => by simp [startV] at h, fun _ _ h => by simp [startV] at h⟩
theorem InvV.merge {st : VSt} (h : InvV st) {s : Nat} {R : List Nat} {l : Int} (hs : s ∈ R) (hR : ∀ v ∈ R, ∃ q, st.of q = some v) : InvV (mergeV st s R l) := by
  have hsl : s < st.vs.length := by obtain ⟨q, hq⟩ := hR s hs; exact h.lt q s hq
  refine ⟨fun q v hv => ?_, fun q v hv => ?_, fun q v q' hv hm => ?_, fun v q hm => ?_⟩
  · simp only [mergeV, Option.map_eq_some_iff, List.length_mapIdx] at hv ⊢
    obtain ⟨u, hu, rfl⟩ := hv
    split
    · exact hsl
    · exact h.lt q u hu
  · simp only [mergeV, Option.map_eq_some_iff] at hv ⊢
    obtain ⟨u, hu, rfl⟩ := hv
    split
    · rename_i huR; exact .inr ⟨rfl, u, huR, h.mem q u hu⟩
    · exact .inl (h.mem q u hu)
  · simp only [mergeV, Option.map_eq_some_iff] at hv hm ⊢
    obtain ⟨u, hu, rfl⟩ := hv
    by_cases huR : u ∈ R
    · rw [if_pos huR] at hm ⊢
      rcases hm with hm | ⟨_, x, hx, hm⟩
      · obtain ⟨q0, hq0⟩ := hR s hs
        exact ⟨s, h.all q0 s q' hq0 hm, by rw [if_pos hs]⟩
      · obtain ⟨q0, hq0⟩ := hR x hx
        exact ⟨x, h.all q0 x q' hq0 hm, by rw [if_pos hx]⟩
    · rw [if_neg huR] at hm ⊢
      rcases hm with hm | ⟨e, _⟩
      · exact ⟨u, h.all q u q' hu hm, by rw [if_neg huR]⟩
      · exact absurd (e ▸ hs) huR
  · simp only [mergeV, List.length_mapIdx] at hm ⊢
    rcases hm with hm | ⟨rfl, _⟩
    · exact h.mlt v q hm
    · exact hsl
theorem InvV.add {st : VSt} (h : InvV st) {s i : Nat} (hs : s < st.vs.length) (hi : st.of i = none) (ha : ∀ q, st.mem s q → st.of q = some s) : InvV (addV st s i) := by
  refine ⟨fun q v hv => ?_, fun q v hv => ?_, fun q v q' hv hm => ?_, fun v q hm => ?_⟩
  · simp only [addV] at hv ⊢
    split at hv
    · cases hv; exact hs
    · exact h.lt q v hv
  · simp only [addV] at hv ⊢
    split at hv
    · rename_i e; cases hv; exact .inr ⟨rfl, e⟩
    · exact .inl (h.mem q v hv)
  · simp only [addV] at hv hm ⊢
    by_cases e : q' = i
    · rw [if_pos e]
      rcases hm with hm | ⟨rfl, _⟩
      · split at hv
        · cases hv; exact rfl
        · have := h.all q v q' hv hm
          rw [e, hi] at this; cases this
      · rfl
    · rw [if_neg e]
      rcases hm with hm | ⟨rfl, e'⟩
      · split at hv
        · cases hv; exact ha q' hm
        · exact h.all q v q' hv hm
      · exact absurd e' e
  · simp only [addV] at hm ⊢
    rcases hm with hm | ⟨rfl, _⟩
    · exact h.mlt v q hm
    · exact hs
theorem InvV.born {st : VSt} (h : InvV st) (i : Nat) : InvV (bornV num st i) :=
  ⟨fun q v hv => by have := h.lt q v hv; simp only [bornV, List.length_append, List.length_singleton]; omega, h.mem, h.all, fun v q hm => by have := h.mlt v q hm; simp only [bornV, List.length_append, List.length_singleton]; omega⟩
theorem roots_mem {st : VSt} {l : List Nat} {v : Nat} : v ∈ roots st l ↔ ∃ q ∈ l, st.of q = some v := List.mem_filterMap
theorem InvV.step {st : VSt} (h : InvV st) {i : Nat} (hi : st.of i = none) : InvV (stepV num near st i) := by
  unfold stepV
  split
  · refine (h.born num i).add (by simp [bornV]) hi fun q hm => ?_
    have := h.mlt _ q hm; omega
  · rename_i hne
    obtain ⟨h1, h2⟩ := minL_mem hne
    have hR : ∀ v ∈ roots st (near i), ∃ q, st.of q = some v := fun v hv => by obtain ⟨q, _, hq⟩ := roots_mem.1 hv; exact ⟨q, hq⟩
    have hm := h.merge (l := num i) h1 hR
    obtain ⟨q0, hq0⟩ := hR _ h1
    have hq1 : (mergeV st (minL (roots st (near i))) (roots st (near i)) (num i)).of q0 = some (minL (roots st (near i))) := by
      simp only [mergeV, hq0, Option.map_some, if_pos h1]
    refine hm.add (hm.lt _ _ hq1) (by simp [mergeV, hi]) fun q hmq => hm.all q0 _ q hq1 hmq
/-- What has been added so far. -/
theorem step_of {st : VSt} {i q : Nat} : (stepV num near st i).of q = none ↔ st.of q = none ∧ q ≠ i := by
  unfold stepV
  split
  · simp only [addV, bornV]
    split
    · rename_i e; simp [e]
    · rename_i e; simp [e]
  · simp only [addV, mergeV]
    split
    · rename_i e; simp [e]
    · rename_i e; simp [e]
theorem run_of (order : List Nat) : ∀ (st : VSt) (q : Nat), (order.foldl (stepV num near) st).of q = none ↔ st.of q = none ∧ q ∉ order := by
  induction order with
  | nil => intro st q; simp
  | cons i l ih =>
    intro st q
    rw [List.foldl_cons, ih, step_of]
    simp [and_assoc]
end
end Go.Proofs.Ytfdmphgbodmkpaa
