/- Plain law: valleys are filled: numbers are lifted over lists of places. No program in sight. -/
import Derived.Test.YtfdmphgbodmkpaaPVal2
set_option linter.unusedVariables false
set_option linter.unusedSimpArgs false
namespace Go.Proofs.Ytfdmphgbodmkpaa
open Go Go.SL

/-- One valley is filled: birth, end, places. -/
def lift1 (depth : Int) (e : Int × Int × List Nat) (num : Nat → Int) : Nat → Int :=
  if e.2.1 < 0 ∨ depth ≤ e.2.1 - e.1 then num else fun q => if q ∈ e.2.2 then max (num q) e.2.1 else num q
def liftS (depth : Int) (E : List (Int × Int × List Nat)) (num : Nat → Int) : Nat → Int := E.foldl (fun f e => lift1 depth e f) num
theorem liftS_snoc {depth : Int} {E : List (Int × Int × List Nat)} {e : Int × Int × List Nat} {num : Nat → Int} : liftS depth (E ++ [e]) num = lift1 depth e (liftS depth E num) := by
  unfold liftS; rw [List.foldl_append]; rfl
theorem lift1_congr {depth : Int} {e e' : Int × Int × List Nat} {num : Nat → Int} (h1 : e.1 = e'.1) (h2 : e.2.1 = e'.2.1) (h3 : ∀ q, q ∈ e.2.2 ↔ q ∈ e'.2.2) : lift1 depth e num = lift1 depth e' num := by
  unfold lift1
  rw [h1, h2]
  split
  · rfl
  · funext q; simp only [h3]
theorem liftS_congr {depth : Int} : ∀ {E E' : List (Int × Int × List Nat)} {num : Nat → Int}, E.length = E'.length → (∀ (j : Nat) (e e' : Int × Int × List Nat), E[j]? = some e → E'[j]? = some e' → e.1 = e'.1 ∧ e.2.1 = e'.2.1 ∧ ∀ q, q ∈ e.2.2 ↔ q ∈ e'.2.2) → liftS depth E num = liftS depth E' num
  | [], [], _, _, _ => rfl
  | [], _ :: _, _, hl, _ => by simp at hl
  | _ :: _, [], _, hl, _ => by simp at hl
  | e :: E, e' :: E', num, hl, h => by
    have ih := liftS_congr (depth := depth) (E := E) (E' := E') (num := lift1 depth e' num) (by simpa using hl) (fun j x x' hx hx' => h (j + 1) x x' (by simpa using hx) (by simpa using hx'))
    obtain ⟨a, b, c⟩ := h 0 e e' rfl rfl
    unfold liftS at ih ⊢
    rw [List.foldl_cons, List.foldl_cons, lift1_congr a b c]
    exact ih
/-- Place by place. -/
def liftK (d : Int) (l : List Nat) (num : Nat → Int) : Nat → Int := l.foldl (fun f q => upd f q (max (f q) d)) num
theorem liftK_snoc {d : Int} {l : List Nat} {q : Nat} {num : Nat → Int} : liftK d (l ++ [q]) num = upd (liftK d l num) q (max (liftK d l num q) d) := by
  unfold liftK; rw [List.foldl_append]; rfl
theorem liftK_eq {d : Int} : ∀ {l : List Nat} {num : Nat → Int}, liftK d l num = fun q => if q ∈ l then max (num q) d else num q
  | [], num => by funext q; simp [liftK]
  | x :: l, num => by
    have ih := liftK_eq (d := d) (l := l) (num := upd num x (max (num x) d))
    unfold liftK at ih ⊢
    rw [List.foldl_cons, ih]
    funext q
    unfold upd
    by_cases hx : q = x
    · subst hx
      simp only [if_true, List.mem_cons, true_or]
      split <;> omega
    · simp only [hx, if_false, List.mem_cons, false_or]
theorem lift1_K {depth : Int} {e : Int × Int × List Nat} {num : Nat → Int} (h : ¬ (e.2.1 < 0 ∨ depth ≤ e.2.1 - e.1)) : lift1 depth e num = liftK e.2.1 e.2.2 num := by
  unfold lift1
  rw [if_neg h, liftK_eq]

/-- The valleys of a state: birth, end, places below N. -/
noncomputable def endE (st : VSt) (N : Nat) : List (Int × Int × List Nat) := st.vs.mapIdx fun j e => (e.1, e.2.2, (List.range N).filter fun q => @decide (st.mem j q) (Classical.propDecidable _))
theorem endE_S {depth : Int} {st : VSt} {N : Nat} {E : List (Int × Int × List Nat)} {num : Nat → Int} (hvs : E.map (fun e => (e.1, e.2.1)) = st.vs.map (fun e => (e.1, e.2.2))) (hm : ∀ (j : Nat) (e : Int × Int × List Nat), E[j]? = some e → ∀ q, q ∈ e.2.2 ↔ st.mem j q) (hlt : ∀ e ∈ E, ∀ q ∈ e.2.2, q < N) : liftS depth E num = liftS depth (endE st N) num := by
  have hl : E.length = st.vs.length := by
    have := congrArg List.length hvs
    rwa [List.length_map, List.length_map] at this
  refine liftS_congr (by unfold endE; rw [List.length_mapIdx]; exact hl) fun j e e' he he' => ?_
  unfold endE at he'
  rw [List.getElem?_mapIdx] at he'
  obtain ⟨x, hx, rfl⟩ := Option.map_eq_some_iff.1 he'
  have h1 := congrArg (fun l => l[j]?) hvs
  simp only [List.getElem?_map, he, hx, Option.map_some, Option.some.injEq, Prod.mk.injEq] at h1
  refine ⟨h1.1, h1.2, fun q => ?_⟩
  rw [List.mem_filter, List.mem_range, hm j e he q]
  simp only [decide_eq_true_eq]
  exact ⟨fun h => ⟨hlt e (List.mem_of_getElem? he) q ((hm j e he q).2 h), h⟩, fun h => h.2⟩

theorem vs_top {num : Nat → Int} {nr : Nat → List Nat} {l : List Nat} (h : ∀ i, num i ≤ 99) : ∀ e ∈ (runV num nr l).vs, e.1 ≤ 99 ∧ e.2.2 ≤ 99 := by
  have key : ∀ (l : List Nat) (st : VSt), (∀ e ∈ st.vs, e.1 ≤ 99 ∧ e.2.2 ≤ 99) → ∀ e ∈ (l.foldl (stepV num nr) st).vs, e.1 ≤ 99 ∧ e.2.2 ≤ 99 := by
    intro l
    induction l with
    | nil => intro st hs; simpa using hs
    | cons i l ih =>
      intro st hs
      rw [List.foldl_cons]
      refine ih _ fun e he => ?_
      unfold stepV at he
      split at he
      · simp only [addV, bornV] at he
        rcases List.mem_append.1 he with he | he
        · exact hs e he
        · rw [List.mem_singleton] at he; subst he
          exact ⟨h i, by show (-1 : Int) ≤ 99; omega⟩
      · simp only [addV, mergeV] at he
        obtain ⟨k, hk, he⟩ := List.mem_mapIdx.1 he
        have hm : st.vs[k] ∈ st.vs := List.getElem_mem hk
        split at he
        · subst he; exact ⟨(hs _ hm).1, h i⟩
        · subst he; exact hs _ hm
  exact key l startV (fun e he => by cases he)
end Go.Proofs.Ytfdmphgbodmkpaa
