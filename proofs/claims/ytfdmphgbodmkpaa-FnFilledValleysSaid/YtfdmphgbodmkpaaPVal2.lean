/- Plain law: the order in which places are added. -/
import Derived.Test.YtfdmphgbodmkpaaCSVal2
set_option linter.unusedVariables false
set_option linter.unusedSimpArgs false
namespace Go.Proofs.Ytfdmphgbodmkpaa
open Go Go.SL

def ltV (num : Nat → Int) (p q : Nat) : Prop := num p < num q ∨ num p = num q ∧ p < q
theorem ordK_sorted (N : Nat) (num : Nat → Int) (L i : Nat) : (ordK N num L i).Pairwise (ltV num) := by
  have range_pw : ∀ (l : Int) (i : Nat), ((List.range i).filter fun q => decide (num q = l)).Pairwise (ltV num) := fun l i => by
    rw [List.pairwise_filter]
    refine List.pairwise_lt_range.imp fun {a b} hab ha hb => ?_
    simp only [decide_eq_true_iff] at ha hb
    exact .inr ⟨by rw [ha, hb], hab⟩
  have h1 : ∀ L, ((List.range L).flatMap fun (l : Nat) => (List.range N).filter fun q => decide (num q = (l : Int))).Pairwise (ltV num) := by
    intro L
    induction L with
    | zero => simp
    | succ L ih =>
      rw [List.range_succ, List.flatMap_append, List.flatMap_cons, List.flatMap_nil, List.append_nil, List.pairwise_append]
      refine ⟨ih, range_pw L N, fun a ha b hb => ?_⟩
      simp only [List.mem_flatMap, List.mem_range, List.mem_filter, decide_eq_true_iff] at ha hb
      obtain ⟨l, hl, _, e⟩ := ha
      exact .inl (by omega)
  unfold ordK
  rw [List.pairwise_append]
  refine ⟨h1 L, range_pw L i, fun a ha b hb => ?_⟩
  simp only [List.mem_flatMap, List.mem_range, List.mem_filter, decide_eq_true_iff] at ha hb
  obtain ⟨l, hl, _, e⟩ := ha
  exact .inl (by omega)
/-- Lists that rise strictly and have the same members are the same. -/
theorem rise_eq {num : Nat → Int} : ∀ {l m : List Nat}, l.Pairwise (ltV num) → m.Pairwise (ltV num) → (∀ x, x ∈ l ↔ x ∈ m) → l = m
  | [], [], _, _, _ => rfl
  | [], b :: m, _, _, h => by have := (h b).2 (by simp); simp at this
  | a :: l, [], _, _, h => by have := (h a).1 (by simp); simp at this
  | a :: l, b :: m, hl, hm, h => by
    rw [List.pairwise_cons] at hl hm
    have irr : ∀ x, ¬ ltV num x x := fun x hx => by unfold ltV at hx; omega
    have asy : ∀ x y, ltV num x y → ltV num y x → False := fun x y h1 h2 => by unfold ltV at h1 h2; omega
    have hab : a = b := by
      rcases List.mem_cons.1 ((h a).1 (by simp)) with e | e
      · exact e
      · rcases List.mem_cons.1 ((h b).2 (by simp)) with e' | e'
        · exact e'.symm
        · exact (asy _ _ (hm.1 a e) (hl.1 b e')).elim
    subst hab
    congr 1
    refine rise_eq hl.2 hm.2 fun x => ⟨fun hx => ?_, fun hx => ?_⟩
    · rcases List.mem_cons.1 ((h x).1 (List.mem_cons_of_mem _ hx)) with e | e
      · subst e; exact (irr _ (hl.1 _ hx)).elim
      · exact e
    · rcases List.mem_cons.1 ((h x).2 (List.mem_cons_of_mem _ hx)) with e | e
      · subst e; exact (irr _ (hm.1 _ hx)).elim
      · exact e
/-- What the stable sort leaves is the order by levels. -/
theorem sorted_ord {N : Nat} {num : Nat → Int} (hn : ∀ i, 0 ≤ num i ∧ num i ≤ 99) {l : List Nat} (hs : l.Pairwise (ltV num)) (hp : ∀ x, x ∈ l ↔ x < N) : l = ordK N num 100 0 := by
  refine rise_eq hs (ordK_sorted N num 100 0) fun x => ?_
  rw [hp, ordK_mem]
  constructor
  · intro h; exact .inl ⟨h, (hn x).1, by have := (hn x).2; omega⟩
  · rintro (⟨h, _⟩ | ⟨h, _⟩)
    · exact h
    · omega
end Go.Proofs.Ytfdmphgbodmkpaa
