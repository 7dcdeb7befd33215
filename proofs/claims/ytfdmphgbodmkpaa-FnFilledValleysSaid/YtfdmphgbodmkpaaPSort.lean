/- Plain law: rows of elements as functions of their places; swaps, turns, insertion and merging in place. No program in sight. -/
import Derived.Test.YtfdmphgbodmkpaaPrim8
set_option linter.unusedVariables false
set_option linter.unusedSimpArgs false
namespace Go.SL
open Go
section
variable {α : Type}
def tab (n : Nat) (f : Nat → α) : List α := (List.range n).map f
theorem tab_len (n : Nat) (f : Nat → α) : (tab n f).length = n := by simp [tab]
theorem tab_get {n : Nat} {f : Nat → α} {i : Nat} (h : i < n) : (tab n f)[i]? = some (f i) := by simp [tab, h]
theorem tab_congr {n : Nat} {f g : Nat → α} (h : ∀ i, i < n → f i = g i) : tab n f = tab n g := List.map_congr_left fun i hi => h i (List.mem_range.1 hi)
def upd (f : Nat → α) (i : Nat) (x : α) : Nat → α := fun k => if k = i then x else f k
theorem tab_set {n : Nat} {f : Nat → α} (i : Nat) (x : α) : (tab n f).set i x = tab n (upd f i x) := by
  apply List.ext_getElem?
  intro k
  rw [List.getElem?_set]
  by_cases h : k < n
  · unfold upd
    by_cases e : i = k
    · subst e; rw [if_pos rfl, if_pos (by rw [tab_len]; exact h), tab_get h, if_pos rfl]
    · rw [if_neg e, tab_get h, tab_get h, if_neg (fun e' => e e'.symm)]
  · have h1 : (tab n (upd f i x))[k]? = none := List.getElem?_eq_none (by rw [tab_len]; omega)
    have h2 : (tab n f)[k]? = none := List.getElem?_eq_none (by rw [tab_len]; omega)
    rw [h1, h2]
    split
    · rw [if_neg (by rw [tab_len]; omega)]
    · rfl
theorem tab_of (l : List α) (d : α) : l = tab l.length (fun i => l.getD i d) := by
  apply List.ext_getElem?
  intro k
  by_cases h : k < l.length
  · rw [tab_get h, List.getD_eq_getElem?_getD, List.getElem?_eq_getElem h]; rfl
  · rw [List.getElem?_eq_none (by omega), List.getElem?_eq_none (by rw [tab_len]; omega)]

def swp (f : Nat → α) (i j : Nat) : Nat → α := fun k => if k = j then f i else if k = i then f j else f k
theorem swp_eq (f : Nat → α) (i j : Nat) : upd (upd f i (f j)) j (f i) = swp f i j := by
  funext k; unfold upd swp; rfl
theorem mem_tab {n : Nat} {f : Nat → α} {x : α} : x ∈ tab n f ↔ ∃ i, i < n ∧ f i = x := by
  unfold tab; rw [List.mem_map]
  exact ⟨fun ⟨i, h, e⟩ => ⟨i, List.mem_range.1 h, e⟩, fun ⟨i, h, e⟩ => ⟨i, List.mem_range.2 h, e⟩⟩
theorem swp_perm {n : Nat} {f : Nat → α} {i j : Nat} (hi : i < n) (hj : j < n) : (tab n (swp f i j)).Perm (tab n f) := by
  have e : tab n (swp f i j) = (tab n (swp id i j)).map f := by
    unfold tab; rw [List.map_map]
    refine List.map_congr_left fun k _ => ?_
    unfold swp; simp only [Function.comp_apply, id]
    split
    · rfl
    · split <;> rfl
  have e2 : tab n f = (List.range n).map f := rfl
  rw [e, e2]
  refine List.Perm.map f ?_
  have hnd : (tab n (swp id i j)).Nodup := by
    unfold tab List.Nodup
    rw [List.pairwise_map]
    refine List.Pairwise.imp ?_ List.nodup_range
    intro a b hab h
    unfold swp at h; simp only [id] at h
    split at h <;> split at h <;> (try split at h) <;> (try split at h) <;> omega
  refine (List.perm_ext_iff_of_nodup hnd List.nodup_range).2 fun x => ?_
  rw [mem_tab, List.mem_range]
  constructor
  · rintro ⟨k, hk, e⟩
    unfold swp at e; simp only [id] at e
    split at e
    · omega
    · split at e <;> omega
  · intro hx
    refine ⟨swp id i j x, ?_, ?_⟩
    · unfold swp; simp only [id]; split
      · omega
      · split <;> omega
    · unfold swp; simp only [id]
      by_cases h1 : x = j
      · subst h1
        by_cases h2 : i = x
        · subst h2; simp
        · simp [h2]
      · by_cases h2 : x = i
        · subst h2; simp [h1]
        · simp [h1, h2]

/-- f' is f with what lies in [a, b) moved about in there. -/
structure RP (a b : Nat) (f f' : Nat → α) : Prop where
  off : ∀ k, k < a ∨ b ≤ k → f' k = f k
  on : ∀ k, a ≤ k → k < b → ∃ k', a ≤ k' ∧ k' < b ∧ f' k = f k'
theorem RP.refl (a b : Nat) (f : Nat → α) : RP a b f f := ⟨fun _ _ => rfl, fun k h1 h2 => ⟨k, h1, h2, rfl⟩⟩
theorem RP.trans {a b : Nat} {f g h : Nat → α} (x : RP a b f g) (y : RP a b g h) : RP a b f h :=
  ⟨fun k hk => (y.off k hk).trans (x.off k hk), fun k h1 h2 => by
    obtain ⟨k', q1, q2, q3⟩ := y.on k h1 h2
    obtain ⟨k2, r1, r2, r3⟩ := x.on k' q1 q2
    exact ⟨k2, r1, r2, q3.trans r3⟩⟩
theorem RP.wide {a b a' b' : Nat} {f g : Nat → α} (x : RP a b f g) (h1 : a' ≤ a) (h2 : b ≤ b') : RP a' b' f g :=
  ⟨fun k hk => x.off k (by omega), fun k k1 k2 => by
    by_cases h : a ≤ k ∧ k < b
    · obtain ⟨k', q1, q2, q3⟩ := x.on k h.1 h.2
      exact ⟨k', by omega, by omega, q3⟩
    · exact ⟨k, k1, k2, x.off k (by omega)⟩⟩
theorem RP.swp {a b i j : Nat} (f : Nat → α) (hi : a ≤ i ∧ i < b) (hj : a ≤ j ∧ j < b) : RP a b f (swp f i j) :=
  ⟨fun k hk => by unfold SL.swp; rw [if_neg (by omega), if_neg (by omega)], fun k k1 k2 => by
    unfold SL.swp
    split
    · exact ⟨i, hi.1, hi.2, rfl⟩
    · split
      · exact ⟨j, hj.1, hj.2, rfl⟩
      · exact ⟨k, k1, k2, rfl⟩⟩
/-- All of [a, b) has a property. -/
theorem RP.all {a b : Nat} {f g : Nat → α} (x : RP a b f g) {Q : α → Prop} (h : ∀ k, a ≤ k → k < b → Q (f k)) : ∀ k, a ≤ k → k < b → Q (g k) := fun k k1 k2 => by
  obtain ⟨k', q1, q2, q3⟩ := x.on k k1 k2
  rw [q3]; exact h k' q1 q2

/-- The turn of [a, m) and [m, b). -/
def rot (a m b : Nat) (f : Nat → α) : Nat → α := fun k => if a ≤ k ∧ k < a + (b - m) then f (k + (m - a)) else if a + (b - m) ≤ k ∧ k < b then f (k - (b - m)) else f k
theorem RP.rot {a m b : Nat} (f : Nat → α) (h1 : a ≤ m) (h2 : m ≤ b) : RP a b f (rot a m b f) :=
  ⟨fun k hk => by unfold SL.rot; rw [if_neg (by omega), if_neg (by omega)], fun k k1 k2 => by
    unfold SL.rot
    split
    · exact ⟨_, by omega, by omega, rfl⟩
    · rw [if_pos (by omega)]
      exact ⟨_, by omega, by omega, rfl⟩⟩
theorem rot_none {a m b : Nat} (f : Nat → α) (h : a = m ∨ m = b) (h1 : a ≤ m) (h2 : m ≤ b) : SL.rot a m b f = f := by
  funext k
  unfold SL.rot
  rcases h with rfl | rfl
  · split
    · rw [Nat.sub_self, Nat.add_zero]
    · rw [if_neg (by omega)]
  · rw [if_neg (by omega)]
    split
    · rw [Nat.sub_self, Nat.sub_zero]
    · rfl
/-- One round of the exchange of two stretches of n elements. -/
def exch (a b n : Nat) (f : Nat → α) : Nat → α := fun k => if a ≤ k ∧ k < a + n then f (k + (b - a)) else if b ≤ k ∧ k < b + n then f (k - (b - a)) else f k
theorem exch_zero (a b : Nat) (f : Nat → α) : exch a b 0 f = f := by
  funext k; unfold exch; rw [if_neg (by omega), if_neg (by omega)]
theorem exch_succ {a b n : Nat} (f : Nat → α) (h : a + n < b) : SL.swp (exch a b n f) (a + n) (b + n) = exch a b (n + 1) f := by
  funext k
  unfold SL.swp exch
  by_cases h1 : k = b + n
  · subst h1
    rw [if_pos rfl, if_neg (by omega), if_neg (by omega), if_neg (by omega), if_pos (by omega)]
    congr 1; omega
  · rw [if_neg h1]
    by_cases h2 : k = a + n
    · subst h2
      rw [if_pos rfl, if_neg (by omega), if_neg (by omega), if_pos (by omega)]
      congr 1; omega
    · rw [if_neg h2]
      by_cases h3 : a ≤ k ∧ k < a + n
      · rw [if_pos h3, if_pos (by omega)]
      · by_cases h4 : b ≤ k ∧ k < b + n
        · rw [if_neg h3, if_pos h4, if_neg (by omega), if_pos (by omega)]
        · rw [if_neg h3, if_neg h4, if_neg (by omega), if_neg (by omega)]
/-- The rounds of rotate: [m - i, m) and [m, m + j) wait to be turned. -/
theorem rot_gt {m i j : Nat} (f : Nat → α) (hj : j < i) (hi : i ≤ m) : SL.rot (m - (i - j)) m (m + j) (exch (m - i) m j f) = SL.rot (m - i) m (m + j) f := by
  funext k
  unfold SL.rot exch
  by_cases h1 : k < m - i
  · repeat rw [if_neg (by omega)]
  · by_cases h2 : k < m - i + j
    · rw [if_neg (by omega), if_neg (by omega), if_pos (by omega), if_pos (by omega)]
    · by_cases h3 : k < m - (i - j) + j
      · rw [if_pos (by omega), if_neg (by omega), if_pos (by omega), if_neg (by omega), if_pos (by omega)]
        congr 1; omega
      · by_cases h4 : k < m + j
        · rw [if_neg (by omega), if_pos (by omega), if_neg (by omega), if_neg (by omega), if_neg (by omega), if_pos (by omega)]
        · repeat rw [if_neg (by omega)]
theorem rot_lt {m i j : Nat} (f : Nat → α) (hj : i < j) (hi : i ≤ m) : SL.rot (m - i) m (m + (j - i)) (exch (m - i) (m + j - i) i f) = SL.rot (m - i) m (m + j) f := by
  funext k
  unfold SL.rot exch
  by_cases h1 : k < m - i
  · repeat rw [if_neg (by omega)]
  · by_cases h2 : k < m - i + (j - i)
    · rw [if_pos (by omega), if_neg (by omega)]
      by_cases h5 : m + j - i ≤ k + (m - (m - i))
      · omega
      · rw [if_neg (by omega), if_pos (by omega)]
    · by_cases h3 : k < m + (j - i)
      · rw [if_neg (by omega), if_pos (by omega), if_pos (by omega), if_pos (by omega)]
        congr 1; omega
      · by_cases h4 : k < m + j
        · rw [if_neg (by omega), if_neg (by omega), if_neg (by omega), if_pos (by omega), if_neg (by omega), if_pos (by omega)]
          congr 1; omega
        · repeat rw [if_neg (by omega)]
theorem rot_eq {m i : Nat} (f : Nat → α) (hi : i ≤ m) : exch (m - i) m i f = SL.rot (m - i) m (m + i) f := by
  funext k
  unfold SL.rot exch
  by_cases h1 : k < m - i
  · repeat rw [if_neg (by omega)]
  · by_cases h2 : k < m
    · rw [if_pos (by omega), if_pos (by omega)]
    · by_cases h3 : k < m + i
      · rw [if_neg (by omega), if_pos (by omega), if_neg (by omega), if_pos (by omega)]
        congr 1; omega
      · repeat rw [if_neg (by omega)]
theorem rot_one {a i : Nat} (f : Nat → α) (h : a ≤ i) : SL.swp (SL.rot a (a + 1) (i + 1) f) i (i + 1) = SL.rot a (a + 1) (i + 2) f := by
  funext k
  unfold SL.swp SL.rot
  by_cases h1 : k = i + 1
  · subst h1
    rw [if_pos rfl, if_neg (by omega), if_pos (by omega), if_neg (by omega), if_pos (by omega)]
    congr 1; omega
  · rw [if_neg h1]
    by_cases h2 : k = i
    · subst h2
      rw [if_pos rfl, if_neg (by omega), if_neg (by omega), if_pos (by omega)]
      congr 1; omega
    · rw [if_neg h2]
      by_cases h3 : a ≤ k ∧ k < i
      · rw [if_pos (by omega), if_pos (by omega)]
      · repeat rw [if_neg (by omega)]
theorem rot_back {i m : Nat} (f : Nat → α) (h : i < m) : SL.swp (SL.rot i m (m + 1) f) i (i - 1) = SL.rot (i - 1) m (m + 1) f ∨ i = 0 := by
  rcases Nat.eq_zero_or_pos i with h0 | h0
  · exact .inr h0
  left
  funext k
  unfold SL.swp SL.rot
  by_cases h1 : k = i - 1
  · rw [if_pos h1, if_pos (by omega), if_pos (by omega)]
    congr 1; omega
  · rw [if_neg h1]
    by_cases h2 : k = i
    · rw [if_pos h2, if_neg (by omega), if_neg (by omega), if_neg (by omega), if_pos (by omega)]
      congr 1; omega
    · rw [if_neg h2]
      by_cases h3 : i < k ∧ k < m + 1
      · rw [if_neg (by omega), if_pos (by omega), if_neg (by omega), if_pos (by omega)]
      · repeat rw [if_neg (by omega)]

variable {key : α → Int} {lt bf : α → α → Prop}
def Srt (lt : α → α → Prop) (a b : Nat) (f : Nat → α) : Prop := ∀ p q, a ≤ p → p < q → q < b → lt (f p) (f q)
theorem Srt.less {a e e' : Nat} {f : Nat → α} (h : Srt lt a e f) (he : e' ≤ e) : Srt lt a e' f := fun p q p1 p2 p3 => h p q p1 p2 (by omega)
/-- An element on its way down: at j, [a, i] but for it sorted, those above it greater. -/
structure Ins (lt : α → α → Prop) (a i j : Nat) (f : Nat → α) : Prop where
  lo : a ≤ j
  hi : j ≤ i
  rest : ∀ p q, a ≤ p → p < q → q ≤ i → p ≠ j → q ≠ j → lt (f p) (f q)
  less : ∀ q, j < q → q ≤ i → lt (f j) (f q)
theorem Ins.start {a i : Nat} {f : Nat → α} (h : Srt lt a i f) (ha : a ≤ i) : Ins lt a i i f :=
  ⟨ha, Nat.le_refl _, fun p q h1 h2 h3 h4 h5 => h p q h1 h2 (by omega), fun q h1 h2 => by omega⟩
theorem Ins.step {a i j : Nat} {f : Nat → α} (h : Ins lt a i j f) (hj : a < j) (hl : lt (f j) (f (j - 1))) : Ins lt a i (j - 1) (SL.swp f j (j - 1)) := by
  obtain ⟨h1, h2, h3, h4⟩ := h
  refine ⟨by omega, by omega, fun p q p1 p2 p3 p4 p5 => ?_, fun q q1 q2 => ?_⟩
  · unfold SL.swp
    rw [if_neg p4, if_neg p5]
    by_cases e1 : p = j
    · rw [if_pos e1, if_neg (by omega)]; exact h3 _ _ (by omega) (by omega) p3 (by omega) (by omega)
    · rw [if_neg e1]
      by_cases e2 : q = j
      · rw [if_pos e2]; exact h3 _ _ p1 (by omega) (by omega) e1 (by omega)
      · rw [if_neg e2]; exact h3 _ _ p1 p2 p3 e1 e2
  · unfold SL.swp
    rw [if_pos rfl, if_neg (by omega)]
    by_cases e2 : q = j
    · rw [if_pos e2]; exact hl
    · rw [if_neg e2]; exact h4 q (by omega) q2
theorem Ins.done {a i j : Nat} {f : Nat → α} (h : Ins lt a i j f) (ht : ∀ x y z, lt x y → lt y z → lt x z) (hj : j = a ∨ lt (f (j - 1)) (f j)) : Srt lt a (i + 1) f := by
  obtain ⟨h1, h2, h3, h4⟩ := h
  intro p q p1 p2 p3
  by_cases e1 : p = j
  · subst e1; exact h4 q p2 (by omega)
  · by_cases e2 : q = j
    · subst e2
      rcases hj with rfl | hj
      · omega
      · by_cases e3 : p = q - 1
        · subst e3; exact hj
        · exact ht _ _ _ (h3 p (q - 1) p1 (by omega) (by omega) e1 (by omega)) hj
    · exact h3 p q p1 p2 (by omega) e1 e2

/-- A place at which two sorted stretches are to be cut. -/
structure Cut (lt : α → α → Prop) (a m b s e : Nat) (f : Nat → α) : Prop where
  s1 : a ≤ s
  s2 : s ≤ m
  e1 : m ≤ e
  e2 : e ≤ b
  x : a < s → e < b → lt (f (s - 1)) (f e)
  y : m < e → s < m → lt (f (e - 1)) (f s)
theorem Cut.first {a m b s e : Nat} {f : Nat → α} (h : Cut lt a m b s e f) (hs : Srt lt a m f) : Srt lt a s (SL.rot s m e f) := fun p q p1 p2 p3 => by
  have := h.s2
  unfold SL.rot
  rw [if_neg (by omega), if_neg (by omega), if_neg (by omega), if_neg (by omega)]
  exact hs p q p1 p2 (by omega)
theorem Cut.second {a m b s e : Nat} {f : Nat → α} (h : Cut lt a m b s e f) (hs : Srt lt m b f) : Srt lt s (s + (e - m)) (SL.rot s m e f) := fun p q p1 p2 p3 => by
  have := h.s2; have := h.e1; have := h.e2
  unfold SL.rot
  rw [if_pos (by omega), if_pos (by omega)]
  exact hs _ _ (by omega) (by omega) (by omega)
theorem Cut.third {a m b s e : Nat} {f : Nat → α} (h : Cut lt a m b s e f) (hs : Srt lt a m f) : Srt lt (s + (e - m)) e (SL.rot s m e f) := fun p q p1 p2 p3 => by
  have := h.s1; have := h.s2; have := h.e1; have := h.e2
  unfold SL.rot
  rw [if_neg (by omega), if_pos (by omega), if_neg (by omega), if_pos (by omega)]
  exact hs _ _ (by omega) (by omega) (by omega)
theorem Cut.fourth {a m b s e : Nat} {f : Nat → α} (h : Cut lt a m b s e f) (hs : Srt lt m b f) : Srt lt e b (SL.rot s m e f) := fun p q p1 p2 p3 => by
  have := h.s2; have := h.e1
  unfold SL.rot
  rw [if_neg (by omega), if_neg (by omega), if_neg (by omega), if_neg (by omega)]
  exact hs p q (by omega) p2 p3
theorem Cut.across {a m b s e : Nat} {f : Nat → α} (h : Cut lt a m b s e f) (ht : ∀ x y z, lt x y → lt y z → lt x z) (h1 : Srt lt a m f) (h2 : Srt lt m b f) :
    ∀ p q, a ≤ p → p < s + (e - m) → s + (e - m) ≤ q → q < b → lt (SL.rot s m e f p) (SL.rot s m e f q) := by
  obtain ⟨c1, c2, c3, c4, cx, cy⟩ := h
  intro p q p1 p2 p3 p4
  have le1 : ∀ x y, a ≤ x → x ≤ y → y < m → x = y ∨ lt (f x) (f y) := fun x y k1 k2 k3 => by
    rcases Nat.eq_or_lt_of_le k2 with k | k
    · exact .inl k
    · exact .inr (h1 x y k1 k k3)
  have le2 : ∀ x y, m ≤ x → x ≤ y → y < b → x = y ∨ lt (f x) (f y) := fun x y k1 k2 k3 => by
    rcases Nat.eq_or_lt_of_le k2 with k | k
    · exact .inl k
    · exact .inr (h2 x y k1 k k3)
  unfold SL.rot
  by_cases e1 : p < s
  · rw [if_neg (by omega), if_neg (by omega)]
    by_cases e2 : q < e
    · rw [if_neg (by omega), if_pos (by omega)]
      exact h1 _ _ p1 (by omega) (by omega)
    · rw [if_neg (by omega), if_neg (by omega)]
      have k := cx (by omega) (by omega)
      have k1 : lt (f p) (f e) := by
        rcases le1 p (s - 1) p1 (by omega) (by omega) with k2 | k2
        · rw [k2]; exact k
        · exact ht _ _ _ k2 k
      rcases le2 e q c3 (by omega) p4 with k2 | k2
      · rw [← k2]; exact k1
      · exact ht _ _ _ k1 k2
  · rw [if_pos (by omega)]
    by_cases e2 : q < e
    · rw [if_neg (by omega), if_pos (by omega)]
      have k := cy (by omega) (by omega)
      have k1 : lt (f (p + (m - s))) (f s) := by
        rcases le2 (p + (m - s)) (e - 1) (by omega) (by omega) (by omega) with k2 | k2
        · rw [k2]; exact k
        · exact ht _ _ _ k2 k
      rcases le1 s (q - (e - m)) c1 (by omega) (by omega) with k2 | k2
      · rw [← k2]; exact k1
      · exact ht _ _ _ k1 k2
    · rw [if_neg (by omega), if_neg (by omega)]
      exact h2 _ _ (by omega) (by omega) p4
/-- Two sorted stretches, all of the first below all of the second. -/
theorem Srt.join {a m b : Nat} {f : Nat → α} (h1 : Srt lt a m f) (h2 : Srt lt m b f) (h : ∀ p q, a ≤ p → p < m → m ≤ q → q < b → lt (f p) (f q)) : Srt lt a b f := fun p q p1 p2 p3 => by
  by_cases e1 : q < m
  · exact h1 p q p1 p2 e1
  · by_cases e2 : m ≤ p
    · exact h2 p q e2 p2 p3
    · exact h p q p1 (by omega) (by omega) p3
theorem RP.keep {a b : Nat} {f g : Nat → α} (x : RP a b f g) {c d : Nat} (h : d ≤ a ∨ b ≤ c) (hs : Srt lt c d f) : Srt lt c d g := fun p q p1 p2 p3 => by
  rw [x.off p (by omega), x.off q (by omega)]; exact hs p q p1 p2 p3
/-- What lies apart at a place stays apart. -/
theorem RP.apart {a b β n : Nat} {f g : Nat → α} {bf : α → α → Prop} (x : RP a b f g) (hb : b ≤ n) (h : b ≤ β ∨ β ≤ a) (hs : ∀ p q, p < β → β ≤ q → q < n → bf (f p) (f q)) : ∀ p q, p < β → β ≤ q → q < n → bf (g p) (g q) := by
  intro p q p1 p2 p3
  have e1 : ∃ p', p' < β ∧ g p = f p' := by
    by_cases k : a ≤ p ∧ p < b
    · obtain ⟨k', q1, q2, q3⟩ := x.on p k.1 k.2
      exact ⟨k', by omega, q3⟩
    · exact ⟨p, p1, x.off p (by omega)⟩
  have e2 : ∃ q', β ≤ q' ∧ q' < n ∧ g q = f q' := by
    by_cases k : a ≤ q ∧ q < b
    · obtain ⟨k', q1, q2, q3⟩ := x.on q k.1 k.2
      exact ⟨k', by omega, by omega, q3⟩
    · exact ⟨q, p2, p3, x.off q (by omega)⟩
  obtain ⟨p', k1, k2⟩ := e1
  obtain ⟨q', k3, k4, k5⟩ := e2
  rw [k2, k5]; exact hs p' q' k1 k3 k4
end
end Go.SL
