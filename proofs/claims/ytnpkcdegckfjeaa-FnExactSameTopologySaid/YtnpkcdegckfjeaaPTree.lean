/- Plain law: the code of the tree of regions, told apart from the order of the visits. -/
import Derived.Test.YtnpkcdegckfjeaaPTopo
import Derived.Sort.Walk0
namespace Go.Proofs.Ytnpkcdegckfjeaa
open Go Go.SL Go.RowKit
set_option maxRecDepth 100000

section
variable {W H : Nat} {col : Int × Int → Bool}
/-- t lies beside the region of s, and is neither in it nor in P. -/
structure Child (W H : Nat) (col : Int × Int → Bool) (P : Int × Int → Prop) (s t : Int × Int) : Prop where
  ht : inG W H t
  beside : ∃ a, Conn W H col s a ∧ t ∈ nbrs false a
  other : ¬ Conn W H col s t
  out : ¬ P t
theorem avoid_start {P : Int × Int → Prop} {s x : Int × Int} (h : Avoid W H col P s x) : inG W H s ∧ ¬ P s := by induction h <;> first | exact ⟨by assumption, by assumption⟩ | assumption
theorem avoid_trans {P : Int × Int → Prop} {s x y : Int × Int} (h : Avoid W H col P s x) (k : Avoid W H col P x y) : Avoid W H col P s y := by
  induction k with
  | base _ _ => exact h
  | step _ hn hq hp ih => exact .step ih hn hq hp
theorem avoid_symm {P : Int × Int → Prop} {s x : Int × Int} (h : Avoid W H col P s x) : Avoid W H col P x s := by
  induction h with
  | base h hp => exact .base h hp
  | step h hn hq hp ih =>
    refine avoid_trans (.step (.base hq hp) ?_ h.inG h.not) ih
    rcases hn with hn | hn
    · exact .inl (nbrs_symm hn)
    · exact .inr (conn_symm hn)
/-- A region outside P is reached whole. -/
theorem avoid_conn {P : Int × Int → Prop} (hP : ∀ p q, Conn W H col p q → P q → P p) {s x y : Int × Int} (h : Avoid W H col P s x) (hc : Conn W H col x y) : Avoid W H col P s y :=
  .step h (.inr hc) (conn_ok hc).1 fun hp => h.not (hP _ _ hc hp)
/-- P is a union of regions. -/
def Sat (W H : Nat) (col : Int × Int → Bool) (P : Int × Int → Prop) : Prop := ∀ p q, Conn W H col p q → P q → P p
theorem sat_conn (s : Int × Int) : Sat W H col (Conn W H col s) := fun _ _ h k => conn_trans k (conn_symm h)
theorem child_sat {P : Int × Int → Prop} {s t u : Int × Int} (hP : Sat W H col P) (h : Child W H col P s t) (hc : Conn W H col t u) (hb : ∃ a, Conn W H col s a ∧ u ∈ nbrs false a) : Child W H col P s u :=
  ⟨(conn_ok hc).1, hb, fun k => h.other (conn_trans k (conn_symm hc)), fun k => h.out (hP _ _ hc k)⟩

/-- P is the place the visit of s comes from: nothing, or one region beside s. -/
def From (W H : Nat) (col : Int × Int → Bool) (P : Int × Int → Prop) (s : Int × Int) : Prop :=
  (∀ q, ¬ P q) ∨ ∃ r, P = Conn W H col r ∧ ¬ Conn W H col r s ∧ ∃ a, Conn W H col r a ∧ s ∈ nbrs false a
theorem From.sat {P : Int × Int → Prop} {s : Int × Int} (h : From W H col P s) : Sat W H col P := by
  rcases h with h | ⟨r, rfl, _⟩
  · exact fun p q _ k => absurd k (h q)
  · exact sat_conn r
theorem From.not {P : Int × Int → Prop} {s : Int × Int} (h : From W H col P s) : ¬ P s := by
  rcases h with h | ⟨r, rfl, h, _⟩
  · exact h s
  · exact h
theorem Child.from_ {P : Int × Int → Prop} {s t : Int × Int} (h : Child W H col P s t) : From W H col (Conn W H col s) t := .inr ⟨s, rfl, h.other, h.beside⟩

/-- Two children that meet outside are one. -/
theorem child_one {P : Int × Int → Prop} {s t u : Int × Int} (h : Child W H col P s t) (k : Child W H col P s u) (ha : Avoid W H col (Conn W H col s) t u) : Conn W H col t u := by
  obtain ⟨a, ha1, ha2⟩ := h.beside
  obtain ⟨b, hb1, hb2⟩ := k.beside
  have e : Conn W H col s = Conn W H col a := by
    funext x; exact propext ⟨fun k => conn_trans (conn_symm ha1) k, fun k => conn_trans ha1 k⟩
  rw [e] at ha
  exact key ha2 hb2 (conn_trans (conn_symm ha1) hb1) (fun k => h.other (conn_trans ha1 k)) ha
/-- What lies below a child lies below s. -/
theorem child_avoid {P : Int × Int → Prop} {s t x : Int × Int} (hs : inG W H s) (hf : From W H col P s) (h : Child W H col P s t) (ha : Avoid W H col (Conn W H col s) t x) : Avoid W H col P s x := by
  have hst : Avoid W H col P s t := by
    obtain ⟨a, ha1, ha2⟩ := h.beside
    exact .step (avoid_conn hf.sat (.base hs hf.not) ha1) (.inl ha2) h.ht h.out
  have hnP : ∀ {y}, Avoid W H col (Conn W H col s) t y → ¬ P y := by
    intro y hy hp
    rcases hf with hf | ⟨r, rfl, hrs, a, ha1, ha2⟩
    · exact hf y hp
    · -- the parent region meets t outside s
      have hra : Conn W H col y a := conn_trans (conn_symm hp) ha1
      have hta : Avoid W H col (Conn W H col s) t a := avoid_conn (sat_conn s) hy hra
      have : Conn W H col t a := by
        obtain ⟨b, hb1, hb2⟩ := h.beside
        have e : Conn W H col s = Conn W H col b := by
          funext x; exact propext ⟨fun k => conn_trans (conn_symm hb1) k, fun k => conn_trans hb1 k⟩
        rw [e] at hta
        exact key hb2 (nbrs_symm ha2) (conn_symm hb1) (fun k => h.other (conn_trans hb1 k)) hta
      exact h.out (conn_trans ha1 (conn_symm this))
  induction ha with
  | base _ _ => exact hst
  | step h' hn hq hp ih => exact .step ih hn hq (hnP (.step h' hn hq hp))

/-! ### Codes -/
def joinB (l : List ByteArray) : ByteArray := l.foldl (· ++ ·) (ByteArray.mk #[40])
def sortB (l : List ByteArray) : List ByteArray := l.foldl (fun acc c => insertB c acc) []
def encB (l : List ByteArray) : ByteArray := joinB (sortB l) ++ ByteArray.mk #[41]
def depB (l : List Int) : Int := l.foldl (fun m d => max m (d + 1)) 0

theorem lessB_eq (a b : ByteArray) : lessB a b = decide (a.toList < b.toList) := Go.Proofs.bytesLess_eq _ _
theorem toList_inj {a b : ByteArray} (h : a.toList = b.toList) : a = b := by
  have := str_beq a b
  rw [h] at this
  simpa using this
theorem lessB_asymm {a b : ByteArray} (h : lessB a b = true) : lessB b a = false := by
  rw [lessB_eq, decide_eq_true_iff] at h
  rw [lessB_eq, decide_eq_false_iff_not]
  exact List.lt_asymm h
theorem leB_trans {a b c : ByteArray} (h : lessB b a = false) (k : lessB c b = false) : lessB c a = false := by
  rw [lessB_eq, decide_eq_false_iff_not, List.not_lt] at *
  exact List.le_trans h k
theorem leB_anti {a b : ByteArray} (h : lessB b a = false) (k : lessB a b = false) : a = b := by
  rw [lessB_eq, decide_eq_false_iff_not, List.not_lt] at *
  exact toList_inj (List.le_antisymm h k)
/-- Nowhere does a later one come before. -/
def Ord (l : List ByteArray) : Prop := l.Pairwise fun a b => lessB b a = false
theorem ord_unique {l m : List ByteArray} (h : l.Perm m) (a : Ord l) (b : Ord m) : l = m :=
  List.Perm.eq_of_pairwise (fun _ _ _ _ h k => leB_anti h k) a b h
theorem insertB_cons (c x : ByteArray) (l : List ByteArray) : insertB c (x :: l) = if lessB x c then x :: insertB c l else c :: x :: l := by
  unfold insertB
  cases h : lessB x c
  · rw [List.takeWhile_cons_of_neg (by rw [h]; simp), List.dropWhile_cons_of_neg (by rw [h]; simp)]; simp
  · rw [List.takeWhile_cons_of_pos (p := fun x => lessB x c) h, List.dropWhile_cons_of_pos (p := fun x => lessB x c) h]; simp
theorem insertB_perm (c : ByteArray) : ∀ l, (insertB c l).Perm (c :: l)
  | [] => .refl _
  | x :: l => by
    rw [insertB_cons]
    split
    · exact ((insertB_perm c l).cons x).trans (.swap _ _ _)
    · exact .refl _
theorem insertB_ord (c : ByteArray) : ∀ l, Ord l → Ord (insertB c l)
  | [], _ => List.pairwise_singleton _ _
  | x :: l, h => by
    obtain ⟨h1, h2⟩ := List.pairwise_cons.1 h
    rw [insertB_cons]
    split
    · rename_i hx
      refine List.pairwise_cons.2 ⟨fun y hy => ?_, insertB_ord c l h2⟩
      rcases List.mem_cons.1 ((insertB_perm c l).mem_iff.1 hy) with rfl | hy
      · exact lessB_asymm hx
      · exact h1 y hy
    · rename_i hx
      have hx : lessB x c = false := by simpa using hx
      refine List.pairwise_cons.2 ⟨fun y hy => ?_, h⟩
      rcases List.mem_cons.1 hy with rfl | hy
      · exact hx
      · exact leB_trans hx (h1 y hy)
theorem insertB_len (c : ByteArray) (l : List ByteArray) : (insertB c l).length = l.length + 1 := (insertB_perm c l).length_eq
theorem sortB_aux (l : List ByteArray) : ∀ acc, Ord acc → Ord (l.foldl (fun acc c => insertB c acc) acc) ∧ (l.foldl (fun acc c => insertB c acc) acc).Perm (acc ++ l) := by
  induction l with
  | nil => intro acc h; exact ⟨h, by simp⟩
  | cons x l ih =>
    intro acc h
    obtain ⟨h1, h2⟩ := ih (insertB x acc) (insertB_ord x acc h)
    exact ⟨h1, h2.trans (((insertB_perm x acc).append_right l).trans (List.perm_middle.symm))⟩
theorem sortB_ord (l : List ByteArray) : Ord (sortB l) := (sortB_aux l [] List.Pairwise.nil).1
theorem sortB_perm (l : List ByteArray) : (sortB l).Perm l := by
  have h := (sortB_aux l [] List.Pairwise.nil).2
  rw [List.nil_append] at h; exact h
theorem sortB_of {l m : List ByteArray} (h : m.Perm l) (ho : Ord m) : sortB l = m := ord_unique ((sortB_perm l).trans h.symm) (sortB_ord l) ho
theorem sortB_congr {l m : List ByteArray} (h : l.Perm m) : sortB l = sortB m := ord_unique ((sortB_perm l).trans (h.trans (sortB_perm m).symm)) (sortB_ord l) (sortB_ord m)
theorem encB_congr {l m : List ByteArray} (h : l.Perm m) : encB l = encB m := by unfold encB; rw [sortB_congr h]
theorem depB_congr {l m : List Int} (h : l.Perm m) : depB l = depB m := by
  unfold depB
  exact h.foldl_eq' (f := fun m d => max m (d + 1)) (by intros; omega) 0

/-- The code c and the depth d of what lies at s when P is behind. -/
inductive CodeOf (W H : Nat) (col : Int × Int → Bool) : (Int × Int → Prop) → (Int × Int) → ByteArray → Int → Prop
  | mk {P : Int × Int → Prop} {s : Int × Int} (ts : List (Int × Int)) (f : Int × Int → ByteArray × Int) (h : ∀ t ∈ ts, CodeOf W H col (Conn W H col s) t (f t).1 (f t).2)
    (hp : ts.Pairwise fun t u => ¬ Conn W H col t u) (hc : ∀ t ∈ ts, Child W H col P s t) (ha : ∀ t, Child W H col P s t → ∃ u ∈ ts, Conn W H col u t) :
    CodeOf W H col P s (encB (ts.map fun t => (f t).1)) (depB (ts.map fun t => (f t).2))

/-- Two covers of the same regions give the same values, up to their order. -/
theorem cover_perm {β : Type} (f g : Int × Int → β) : ∀ (ts us : List (Int × Int)), ts.Pairwise (fun t u => ¬ Conn W H col t u) → us.Pairwise (fun t u => ¬ Conn W H col t u) →
    (∀ t ∈ ts, inG W H t) → (∀ t ∈ us, inG W H t) → (∀ t ∈ ts, ∃ u ∈ us, Conn W H col t u) → (∀ u ∈ us, ∃ t ∈ ts, Conn W H col t u) → (∀ t ∈ ts, ∀ u ∈ us, Conn W H col t u → f t = g u) → (ts.map f).Perm (us.map g)
  | [], us, _, _, _, _, _, h2, _ => by
    cases us with
    | nil => exact .refl _
    | cons u us => obtain ⟨t, ht, _⟩ := h2 u List.mem_cons_self; cases ht
  | t :: ts, us, hp, hq, hi, hj, h1, h2, h3 => by
    obtain ⟨u, hu, htu⟩ := h1 t List.mem_cons_self
    obtain ⟨a, b, rfl⟩ := List.append_of_mem hu
    obtain ⟨hp1, hp2⟩ := List.pairwise_cons.1 hp
    have hperm : (a ++ u :: b).Perm (u :: (a ++ b)) := List.perm_middle
    have hq' : (u :: (a ++ b)).Pairwise fun t u => ¬ Conn W H col t u := hperm.pairwise_iff (fun h k => h (conn_symm k)) |>.1 hq
    obtain ⟨hq1, hq2⟩ := List.pairwise_cons.1 hq'
    have hm : ∀ x, x ∈ a ++ b → x ∈ a ++ u :: b := fun x hx => hperm.mem_iff.2 (List.mem_cons_of_mem _ hx)
    refine List.Perm.trans ?_ (hperm.map g).symm
    rw [List.map_cons, List.map_cons, h3 t List.mem_cons_self u hu htu]
    refine List.Perm.cons _ (cover_perm f g ts (a ++ b) hp2 hq2 (fun x hx => hi x (List.mem_cons_of_mem _ hx)) (fun x hx => hj x (hm x hx)) (fun x hx => ?_) (fun x hx => ?_) (fun x hx y hy => h3 x (List.mem_cons_of_mem _ hx) y (hm y hy)))
    · obtain ⟨y, hy, hxy⟩ := h1 x (List.mem_cons_of_mem _ hx)
      rcases List.mem_cons.1 (hperm.mem_iff.1 hy) with rfl | hy
      · exact absurd (conn_trans htu (conn_symm hxy)) (hp1 x hx)
      · exact ⟨y, hy, hxy⟩
    · obtain ⟨y, hy, hyx⟩ := h2 x (hm x hx)
      rcases List.mem_cons.1 hy with rfl | hy
      · exact absurd (conn_trans (conn_symm htu) hyx) (hq1 x hx)
      · exact ⟨y, hy, hyx⟩

theorem CodeOf.unique {P : Int × Int → Prop} {s : Int × Int} {c : ByteArray} {d : Int} (h : CodeOf W H col P s c d) : ∀ {s' : Int × Int} {c' : ByteArray} {d' : Int}, Sat W H col P → Conn W H col s s' → CodeOf W H col P s' c' d' → c = c' ∧ d = d' := by
  induction h with
  | mk ts f h hp hc ha ih =>
    rename_i P s
    intro s' c' d' hP hs k
    cases k with
    | mk us g k kp kc ka =>
      have e : Conn W H col s = Conn W H col s' := by
        funext x; exact propext ⟨fun k => conn_trans (conn_symm hs) k, fun k => conn_trans hs k⟩
      have hch : ∀ t, Child W H col P s t ↔ Child W H col P s' t := fun t =>
        ⟨fun h => ⟨h.ht, by rw [← e]; exact h.beside, by rw [← e]; exact h.other, h.out⟩, fun h => ⟨h.ht, by rw [e]; exact h.beside, by rw [e]; exact h.other, h.out⟩⟩
      have hfg : ∀ t ∈ ts, ∀ u ∈ us, Conn W H col t u → f t = g u := fun t ht u hu htu => by
        have := ih t ht (sat_conn s) htu (by rw [e]; exact k u hu)
        exact Prod.ext this.1 this.2
      have hperm := cover_perm (W := W) (H := H) (col := col) f g ts us hp kp (fun t ht => (hc t ht).ht) (fun t ht => (kc t ht).ht) (fun t ht => by obtain ⟨u, hu, h⟩ := ka t ((hch t).1 (hc t ht)); exact ⟨u, hu, conn_symm h⟩)
        (fun u hu => ha u ((hch u).2 (kc u hu))) hfg
      exact ⟨encB_congr (by simpa [Function.comp_def] using hperm.map Prod.fst), depB_congr (by simpa [Function.comp_def] using hperm.map Prod.snd)⟩

/-! ### How many cells are marked -/
def grid (W H : Nat) : List (Int × Int) := (List.range (W * H)).map fun i => (((i % W : Nat) : Int), ((i / W : Nat) : Int))
theorem mem_grid {p : Int × Int} (h : inG W H p) : p ∈ grid W H := all_grid p h
open Classical in
noncomputable def cnt (W H : Nat) (V : Int × Int → Prop) : Nat := (grid W H).countP fun p => decide (V p)
theorem cnt_le (V : Int × Int → Prop) : cnt W H V ≤ W * H := by
  unfold cnt
  refine Nat.le_trans List.countP_le_length ?_
  simp [grid]
theorem cnt_mono {V V' : Int × Int → Prop} (h : ∀ p, V p → V' p) : cnt W H V ≤ cnt W H V' := by
  unfold cnt
  exact List.countP_mono_left fun p _ hp => by simpa using h p (by simpa using hp)
theorem countP_lt {α : Type} {f g : α → Bool} (h : ∀ x, f x = true → g x = true) {q : α} (hf : f q = false) (hg : g q = true) : ∀ l : List α, q ∈ l → l.countP f + 1 ≤ l.countP g
  | [], hq => by cases hq
  | x :: l, hq => by
    rw [List.countP_cons, List.countP_cons]
    have hm : l.countP f ≤ l.countP g := List.countP_mono_left fun p _ => h p
    rcases List.mem_cons.1 hq with rfl | hq
    · rw [hf, hg]; simp; exact hm
    · have ih := countP_lt h hf hg l hq
      cases hx : f x
      · simp; split <;> omega
      · rw [h x hx]; simp; omega
theorem cnt_lt {V V' : Int × Int → Prop} (h : ∀ p, V p → V' p) {q : Int × Int} (hq : inG W H q) (h0 : ¬ V q) (h1 : V' q) : cnt W H V + 1 ≤ cnt W H V' := by
  unfold cnt
  exact countP_lt (fun p hp => by simpa using h p (by simpa using hp)) (by simpa using h0) (by simpa using h1) _ (mem_grid hq)
theorem joinB_size (l : List ByteArray) : ∀ a : ByteArray, (l.foldl (· ++ ·) a).size = a.size + (l.map ByteArray.size).sum := by
  induction l with
  | nil => intro a; simp
  | cons x l ih => intro a; rw [List.foldl_cons, ih, ByteArray.size_append]; simp; omega
theorem encB_size (l : List ByteArray) : (encB l).size = 2 + (l.map ByteArray.size).sum := by
  unfold encB joinB
  rw [ByteArray.size_append, joinB_size, ((sortB_perm l).map _).sum_nat]
  show 1 + _ + 1 = _
  omega
theorem depB_aux (B : Int) : ∀ (l : List Int) (m : Int), 0 ≤ m → m ≤ B → (∀ d ∈ l, d + 1 ≤ B) → 0 ≤ l.foldl (fun m d => max m (d + 1)) m ∧ l.foldl (fun m d => max m (d + 1)) m ≤ B
  | [], m, h, k, _ => ⟨h, k⟩
  | x :: l, m, h, k, hl => by
    have := hl x List.mem_cons_self
    exact depB_aux B l _ (by show 0 ≤ max m (x + 1); omega) (by show max m (x + 1) ≤ B; omega) fun d hd => hl d (List.mem_cons_of_mem _ hd)
theorem depB_le {B : Int} {l : List Int} (hB : 0 ≤ B) (hl : ∀ d ∈ l, d + 1 ≤ B) : 0 ≤ depB l ∧ depB l ≤ B := depB_aux B l 0 (Int.le_refl 0) hB hl

/-! ### The visits -/
/-- s is taken: its region and P are marked, and nothing below. -/
structure Begun (W H : Nat) (col : Int × Int → Bool) (P : Int × Int → Prop) (s : Int × Int) (V : Int × Int → Prop) : Prop where
  hs : inG W H s
  fr : From W H col P s
  own : ∀ q, Conn W H col s q → V q
  back : ∀ q, P q → V q
  free : ∀ t, Child W H col P s t → ∀ x, Avoid W H col (Conn W H col s) t x → ¬ V x
/-- Some children are done. -/
structure Dfs (W H : Nat) (col : Int × Int → Bool) (P : Int × Int → Prop) (s : Int × Int) (V0 V : Int × Int → Prop) (ts : List (Int × Int)) (f : Int × Int → ByteArray × Int) : Prop where
  b : Begun W H col P s V0
  more : ∀ q, V0 q → V q
  less : ∀ q, V q → V0 q ∨ ∃ t, Child W H col P s t ∧ Avoid W H col (Conn W H col s) t q
  code : ∀ t ∈ ts, CodeOf W H col (Conn W H col s) t (f t).1 (f t).2
  two : ts.Pairwise fun t u => ¬ Conn W H col t u
  chi : ∀ t ∈ ts, Child W H col P s t
  own : ∀ t ∈ ts, ∀ q, Conn W H col t q → V q
  free : ∀ t, Child W H col P s t → (∀ u ∈ ts, ¬ Conn W H col u t) → ∀ x, Avoid W H col (Conn W H col s) t x → ¬ V x
  nlen : ts.length + cnt W H V0 ≤ cnt W H V
  nsiz : (ts.map fun t => (f t).1.size).sum + 2 * cnt W H V0 ≤ 2 * cnt W H V
  ndep : ∀ t ∈ ts, 0 ≤ (f t).2 ∧ (f t).2 + 1 + cnt W H V0 ≤ cnt W H V
theorem Dfs.start {P : Int × Int → Prop} {s : Int × Int} {V : Int × Int → Prop} (h : Begun W H col P s V) (f : Int × Int → ByteArray × Int) : Dfs W H col P s V V [] f :=
  ⟨h, fun _ h => h, fun _ h => .inl h, by simp, List.Pairwise.nil, by simp, by simp, fun t ht _ => h.free t ht, by simp, by simp, by simp⟩
/-- A free cell beside the region is a child, and its visit can begin. -/
theorem Dfs.found {P : Int × Int → Prop} {s : Int × Int} {V0 V : Int × Int → Prop} {ts : List (Int × Int)} {f : Int × Int → ByteArray × Int} (h : Dfs W H col P s V0 V ts f) {a q : Int × Int} (ha : Conn W H col s a) (hq : inG W H q) (hn : q ∈ nbrs false a) (hv : ¬ V q) :
    Child W H col P s q ∧ (∀ u ∈ ts, ¬ Conn W H col u q) ∧ ∀ V', (∀ x, V' x ↔ V x ∨ Conn W H col q x) → Begun W H col (Conn W H col s) q V' := by
  have hc : Child W H col P s q := ⟨hq, ⟨a, ha, hn⟩, fun k => hv (h.more _ (h.b.own _ k)), fun k => hv (h.more _ (h.b.back _ k))⟩
  have hnew : ∀ u ∈ ts, ¬ Conn W H col u q := fun u hu k => hv (h.own u hu q k)
  refine ⟨hc, hnew, fun V' hV' => ⟨hq, hc.from_, fun x hx => (hV' x).2 (.inr hx), fun x hx => (hV' x).2 (.inl (h.more _ (h.b.own _ hx))), fun t ht x hx hx' => ?_⟩⟩
  rcases (hV' x).1 hx' with hx' | hx'
  · exact h.free q hc hnew x (child_avoid hq hc.from_ ht hx) hx'
  · exact hx.not hx'
/-- The child is done. -/
theorem Dfs.next {P : Int × Int → Prop} {s : Int × Int} {V0 V : Int × Int → Prop} {ts : List (Int × Int)} {f : Int × Int → ByteArray × Int} (h : Dfs W H col P s V0 V ts f) {q : Int × Int} {c : ByteArray} {d : Int} {V' V'' : Int × Int → Prop} (hc : Child W H col P s q) (hnew : ∀ u ∈ ts, ¬ Conn W H col u q)
    (hV' : ∀ x, V' x ↔ V x ∨ Conn W H col q x) (h1 : ∀ x, V' x → V'' x) (h2 : ∀ x, V'' x → V' x ∨ ∃ t, Child W H col (Conn W H col s) q t ∧ Avoid W H col (Conn W H col q) t x) (hcode : CodeOf W H col (Conn W H col s) q c d) (hz : c.size + 2 * cnt W H V' ≤ 2 + 2 * cnt W H V'') (hd : 0 ≤ d ∧ d + cnt W H V' ≤ cnt W H V'') (hq : ¬ V q) :
    Dfs W H col P s V0 V'' (ts ++ [q]) (fun t => if t = q then (c, d) else f t) := by
  have hlow : ∀ x, V'' x → V x ∨ Avoid W H col (Conn W H col s) q x := fun x hx => by
    rcases h2 x hx with hx | ⟨t, ht, hx⟩
    · rcases (hV' x).1 hx with hx | hx
      · exact .inl hx
      · exact .inr (avoid_conn (sat_conn s) (.base hc.ht hc.other) hx)
    · exact .inr (child_avoid hc.ht hc.from_ ht hx)
  have hlt : cnt W H V + 1 ≤ cnt W H V' := cnt_lt (fun x hx => (hV' x).2 (.inl hx)) hc.ht hq ((hV' q).2 (.inr (conn_refl hc.ht)))
  have hle : cnt W H V' ≤ cnt W H V'' := cnt_mono h1
  have hne : ∀ u ∈ ts, u ≠ q := fun u hu e => hnew u hu (e ▸ conn_refl (e ▸ hc.ht))
  refine ⟨h.b, fun x hx => h1 x ((hV' x).2 (.inl (h.more x hx))), fun x hx => ?_, fun t ht => ?_, ?_, fun t ht => ?_, fun t ht x hx => ?_, fun t ht hn x hx hv => ?_, ?_, ?_, fun t ht => ?_⟩
  · rcases hlow x hx with hx | hx
    · exact h.less x hx
    · exact .inr ⟨q, hc, hx⟩
  · rcases List.mem_append.1 ht with ht | ht
    · have e : (if t = q then (c, d) else f t) = f t := if_neg (hne t ht)
      rw [e]; exact h.code t ht
    · rw [List.mem_singleton] at ht; subst ht
      have e : (if t = t then (c, d) else f t) = (c, d) := if_pos rfl
      rw [e]; exact hcode
  · rw [List.pairwise_append]
    exact ⟨h.two, List.pairwise_singleton _ _, fun a ha b hb => by rw [List.mem_singleton] at hb; subst hb; exact hnew a ha⟩
  · rcases List.mem_append.1 ht with ht | ht
    · exact h.chi t ht
    · rw [List.mem_singleton] at ht; subst ht; exact hc
  · refine h1 x ((hV' x).2 ?_)
    rcases List.mem_append.1 ht with ht | ht
    · exact .inl (h.own t ht x hx)
    · rw [List.mem_singleton] at ht; subst ht; exact .inr hx
  · rcases hlow x hv with hv | hv
    · exact h.free t ht (fun u hu => hn u (List.mem_append_left _ hu)) x hx hv
    · exact hn q (List.mem_append_right _ (List.mem_singleton_self q)) (child_one hc ht (avoid_trans hv (avoid_symm hx)))
  · have := h.nlen; rw [List.length_append, List.length_singleton]; omega
  · have := h.nsiz
    have e1 : ts.map (fun t => (if t = q then (c, d) else f t).1.size) = ts.map (fun t => (f t).1.size) := List.map_congr_left fun t ht => by rw [if_neg (hne t ht)]
    rw [List.map_append, List.sum_append, e1]
    simp only [List.map_cons, List.map_nil, List.sum_cons, List.sum_nil, if_pos]
    omega
  · rcases List.mem_append.1 ht with ht | ht
    · have e : (if t = q then (c, d) else f t) = f t := if_neg (hne t ht)
      have := h.ndep t ht
      rw [e]; omega
    · rw [List.mem_singleton] at ht; subst ht
      have e : (if t = t then (c, d) else f t) = (c, d) := if_pos rfl
      have := cnt_mono h.more (W := W) (H := H)
      rw [e]; simp only; omega
/-- A marked cell beside the region is covered. -/
theorem Dfs.seen {P : Int × Int → Prop} {s : Int × Int} {V0 V : Int × Int → Prop} {ts : List (Int × Int)} {f : Int × Int → ByteArray × Int} (h : Dfs W H col P s V0 V ts f) {q : Int × Int} (hv : V q) (hc : Child W H col P s q) : ∃ u ∈ ts, Conn W H col u q := by
  apply Classical.byContradiction
  intro hn
  exact h.free q hc (fun u hu k => hn ⟨u, hu, k⟩) q (.base hc.ht hc.other) hv
/-- The sizes of the end. -/
theorem Dfs.sizes {P : Int × Int → Prop} {s : Int × Int} {V0 V : Int × Int → Prop} {ts : List (Int × Int)} {f : Int × Int → ByteArray × Int} (h : Dfs W H col P s V0 V ts f) :
    (encB (ts.map fun t => (f t).1)).size + 2 * cnt W H V0 ≤ 2 + 2 * cnt W H V ∧ 0 ≤ depB (ts.map fun t => (f t).2) ∧ depB (ts.map fun t => (f t).2) + cnt W H V0 ≤ cnt W H V := by
  have h1 := h.nsiz
  have h2 := cnt_mono h.more (W := W) (H := H)
  have h3 := depB_le (B := (cnt W H V : Int) - cnt W H V0) (l := ts.map fun t => (f t).2) (by omega) (fun d hd => by
    obtain ⟨t, ht, rfl⟩ := List.mem_map.1 hd
    have := h.ndep t ht; omega)
  rw [encB_size, List.map_map]
  refine ⟨?_, h3.1, by omega⟩
  show 2 + (ts.map fun t => (f t).1.size).sum + _ ≤ _
  omega
/-- All is done. -/
theorem Dfs.done {P : Int × Int → Prop} {s : Int × Int} {V0 V : Int × Int → Prop} {ts : List (Int × Int)} {f : Int × Int → ByteArray × Int} (h : Dfs W H col P s V0 V ts f) (ha : ∀ t, Child W H col P s t → ∃ u ∈ ts, Conn W H col u t) :
    CodeOf W H col P s (encB (ts.map fun t => (f t).1)) (depB (ts.map fun t => (f t).2)) := .mk ts f h.code h.two h.chi ha
end
end Go.Proofs.Ytnpkcdegckfjeaa
