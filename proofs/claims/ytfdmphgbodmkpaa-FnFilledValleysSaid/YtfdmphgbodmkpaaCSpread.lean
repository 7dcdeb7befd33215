/- Contracts of around and spread: the neighbours of a spot; what is reached over spots. -/
import Derived.Test.YtfdmphgbodmkpaaCMade
set_option linter.unusedVariables false
set_option linter.unusedSimpArgs false
namespace Go.Proofs.Ytfdmphgbodmkpaa
open Go Go.SL Go.RowKit
set_option maxRecDepth 100000

/-- The nine steps in reading order. -/
def nine : List (Int × Int) := [(-1, -1), (0, -1), (1, -1), (-1, 0), (0, 0), (1, 0), (-1, 1), (0, 1), (1, 1)]
def stepOk (e : Bool) (d : Int × Int) : Bool := (d.1 != 0 || d.2 != 0) && (e || d.1 == 0 || d.2 == 0)
def nbrs (e : Bool) (p : Int × Int) : List (Int × Int) := ((nine.filter (stepOk e)).map fun d => (p.1 + d.1, p.2 + d.2))
def nbrsPre (e : Bool) (p : Int × Int) (n : Nat) : List (Int × Int) := (((nine.take n).filter (stepOk e)).map fun d => (p.1 + d.1, p.2 + d.2))
theorem nbrs_le (e : Bool) (p : Int × Int) : (nbrs e p).length ≤ 8 := by cases e <;> simp [nbrs, nine, stepOk]
theorem nbrsPre_le (e : Bool) (p : Int × Int) (n : Nat) : (nbrsPre e p n).length ≤ 9 := by
  unfold nbrsPre
  rw [List.length_map]
  refine Nat.le_trans (List.length_filter_le _ _) ?_
  rw [List.length_take]; simp [nine]; omega
theorem nbrsPre_step (e : Bool) (p d : Int × Int) (n : Nat) (h : nine[n]? = some d) : nbrsPre e p (n + 1) = nbrsPre e p n ++ (if stepOk e d then [(p.1 + d.1, p.2 + d.2)] else []) := by
  unfold nbrsPre
  obtain ⟨hn, hd⟩ := List.getElem?_eq_some_iff.1 h
  rw [List.take_succ_eq_append_getElem hn, hd, List.filter_append, List.map_append]
  congr 1
  by_cases hs : stepOk e d = true <;> simp [hs]

/-- The slice value v holds the spots l; it lies over block b. -/
def OwnSpots (w : World) (v : Value) (l : List (Int × Int)) (b : Nat) : Prop := ∃ o c, v = sl b o l.length c ∧ Sl w ty_impl_Spot 2 b o l.length c (pairCells l)
theorem OwnSpots.lt {w : World} {v : Value} {l : List (Int × Int)} {b : Nat} (h : OwnSpots w v l b) : b < w.heap.size := by obtain ⟨o, c, _, h⟩ := h; exact h.lt
theorem OwnSpots.mod {S : Nat → Prop} {w w' : World} {v : Value} {l : List (Int × Int)} {b : Nat} (h : OwnSpots w v l b) (hm : Mod S w w') (hS : ¬ S b) : OwnSpots w' v l b := by
  obtain ⟨o, c, h1, h2⟩ := h
  exact ⟨o, c, h1, h2.mod hm hS⟩
theorem OwnSpots.ext {w w' : World} {v : Value} {l : List (Int × Int)} {b : Nat} (h : OwnSpots w v l b) (hm : Ext w w') : OwnSpots w' v l b := h.mod hm id
theorem OwnSpots.row {w : World} {v : Value} {l : List (Int × Int)} {b : Nat} (h : OwnSpots w v l b) : ∃ cs, w.heap[b]? = some (row cs ty_impl_Spot) := by obtain ⟨o, c, _, h⟩ := h; obtain ⟨cs, h, _⟩ := h.cells; exact ⟨cs, h⟩

theorem spots_nil_i {w : World} {T : TypeId} {K : Value → World → Prop} (hT : T = ty_Simpl_Spot) (hK : ∀ v b w1, Ext w w1 → w.heap.size ≤ b → OwnSpots w1 v [] b → K v w1) : eff Pg (Instr.buildSlice T 0 #[]) w K := by
  subst hT
  refine buildSlice_i (size := 2) (cells := #[]) rfl (by omega) (by kernel_rfl) fun b w1 h1 => ?_
  have hsl : Sl w1 ty_impl_Spot 2 b 0 0 0 [] := Sl.of_row h1.at_ rfl
  exact hK _ b w1 h1.ext h1.old ⟨0, 0, rfl, hsl⟩
theorem spots_one_i {w : World} {T : TypeId} {p : Int × Int} {K : Value → World → Prop} (hT : T = ty_Simpl_Spot) (hK : ∀ v b w1, Ext w w1 → w.heap.size ≤ b → OwnSpots w1 v [p] b → K v w1) : eff Pg (Instr.buildSlice T 1 #[(0, pairV p)]) w K := by
  subst hT
  refine buildSlice_i (size := 2) (cells := #[i64 p.1, i64 p.2]) rfl (by omega) (by kernel_rfl) fun b w1 h1 => ?_
  have hsl : Sl w1 ty_impl_Spot 2 b 0 1 1 (pairCells [p]) := Sl.of_row h1.at_ rfl
  exact hK _ b w1 h1.ext h1.old ⟨0, 1, rfl, hsl⟩

theorem spots_app_i {w : World} {T1 T2 T3 ty : TypeId} {v : Value} {l : List (Int × Int)} {b : Nat} {p : Int × Int} {K : Value → World → Prop} (hT : T1 = ty_Simpl_Spot ∧ T2 = ty_Simpl_Spot ∧ T3 = ty_Simpl_Spot) (h : OwnSpots w v l b) (hn : l.length < 1000000)
    (hK : ∀ v' w' b', (b' = b ∨ w.heap.size ≤ b') → Mod (· = b) w w' → OwnSpots w' v' (l ++ [p]) b' → K v' w') :
    eff Pg (Instr.buildSlice T1 1 #[(0, pairV p)]) w fun t w => eff Pg (Builtin.append_ #[T2, T3] ty #[v, t]) w K := by
  obtain ⟨rfl, rfl, rfl⟩ := hT
  obtain ⟨o, c, rfl, hsl⟩ := h
  refine app1_i (size := 2) rfl rfl (by omega) (by omega) (by decide) (by decide) hsl rfl (by kernel_rfl) (by intro v hv; simp [pairV, Value.cells] at hv; rcases hv with rfl | rfl <;> rfl) hn fun b' o' c' w' hor hm hsl' => ?_
  refine hK _ w' b' hor hm ⟨o', c', by simp, ?_⟩
  simpa [pairCells, pairV, Value.cells] using hsl'

theorem spots_len_i {w : World} {T ty : TypeId} {v : Value} {l : List (Int × Int)} {b : Nat} {K : Value → Prop} (hT : T = ty_Simpl_Spot) (h : OwnSpots w v l b) (hK : K (i64 l.length)) : rd Pg (Builtin.len_ #[T] ty #[v]) w K := by
  subst hT
  obtain ⟨o, c, rfl, _⟩ := h
  exact lenS_i rfl hK
/-- An element by its place. -/
theorem spots_at_i {w : World} {T : TypeId} {v : Value} {l : List (Int × Int)} {b : Nat} {j : Int} {p : Int × Int} {K : Value → Prop} (hT : T = ty_Simpl_Spot) (h : OwnSpots w v l b) (h0 : 0 ≤ j) (hp : l[j.toNat]? = some p)
    (hK : ∀ a cs, w.heap[b]? = some (row cs ty_impl_Spot) → a + 2 ≤ cs.size → cs.extract a (a + 2) = #[i64 p.1, i64 p.2] → K (ptr b a)) : pur Pg (Instr.indexAt T v (i64 j)) K := by
  subst hT
  obtain ⟨o, c, rfl, hsl⟩ := h
  have hlt : j.toNat < l.length := (List.getElem?_eq_some_iff.1 hp).1
  refine idx_i (size := 2) rfl h0 (by omega) ?_
  obtain ⟨cs, h1, h2, h3⟩ := hsl.cells
  have hle := hsl.le
  obtain ⟨q1, q2⟩ := pairCells_get hp
  refine hK _ cs h1 (by omega) ?_
  rw [← h3, List.getElem?_take] at q1 q2
  rw [if_pos (by omega), List.getElem?_drop] at q1 q2
  apply Array.ext'
  simp only [Array.toList_extract, List.extract_eq_take_drop, Nat.add_sub_cancel_left]
  have e0 : o + j.toNat * 2 < cs.toList.length := by rw [Array.length_toList]; omega
  have e1 : o + j.toNat * 2 + 1 < cs.toList.length := by rw [Array.length_toList]; omega
  rw [List.drop_eq_getElem_cons e0, List.drop_eq_getElem_cons e1]
  rw [show o + 2 * j.toNat = o + j.toNat * 2 by omega, List.getElem?_eq_getElem e0] at q1
  rw [show o + (2 * j.toNat + 1) = o + j.toNat * 2 + 1 by omega, List.getElem?_eq_getElem e1] at q2
  simp only [Option.some.injEq] at q1 q2
  simp [q1, q2]
theorem cell_of_pair {cs : Array Value} {a : Nat} {p : Int × Int} (h2 : a + 2 ≤ cs.size) (h : cs.extract a (a + 2) = #[i64 p.1, i64 p.2]) : cs[a]? = some (i64 p.1) ∧ cs[a + 1]? = some (i64 p.2) := by
  have e0 : (cs.extract a (a + 2))[0]? = some (i64 p.1) := by rw [h]; rfl
  have e1 : (cs.extract a (a + 2))[1]? = some (i64 p.2) := by rw [h]; rfl
  rw [Array.getElem?_extract] at e0 e1
  constructor
  · split at e0
    · simpa using e0
    · cases e0
  · split at e1
    · exact e1
    · cases e1

/-- A spot in a variable of its own. -/
theorem varS_i {w : World} {T : TypeId} {p : Int × Int} {K : Value → World → Prop} (hT : T = ty_impl_Spot) (hK : ∀ b w1, New w w1 b (row #[i64 p.1, i64 p.2] ty_impl_Spot) → K (ptr b 0) w1) :
    eff Pg (Instr.alloc T true (.tuple #[])) w fun t w => effU Pg (Instr.storeAt T t (pairV p)) w fun w => K t w := by
  subst hT
  exact varn_i (n := 2) (by kernel_rfl) rfl rfl rfl (by intro v hv; simp at hv; rcases hv with rfl | rfl <;> rfl) hK
theorem ldS_i {w : World} {T b : Nat} {p : Int × Int} {K : Value → Prop} (hT : T = ty_impl_Spot) (h : w.heap[b]? = some (row #[i64 p.1, i64 p.2] ty_impl_Spot)) (hK : K (pairV p)) : rd Pg (Instr.loadAt T (ptr b 0)) w K := by
  subst hT
  exact ldn_i (n := 2) (by kernel_rfl) h (Nat.le_refl 2) rfl hK

theorem around_c {x y : Int} {e : Bool} {w : World} {K : Value → World → Prop} (hx : -1000000 ≤ x ∧ x ≤ 1000000) (hy : -1000000 ≤ y ∧ y ≤ 1000000)
    (hK : ∀ v b w', Ext w w' → w.heap.size ≤ b → OwnSpots w' v (nbrs e (x, y)) b → K v w') : callS Pg n_around #[i64 x, i64 y, .bool e] w K := by
  refine call_around _ _ _ _ _ ?_
  unfold S_around
  refine spots_nil_i rfl fun v0 b0 w0 he0 hb0 hv0 => ?_
  refine loopS_i (fun s w' => ∃ v b dy, s = [v, i64 dy] ∧ -1 ≤ dy ∧ dy ≤ 2 ∧ Ext w w' ∧ w.heap.size ≤ b ∧ OwnSpots w' v (nbrsPre e (x, y) (3 * (dy + 1)).toNat) b) (fun s _ => (2 - intOf (nth s 1)).toNat) ⟨v0, b0, -1, rfl, by omega, by omega, he0, hb0, hv0⟩ ?_
  rintro g s w1 ⟨v, b, dy, rfl, h1, h2, hE, hb, hv⟩
  rw [nth1, nth0]
  refine leq_i (ifB_i (fun hlt => ?_) (fun hlt => ?_))
  · refine loopS_i (fun s w' => ∃ v b dx, s = [v, i64 dx] ∧ -1 ≤ dx ∧ dx ≤ 2 ∧ Ext w w' ∧ w.heap.size ≤ b ∧ OwnSpots w' v (nbrsPre e (x, y) (3 * (dy + 1) + (dx + 1)).toNat) b) (fun s _ => (2 - intOf (nth s 1)).toNat) ⟨v, b, -1, rfl, by omega, by omega, hE, hb, by simpa using hv⟩ ?_
    rintro g' s' w2 ⟨v, b, dx, rfl, h3, h4, hE2, hb, hv2⟩
    rw [nth1, nth0]
    refine leq_i (ifB_i (fun hlt2 => ?_) (fun hlt2 => ?_))
    · have hnine : nine[(3 * (dy + 1) + (dx + 1)).toNat]? = some (dx, dy) := by
        have hdy : dy = -1 ∨ dy = 0 ∨ dy = 1 := by omega
        have hdx : dx = -1 ∨ dx = 0 ∨ dx = 1 := by omega
        rcases hdy with rfl | rfl | rfl <;> rcases hdx with rfl | rfl | rfl <;> rfl
      have hstep := nbrsPre_step e (x, y) (dx, dy) _ hnine
      have hnext : (3 * (dy + 1) + (dx + 1 + 1)).toNat = (3 * (dy + 1) + (dx + 1)).toNat + 1 := by omega
      refine joinS_k fun J hJ => ?_
      have fin : ∀ v' w' b', Ext w w' → w.heap.size ≤ b' → OwnSpots w' v' (nbrsPre e (x, y) ((3 * (dy + 1) + (dx + 1)).toNat + 1)) b' → J [v'] w' := by
        intro v' w' b' hE' hb' hv'
        refine hJ _ _ fun _ => ?_
        refine add_i (.of (by omega) (by omega)) ⟨⟨v', b', dx + 1, rfl, by omega, by omega, hE', hb', by rw [hnext]; exact hv'⟩, ?_⟩
        simp only [nth1, intOf]; omega
      have neg : stepOk e (dx, dy) = false → J [v] w2 := fun h => fin v w2 b hE2 hb (by rw [hstep, h]; simpa using hv2)
      have pos : stepOk e (dx, dy) = true → pur Pg (binOp BinOp.add ty_int64 (i64 x) (i64 dx)) fun t39 => pur Pg (binOp BinOp.add ty_int64 (i64 y) (i64 dy)) fun t42 =>
          pur Pg (Instr.build ty_impl_Spot #[(0, t39), (1, t42)]) fun t43 => eff Pg (Instr.buildSlice ty_Simpl_Spot 1 #[(0, t43)]) w2 fun t44 w => eff Pg (Builtin.append_ #[ty_Simpl_Spot, ty_Simpl_Spot] ty_Simpl_Spot #[v, t44]) w fun t45 w' => J [t45] w' := by
        intro h
        refine add_i (.of (by omega) (by omega)) ?_
        refine add_i (.of (by omega) (by omega)) ?_
        refine build_i rfl rfl ?_
        refine spots_app_i (p := (x + dx, y + dy)) ⟨rfl, rfl, rfl⟩ hv2 (by have := nbrsPre_le e (x, y) (3 * (dy + 1) + (dx + 1)).toNat; omega) fun v' w' b' hor hm hv' => ?_
        exact fin v' w' b' (hE2.own hm hb) (by have := hE2.size; rcases hor with rfl | h <;> omega) (by rw [hstep, if_pos h]; exact hv')
      clear hJ fin
      unfold stepOk at neg pos
      by_cases hdx : dx = 0 <;> by_cases hdy : dy = 0 <;> cases e <;>
        simp only [rd_eql, rd_neq, joinS_eq, ifG_eq_t, ifG_eq_f, pickS_eq, nth0, all_fr, hdx, hdy, ne_eq, not_true, not_false_eq_true, decide_true, decide_false, if_true, if_false, cond_true, cond_false, Bool.false_eq_true, ifB_eq, ifG_undef,
          bne_self_eq_false, beq_self_eq_true, Bool.or_self, Bool.or_true, Bool.true_or, Bool.false_or, Bool.or_false, Bool.and_self, Bool.and_true, Bool.true_and, Bool.false_and, Bool.and_false, forall_const, false_imp_iff, bne_iff_ne, beq_iff_eq, true_imp_iff] at neg pos ⊢ <;>
        first | exact neg | exact pos | exact neg (by simp [hdx, hdy]) | exact pos (by simp [hdx, hdy])
    · have : dx = 2 := by omega
      subst this
      refine add_i (.of (by omega) (by omega)) ⟨⟨v, b, dy + 1, rfl, by omega, by omega, hE2, hb, ?_⟩, ?_⟩
      · rw [show (3 * (dy + 1 + 1)).toNat = (3 * (dy + 1) + (2 + 1)).toNat by omega]; exact hv2
      · simp only [nth1, intOf]; omega
  · have : dy = 2 := by omega
    subst this
    exact hK v b w1 hE hb hv

/-! ### spread -/
inductive Reach (ok : Int × Int → Bool) (e : Bool) (start : List (Int × Int)) : Int × Int → Prop
  | base {p : Int × Int} (h : p ∈ start) (ho : ok p = true) : Reach ok e start p
  | step {p q : Int × Int} (h : Reach ok e start p) (hn : q ∈ nbrs e p) (ho : ok q = true) : Reach ok e start q

/-- A set of spots as a map's contents. -/
def setM (S : List (Int × Int)) : List ((Int × Int) × Value) := S.map fun p => (p, .bool true)
theorem setM_fst (S : List (Int × Int)) : (setM S).map Prod.fst = S := by simp [setM, Function.comp_def]
theorem findL_setM (a : Int × Int) : ∀ (S : List (Int × Int)) (i : Nat), (findL a (setM S) i).map (·.2) = if a ∈ S then some (.bool true) else none
  | [], _ => rfl
  | p :: S, i => by
    show (findL a ((p, .bool true) :: setM S) i).map (·.2) = _
    unfold findL
    by_cases h : a = p
    · simp [h]
    · simp [h, findL_setM a S (i + 1)]
theorem look_setM (a : Int × Int) (S : List (Int × Int)) : lookD a (setM S) (.bool false) = .bool (decide (a ∈ S)) := by
  unfold lookD
  rw [findL_setM]
  by_cases h : a ∈ S <;> simp [h]
theorem put_setM {a : Int × Int} {S : List (Int × Int)} (h : a ∉ S) : putL a (.bool true) (setM S) = setM (S ++ [a]) := by
  unfold putL
  cases hf : findL a (setM S) 0 with
  | none => simp [setM]
  | some p =>
    have := findL_setM a S 0
    rw [hf, if_neg h] at this
    cases this
theorem put_setM' (a : Int × Int) (S : List (Int × Int)) : putL a (.bool true) (setM S) = setM (if a ∈ S then S else S ++ [a]) := by
  by_cases h : a ∈ S
  · rw [if_pos h]
    unfold putL
    cases hf : findL a (setM S) 0 with
    | none => have := findL_setM a S 0; rw [hf, if_pos h] at this; cases this
    | some p =>
      obtain ⟨i, u⟩ := p
      obtain ⟨_, h2⟩ := findL_some hf
      simp only [Nat.sub_zero] at h2
      simp only [setM] at h2 ⊢
      apply List.ext_getElem?
      intro j
      rw [List.getElem?_set]
      split
      · rename_i e; subst e
        rw [List.getElem?_map] at h2 ⊢
        cases hs : S[i]? with
        | none => rw [hs] at h2; cases h2
        | some q =>
          rw [hs] at h2
          simp only [Option.map_some, Option.some.injEq, Prod.mk.injEq] at h2
          have : i < S.length := (List.getElem?_eq_some_iff.1 hs).1
          simp [this, h2.1]
      · rfl
  · rw [if_neg h]; exact put_setM h

theorem nodup_le {β : Type} [DecidableEq β] : ∀ {S L : List β}, S.Nodup → (∀ x ∈ S, x ∈ L) → S.length ≤ L.length
  | [], _, _, _ => by simp
  | a :: S, L, hn, hs => by
    have ha := hs a List.mem_cons_self
    have h1 : S.length ≤ (L.erase a).length := by
      refine nodup_le (List.nodup_cons.1 hn).2 fun x hx => ?_
      have hxa : x ≠ a := fun e => (List.nodup_cons.1 hn).1 (e ▸ hx)
      exact (List.mem_erase_of_ne hxa).2 (hs x (List.mem_cons_of_mem _ hx))
    have h2 := List.length_erase_of_mem ha
    have h3 := List.length_pos_of_mem ha
    simp only [List.length_cons]
    omega

/-- Between rounds of spread: S has been reached, todo waits, all others are done; h's neighbours are done as far as part. -/
structure Bfs (ok : Int × Int → Bool) (e : Bool) (start S todo : List (Int × Int)) (h : List (Int × Int)) (part : List (Int × Int)) : Prop where
  reach : ∀ p ∈ S, Reach ok e start p
  nodup : S.Nodup
  waits : ∀ p ∈ todo, p ∈ S
  closed : ∀ p ∈ S, p ∈ todo ∨ p ∈ h ∨ ∀ q ∈ nbrs e p, ok q = true → q ∈ S
  partly : ∀ q ∈ part, ok q = true → q ∈ S
theorem Bfs.add {ok : Int × Int → Bool} {e : Bool} {start S todo h part : List (Int × Int)} (b : Bfs ok e start S todo h part) {q : Int × Int} (hr : Reach ok e start q) (hn : q ∉ S) : Bfs ok e start (S ++ [q]) (todo ++ [q]) h (part ++ [q]) := by
  refine ⟨fun p hp => ?_, ?_, fun p hp => ?_, fun p hp => ?_, fun p hp ho => ?_⟩
  · rcases List.mem_append.1 hp with hp | hp
    · exact b.reach p hp
    · simp at hp; subst hp; exact hr
  · rw [List.nodup_append]
    exact ⟨b.nodup, by simp, fun x hx y hy => by simp at hy; subst hy; exact fun e => hn (e ▸ hx)⟩
  · rcases List.mem_append.1 hp with hp | hp
    · exact List.mem_append_left _ (b.waits p hp)
    · exact List.mem_append_right _ hp
  · rcases List.mem_append.1 hp with hp | hp
    · rcases b.closed p hp with h1 | h1 | h1
      · exact .inl (List.mem_append_left _ h1)
      · exact .inr (.inl h1)
      · exact .inr (.inr fun q hq ho => List.mem_append_left _ (h1 q hq ho))
    · exact .inl (List.mem_append_right _ hp)
  · rcases List.mem_append.1 hp with hp | hp
    · exact List.mem_append_left _ (b.partly p hp ho)
    · exact List.mem_append_right _ hp
theorem Bfs.skip {ok : Int × Int → Bool} {e : Bool} {start S todo h part : List (Int × Int)} (b : Bfs ok e start S todo h part) {q : Int × Int} (hq : ok q = true → q ∈ S) : Bfs ok e start S todo h (part ++ [q]) :=
  ⟨b.reach, b.nodup, b.waits, b.closed, fun p hp ho => by
    rcases List.mem_append.1 hp with hp | hp
    · exact b.partly p hp ho
    · simp at hp; subst hp; exact hq ho⟩
/-- The head of todo is taken. -/
theorem Bfs.take {ok : Int × Int → Bool} {e : Bool} {start S todo part : List (Int × Int)} {h : Int × Int} (b : Bfs ok e start S (h :: todo) [] part) : Bfs ok e start S (h :: todo) [h] [] :=
  ⟨b.reach, b.nodup, b.waits, fun p hp => by rcases b.closed p hp with h1 | h1 | h1; exact .inl h1; cases h1; exact .inr (.inr h1), by simp⟩
theorem Bfs.leave {ok : Int × Int → Bool} {e : Bool} {start S todo : List (Int × Int)} {h : Int × Int} (b : Bfs ok e start S (h :: todo) [h] (nbrs e h)) : Bfs ok e start S todo [] [] :=
  ⟨b.reach, b.nodup, fun p hp => b.waits p (List.mem_cons_of_mem _ hp), fun p hp => by
    rcases b.closed p hp with h1 | h1 | h1
    · rcases List.mem_cons.1 h1 with rfl | h1
      · exact .inr (.inr b.partly)
      · exact .inl h1
    · simp at h1; subst h1; exact .inr (.inr b.partly)
    · exact .inr (.inr h1), by simp⟩
theorem Bfs.done {ok : Int × Int → Bool} {e : Bool} {start S : List (Int × Int)} (b : Bfs ok e start S [] [] []) (h0 : ∀ p ∈ start, ok p = true → p ∈ S) (p : Int × Int) : p ∈ S ↔ Reach ok e start p := by
  refine ⟨b.reach p, fun h => ?_⟩
  induction h with
  | base h ho => exact h0 _ h ho
  | step h hn ho ih =>
    rcases b.closed _ ih with h1 | h1 | h1
    · cases h1
    · cases h1
    · exact h1 _ hn ho

theorem row_ne_map {w : World} {b r T : Nat} {cs : Array Value} {m : List ((Int × Int) × Value)} (h1 : w.heap[b]? = some (row cs T)) (h2 : MapAt w pairV r m) : b ≠ r := fun e => by
  obtain ⟨⟨es, c, h3, _⟩, _⟩ := h2
  rw [e, h3] at h1; cases h1

theorem spotKey : KeyT Pg ty_impl_Spot pairV := pair_key (by kernel_rfl)
/-- One spot of a list: asked, and taken up if it is right and new. The code of both loops of spread. -/
theorem spread_step {ok : Int × Int → Bool} {e : Bool} {start S todo h part : List (Int × Int)} {w0 w : World} {r b vb : Nat} {v fv : Value} {q : Int × Int} {T1 T2 T3 T4 T5 ty M : TypeId} {J : List Value → World → Prop}
    (hT : T1 = ty_impl_Spot ∧ T2 = ty_Simpl_Spot ∧ T3 = ty_Simpl_Spot ∧ T4 = ty_Simpl_Spot ∧ T5 = ty_bool ∧ M = ty_M_impl_Spot_bool)
    (hE : Ext w0 w) (hr : w0.heap.size ≤ r) (hb : w0.heap.size ≤ b) (hm : MapAt w pairV r (setM S)) (ht : OwnSpots w v todo b) (hvar : w.heap[vb]? = some (row #[i64 q.1, i64 q.2] ty_impl_Spot)) (hvb : w0.heap.size ≤ vb) (hne : vb ≠ b)
    (hB : Bfs ok e start S todo h part) (hreach : ok q = true → Reach ok e start q) (hlen : todo.length < 1000000)
    (hf : ∀ K : Value → World → Prop, (∀ w2, Ext w w2 → K (.bool (ok q)) w2) → callV Pg fv #[pairV q] w K)
    (hJ : ∀ v' w' b' S' todo', Ext w0 w' → w0.heap.size ≤ b' → MapAt w' pairV r (setM S') → OwnSpots w' v' todo' b' → Bfs ok e start S' todo' h (part ++ [q]) → (∀ p ∈ S, p ∈ S') → (todo' = todo ++ [q] ∧ S' = S ++ [q] ∧ ok q = true ∧ q ∉ S ∨ todo' = todo ∧ S' = S) →
      (b' = b ∨ w.heap.size ≤ b') → (∀ k cs, k ≠ b → w.heap[k]? = some (row cs ty_impl_Spot) → w'.heap[k]? = some (row cs ty_impl_Spot)) → J [v'] w') :
    rd Pg (Instr.loadAt T1 (ptr vb 0)) w fun t22 =>
    callV Pg fv #[t22] w fun t23 w =>
    joinS (fun _ s18 w =>
    pickS t23 (nth s18 0) (Value.bool false) fun t29 =>
    ifB t29 (rd Pg (Instr.loadAt T1 (ptr vb 0)) w fun t31 =>
    effU Pg (Instr.mapUpdate M (.map (some r)) t31 (Value.bool true)) w fun w =>
    rd Pg (Instr.loadAt T1 (ptr vb 0)) w fun t33 =>
    eff Pg (Instr.buildSlice T2 1 #[(0, t33)]) w fun t34 w =>
    eff Pg (Builtin.append_ #[T3, T4] ty #[v, t34]) w fun t35 w =>
    J [t35] w)
    (J [v] w)) fun J19 =>
    ifG t23 true (rd Pg (Instr.loadAt T1 (ptr vb 0)) w fun t26 =>
    rd Pg (Instr.lookup M (.map (some r)) t26 false) w fun t27 =>
    pur Pg (Op.unary UnOp.not t27) fun t28 =>
    J19 [t28] w)
    (J19 [undef] w) := by
  obtain ⟨rfl, rfl, rfl, rfl, rfl, rfl⟩ := hT
  refine ldS_i rfl hvar ?_
  refine hf _ fun w2 h2 => ?_
  have hm2 := hm.ext h2
  have ht2 := ht.ext h2
  have hvar2 := Ext.at_ h2 hvar
  have hE2 : Ext w0 w2 := hE.trans h2
  rw [joinS_eq]
  refine ifG_t (fun hok => ?_) (fun hok => ?_)
  · refine ldS_i rfl hvar2 ?_
    refine look_i (T := ty_impl_Spot) (z := .bool false) (by kernel_rfl) spotKey hm2 q ?_
    rw [look_setM]
    refine not_i ?_
    intro g
    rw [pickS_eq, nth0, hok, cond_true, ifB_eq]
    split
    · rename_i hin
      have hin : q ∉ S := by simpa using hin
      refine ldS_i rfl hvar2 ?_
      refine update_i (T := ty_impl_Spot) (z := .bool false) (by kernel_rfl) spotKey hm2 q fun w3 h3 hm3 => ?_
      rw [put_setM hin] at hm3
      have hvar3 := h3.at_ hvar2 (row_ne_map hvar2 hm2)
      have ht3 : OwnSpots w3 v todo b := ht2.mod h3 (by obtain ⟨cs, hc⟩ := ht2.row; exact row_ne_map hc hm2)
      refine ldS_i rfl hvar3 ?_
      refine spots_app_i ⟨rfl, rfl, rfl⟩ ht3 hlen fun v' w4 b' hor h4 ht4 => ?_
      have hE3 : Ext w0 w3 := hE2.own h3 hr
      have hE4 : Ext w0 w4 := hE3.own h4 hb
      have hm4 := hm3.mod h4 (fun e => by obtain ⟨cs, hc⟩ := ht3.row; exact row_ne_map hc hm3 e.symm)
      exact hJ v' w4 b' _ _ hE4 (by have := hE3.size; rcases hor with rfl | h <;> omega) hm4 ht4 (hB.add (hreach hok) hin) (fun p hp => List.mem_append_left _ hp) (.inl ⟨rfl, rfl, hok, hin⟩) (by have := h2.size; have := h3.size; rcases hor with rfl | h <;> omega) (fun k cs hk hc => h4.at_ (h3.at_ (Ext.at_ h2 hc) (row_ne_map (Ext.at_ h2 hc) hm2)) hk)
    · rename_i hin
      have hin : q ∈ S := by simpa using hin
      exact hJ v w2 b S todo hE2 hb hm2 ht2 (hB.skip fun _ => hin) (fun p hp => hp) (.inr ⟨rfl, rfl⟩) (.inl rfl) (fun k cs _ hc => Ext.at_ h2 hc)
  · intro g
    rw [pickS_eq, hok, cond_false, ifB_eq, if_neg (by simp)]
    exact hJ v w2 b S todo hE2 hb hm2 ht2 (hB.skip fun h => by rw [hok] at h; cases h) (fun p hp => hp) (.inr ⟨rfl, rfl⟩) (.inl rfl) (fun k cs _ hc => Ext.at_ h2 hc)

theorem spread_c {ok : Int × Int → Bool} {e : Bool} {start L : List (Int × Int)} {fv v0 : Value} {b0 : Nat} {w : World} {K : Value → World → Prop} (hL : ∀ p, ok p = true → p ∈ L) (hLl : L.length ≤ 100000)
    (hok : ∀ p, ok p = true → -1000 ≤ p.1 ∧ p.1 ≤ 1000 ∧ -1000 ≤ p.2 ∧ p.2 ≤ 1000) (hstart : OwnSpots w v0 start b0) (hlen : start.length ≤ 100000) (hsb : ∀ p ∈ start, -2000 ≤ p.1 ∧ p.1 ≤ 2000 ∧ -2000 ≤ p.2 ∧ p.2 ≤ 2000)
    (hf : ∀ p w1, Ext w w1 → (-2000 ≤ p.1 ∧ p.1 ≤ 2000 ∧ -2000 ≤ p.2 ∧ p.2 ≤ 2000) → ∀ K : Value → World → Prop, (∀ w2, Ext w1 w2 → K (.bool (ok p)) w2) → callV Pg fv #[pairV p] w1 K)
    (hK : ∀ r S w', Ext w w' → w.heap.size ≤ r → MapAt w' pairV r (setM S) → S.Nodup → (∀ p, p ∈ S ↔ Reach ok e start p) → K (.map (some r)) w') : callS Pg n_spread #[v0, .bool e, fv] w K := by
  refine call_spread _ _ _ _ _ ?_
  unfold S_spread
  refine makeMap_i pairV fun r w1 h1 hr hm1 => ?_
  refine spots_nil_i rfl fun vt bt w2 h2 hbt ht2 => ?_
  have hE2 : Ext w w2 := h1.trans h2
  have hbt : w.heap.size ≤ bt := Nat.le_trans h1.size hbt
  have hst2 := hstart.ext hE2
  refine spots_len_i rfl hst2 ?_
  have hreachL : ∀ {S : List (Int × Int)}, (∀ p ∈ S, Reach ok e start p) → S.Nodup → S.length ≤ 100000 := fun hS hn =>
    Nat.le_trans (nodup_le hn fun p hp => by cases hS p hp with | base _ ho => exact hL _ ho | step _ _ ho => exact hL _ ho) hLl
  refine loopS_i (fun s w' => ∃ (v : Value) (i : Nat) (b : Nat) (S : List (Int × Int)), s = [v, i64 i] ∧ i ≤ start.length ∧ Ext w w' ∧ w.heap.size ≤ b ∧ MapAt w' pairV r (setM S) ∧ OwnSpots w' v S b ∧ Bfs ok e start S S [] (start.take i)) (fun s _ => start.length - (intOf (nth s 1)).toNat)
    ⟨vt, 0, bt, [], rfl, by omega, hE2, hbt, hm1.ext h2, ht2, ⟨by simp, by simp, by simp, by simp, by simp⟩⟩ ?_
  rintro g s w3 ⟨v, i, b, S, rfl, hi, hE3, hb, hm3, ht3, hB⟩
  rw [nth1, nth0]
  refine lss_i (ifB_i (fun hlt => ?_) (fun hlt => ?_))
  · have hil : i < start.length := by omega
    refine joinS_k fun J hJ => ?_
    refine spots_at_i (j := i) (p := start[i]) rfl (hstart.ext hE3) (by omega) (by simp [hil]) fun a cs hc1 hc2 hc3 => ?_
    refine ldn_i (n := 2) (by kernel_rfl) hc1 hc2 hc3 ?_
    refine varS_i (p := start[i]) rfl fun vb w4 h4 => ?_
    have hE4 := hE3.trans h4.ext
    have hbl := ht3.lt
    refine spread_step (todo := S) (h := []) (part := start.take i) (q := start[i]) ⟨rfl, rfl, rfl, rfl, rfl, rfl⟩ hE4 hr hb (hm3.ext h4.ext) (ht3.ext h4.ext) h4.at_ (by have := h4.old; have := hE3.size; omega) (by have := h4.old; omega) hB
      (fun ho => .base (List.getElem_mem hil) ho) (by have := hreachL hB.reach hB.nodup; omega) (fun K' hK' => hf _ w4 hE4 (hsb _ (List.getElem_mem hil)) K' hK') fun v' w5 b' S' todo' hE5 hb' hm5 ht5 hB5 hsub hor _ _ => ?_
    have htS : todo' = S' := by rcases hor with ⟨h1, h2, _⟩ | ⟨h1, h2⟩ <;> rw [h1, h2]
    subst htS
    refine hJ _ _ fun _ => ?_
    refine add_i (.of (by omega) (by omega)) ?_
    rw [nth0]
    refine ⟨⟨v', i + 1, b', todo', rfl, by omega, hE5, hb', hm5, ht5, ?_⟩, ?_⟩
    · rw [List.take_succ_eq_append_getElem hil]; exact hB5
    · simp only [nth1, intOf]; omega
  · have hil : i = start.length := by omega
    subst hil
    rw [List.take_length] at hB
    have hstartS : ∀ p ∈ start, ok p = true → p ∈ S := hB.partly
    have hB' : Bfs ok e start S S [] [] := ⟨hB.reach, hB.nodup, hB.waits, hB.closed, by simp⟩
    refine loopS_n (2 * (100000 - S.length) + S.length) (fun n s w' => ∃ v b S todo, s = [v] ∧ n = 2 * (100000 - S.length) + todo.length ∧ Ext w w' ∧ w.heap.size ≤ b ∧ MapAt w' pairV r (setM S) ∧ OwnSpots w' v todo b ∧ Bfs ok e start S todo [] [] ∧ todo.length ≤ S.length ∧
      (∀ p ∈ start, ok p = true → p ∈ S)) ⟨v, b, S, S, rfl, rfl, hE3, hb, hm3, ht3, hB', Nat.le_refl _, hstartS⟩ ?_
    clear hB hB' hstartS ht3 hm3 hb hE3 hlt hi
    rintro n g' s w4 ⟨v, b, S, todo, rfl, rfl, hE4, hb, hm4, ht4, hB, htl, hstS⟩ N hN
    rw [nth0]
    have hSl := hreachL hB.reach hB.nodup
    refine spots_len_i rfl ht4 ?_
    refine gtr_i (ifB_i (fun hgt => ?_) (fun hgt => ?_))
    · obtain ⟨h, todo, rfl⟩ : ∃ h t, todo = h :: t := by
        cases todo with
        | nil => simp at hgt
        | cons h t => exact ⟨h, t, rfl⟩
      refine drawS_i ?_
      have hd := Same.drew w4
      have hE5 : Ext w w4.drew := hE4.trans hd.ext
      have ht5 := ht4.ext hd.ext
      have hm5 := hm4.ext hd.ext
      have hreach_h := hB.reach h (hB.waits h List.mem_cons_self)
      have hokh : ok h = true := by cases hreach_h with | base _ ho => exact ho | step _ _ ho => exact ho
      have hbd := hok h hokh
      refine spots_at_i (j := 0) (p := h) rfl ht5 (by omega) rfl fun a cs hc1 hc2 hc3 => ?_
      obtain ⟨q1, q2⟩ := cell_of_pair hc2 hc3
      refine fldi_i (by kernel_rfl) ?_
      refine ld_i (by kernel_rfl) hc1 q1 ?_
      refine spots_at_i (j := 0) (p := h) rfl ht5 (by omega) rfl fun a cs hc1 hc2 hc3 => ?_
      obtain ⟨q1, q2⟩ := cell_of_pair hc2 hc3
      refine fldi_i (by kernel_rfl) ?_
      refine ld_i (by kernel_rfl) hc1 q2 ?_
      refine around_c ⟨by omega, by omega⟩ ⟨by omega, by omega⟩ fun va ba w6 h6 hba ha => ?_
      refine spots_len_i rfl ha ?_
      have hE6 := hE5.trans h6
      have hba' : w.heap.size ≤ ba := Nat.le_trans hE5.size hba
      have hbb : b ≠ ba := by have := ht5.lt; omega
      have hnl : (nbrs e (h.1, h.2)).length ≤ 8 := nbrs_le e h
      refine loopS_i (fun s w' => ∃ (v : Value) (i : Nat) (b : Nat) (S' todo' : List (Int × Int)), s = [v, i64 i] ∧ i ≤ (nbrs e (h.1, h.2)).length ∧ Ext w w' ∧ w.heap.size ≤ b ∧ b ≠ ba ∧ OwnSpots w' va (nbrs e (h.1, h.2)) ba ∧ MapAt w' pairV r (setM S') ∧ OwnSpots w' v (h :: todo') b ∧
          Bfs ok e start S' (h :: todo') [h] ((nbrs e h).take i) ∧ (h :: todo').length ≤ S'.length ∧ 2 * (100000 - S'.length) + todo'.length ≤ 2 * (100000 - S.length) + todo.length ∧ (∀ p ∈ start, ok p = true → p ∈ S')) (fun s _ => (nbrs e (h.1, h.2)).length - (intOf (nth s 1)).toNat)
        ⟨v, 0, b, S, todo, rfl, by omega, hE6, hb, hbb, ha, hm5.ext h6, ht5.ext h6, hB.take, htl, Nat.le_refl _, hstS⟩ ?_
      rintro g2 s2 w7 ⟨v, i, b, S', todo', rfl, hi, hE7, hb, hbb, ha7, hm7, ht7, hB7, htl7, hme, hst7⟩
      have hSl7 := hreachL hB7.reach hB7.nodup
      rw [nth1, nth0]
      refine lss_i (ifB_i (fun hlt2 => ?_) (fun hlt2 => ?_))
      · have hil : i < (nbrs e (h.1, h.2)).length := by omega
        have hq : (nbrs e (h.1, h.2))[i] ∈ nbrs e h := List.getElem_mem hil
        refine joinS_k fun J hJ => ?_
        refine spots_at_i (j := i) (p := (nbrs e (h.1, h.2))[i]) rfl ha7 (by omega) (by simp [hil]) fun a cs hc1 hc2 hc3 => ?_
        refine ldn_i (n := 2) (by kernel_rfl) hc1 hc2 hc3 ?_
        refine varS_i (p := (nbrs e (h.1, h.2))[i]) rfl fun vb w8 h8 => ?_
        have hE8 := hE7.trans h8.ext
        have hvb := h8.old
        have hs7 := hE7.size
        have hbl := ht7.lt
        have hbal := ha7.lt
        have hqb : -2000 ≤ ((nbrs e (h.1, h.2))[i]).1 ∧ ((nbrs e (h.1, h.2))[i]).1 ≤ 2000 ∧ -2000 ≤ ((nbrs e (h.1, h.2))[i]).2 ∧ ((nbrs e (h.1, h.2))[i]).2 ≤ 2000 := by
          obtain ⟨d, hd1, hd2⟩ := List.mem_map.1 (List.mem_of_getElem rfl : (nbrs e (h.1, h.2))[i] ∈ nbrs e (h.1, h.2))
          have hd3 := (List.mem_filter.1 hd1).1
          have : -1 ≤ d.1 ∧ d.1 ≤ 1 ∧ -1 ≤ d.2 ∧ d.2 ≤ 1 := by
            simp only [nine, List.mem_cons, List.mem_nil_iff, or_false] at hd3
            rcases hd3 with rfl | rfl | rfl | rfl | rfl | rfl | rfl | rfl | rfl <;> decide
          rw [← hd2]
          simp only
          omega
        refine spread_step (todo := h :: todo') (h := [h]) (part := (nbrs e h).take i) (q := (nbrs e (h.1, h.2))[i]) ⟨rfl, rfl, rfl, rfl, rfl, rfl⟩ hE8 hr hb (hm7.ext h8.ext) (ht7.ext h8.ext) h8.at_ (by omega) (by omega) hB7
          (fun ho => .step (hB7.reach h (hB7.waits h List.mem_cons_self)) hq ho) (by omega) (fun K' hK' => hf _ w8 hE8 hqb K' hK') fun v' w9 b' S'' todo'' hE9 hb' hm9 ht9 hB9 hsub hor hbor hkeep => ?_
        have ha9 : OwnSpots w9 va (nbrs e (h.1, h.2)) ba := by
          obtain ⟨o, c, e1, hsl⟩ := ha7.ext h8.ext
          obtain ⟨cs, hcs, _⟩ := hsl.cells
          exact ⟨o, c, e1, hsl.keep ((hkeep ba cs (Ne.symm hbb) hcs).trans hcs.symm)⟩
        have hbb' : b' ≠ ba := by have := h8.ext.size; rcases hbor with rfl | h1 <;> omega
        have htake : (nbrs e h).take (i + 1) = (nbrs e h).take i ++ [(nbrs e (h.1, h.2))[i]] := List.take_succ_eq_append_getElem hil
        have fin : ∀ todo3, todo'' = h :: todo3 → todo''.length ≤ S''.length → 2 * (100000 - S''.length) + todo3.length ≤ 2 * (100000 - S.length) + todo.length → J [v'] w9 := by
          rintro todo3 rfl hl1 hl2
          refine hJ _ _ fun _ => ?_
          refine add_i (.of (by omega) (by omega)) ?_
          rw [nth0]
          refine ⟨⟨v', i + 1, b', S'', todo3, rfl, by omega, hE9, hb', hbb', ha9, hm9, ht9, by rw [htake]; exact hB9, hl1, hl2, fun p hp ho => hsub p (hst7 p hp ho)⟩, ?_⟩
          simp only [nth1, intOf]; omega
        rcases hor with ⟨e1, e2, _, _⟩ | ⟨e1, e2⟩
        · subst e1 e2
          have h10 := hreachL hB9.reach hB9.nodup
          simp only [List.length_append, List.length_cons, List.length_nil] at h10 htl7
          refine fin (todo' ++ [(nbrs e (h.1, h.2))[i]]) rfl ?_ ?_
          · simp; omega
          · simp; omega
        · subst e1 e2
          exact fin todo' rfl htl7 hme
      · have hil : i = (nbrs e h).length := Nat.le_antisymm hi (by show (nbrs e (h.1, h.2)).length ≤ i; omega)
        subst hil
        rw [List.take_length] at hB7
        obtain ⟨o, c, rfl, hsl⟩ := ht7
        refine tail_i (size := 2) rfl hsl fun o' hsl' => ?_
        refine hN (2 * (100000 - S'.length) + todo'.length) _ _ ?_ ⟨_, b, S', todo', rfl, rfl, hE7, hb, hm7, ⟨o', c - 1, rfl, hsl'⟩, hB7.leave, ?_, hst7⟩
        · simp only [List.length_cons]; omega
        · simp only [List.length_cons] at htl7; omega
    · have : todo = [] := by
        cases todo with
        | nil => rfl
        | cons h t => simp at hgt
      subst this
      exact hK r S w4 hE4 hr hm4 hB.nodup (hB.done hstS)
end Go.Proofs.Ytfdmphgbodmkpaa
