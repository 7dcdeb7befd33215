/- Rules for maps: look up, store, range. No program in sight. -/
import Derived.Test.YtfdmphgbodmkpaaPrim2
set_option linter.unusedVariables false
set_option linter.unusedSimpArgs false
namespace Go.SL
open Go Go.RowKit

/-- A key type: how keys of type α lie in values, and that the model's equality is equality. -/
structure KeyT (P : Program) (T : TypeId) {α : Type} [DecidableEq α] (enc : α → Value) : Prop where
  desc : ∃ d, P.underlying T = some d ∧ ∀ a b, Instr.sameNow d (enc a) (enc b) = none ∨ Instr.sameNow d (enc a) (enc b) = some (decide (a = b))
  chk : ∀ (e : Bool) (a : α) (w : World), (Instr.checkKey e 10000 T (enc a)).run P w = .ok () w
  eq : ∀ (a b : α) (w : World), (Op.equal T (enc a) (enc b)).run P w = .ok (decide (a = b)) w
  bits : ∀ a, Instr.sameBits 10000 (enc a) (enc a) = true

section
variable {P : Program} {T : TypeId} {α : Type} [DecidableEq α] {enc : α → Value}

/-- The entries of a map block read as the list m. -/
def Reads (enc : α → Value) (es : List MapEntry) (m : List (α × Value)) : Prop := es.map (fun e => (e.key, e.val)) = m.map (fun p => (enc p.1, p.2))
def findL (a : α) : List (α × Value) → Nat → Option (Nat × Value)
  | [], _ => none
  | p :: m, i => if a = p.1 then some (i, p.2) else findL a m (i + 1)

theorem findNow_sound {d : TypeDesc} (hd : ∀ a b, Instr.sameNow d (enc a) (enc b) = none ∨ Instr.sameNow d (enc a) (enc b) = some (decide (a = b))) (a : α) :
    ∀ (es : List MapEntry) (m : List (α × Value)) (i : Nat) (r : Option (Nat × Value)), Reads enc es m → Instr.findNow d (enc a) es i = some r → r = findL a m i
  | [], m, i, r, hr, h => by
    cases m with
    | nil => simp [Instr.findNow] at h; exact h.symm
    | cons p m => simp [Reads] at hr
  | e :: es, m, i, r, hr, h => by
    cases m with
    | nil => simp [Reads] at hr
    | cons p m =>
      simp only [Reads, List.map_cons, List.cons.injEq, Prod.mk.injEq] at hr
      obtain ⟨⟨hk, hv⟩, hr⟩ := hr
      unfold Instr.findNow at h
      rw [hk] at h
      unfold findL
      rcases hd a p.1 with e' | e'
      · rw [e'] at h; simp at h
      · rw [e'] at h
        by_cases hap : a = p.1
        · simp [hap] at h; rw [if_pos hap, ← hv]; exact h.symm
        · simp [hap] at h; rw [if_neg hap]; exact findNow_sound hd a es m (i + 1) r hr h
theorem findAsking_run (hK : KeyT P T enc) (a : α) (w : World) : ∀ (es : List MapEntry) (m : List (α × Value)) (i : Nat), Reads enc es m → (Instr.findAsking T (enc a) es i).run P w = .ok (findL a m i) w
  | [], m, i, hr => by
    cases m with
    | nil => rfl
    | cons p m => simp [Reads] at hr
  | e :: es, m, i, hr => by
    cases m with
    | nil => simp [Reads] at hr
    | cons p m =>
      simp only [Reads, List.map_cons, List.cons.injEq, Prod.mk.injEq] at hr
      obtain ⟨⟨hk, hv⟩, hr⟩ := hr
      unfold Instr.findAsking findL
      rw [hk]
      simp only [Sem.run_bind, hK.eq, Result.andThen_ok]
      by_cases hap : a = p.1
      · simp [hap, hv]
      · simp [hap, findAsking_run hK a w es m (i + 1) hr]
theorem findKey_run (hK : KeyT P T enc) (a : α) (w : World) {es : List MapEntry} {m : List (α × Value)} (hr : Reads enc es m) : (Instr.findKey T (enc a) es).run P w = .ok (findL a m 0) w := by
  obtain ⟨d, hd, hs⟩ := hK.desc
  unfold Instr.findKey
  simp only [underlying, Sem.run_bind, run_program, Result.andThen_ok, hd, Sem.run_pure]
  cases e : Instr.findNow d (enc a) es 0 with
  | some r => rw [findNow_sound hs a es m 0 r hr e]; rfl
  | none => exact findAsking_run hK a w es m 0 hr

theorem findL_none {a : α} : ∀ {m : List (α × Value)} {i : Nat}, findL a m i = none → a ∉ m.map Prod.fst
  | [], _, _ => by simp
  | p :: m, i, h => by
    unfold findL at h
    split at h
    · cases h
    · rename_i hne
      simp only [List.map_cons, List.mem_cons, not_or]
      exact ⟨hne, findL_none h⟩
theorem findL_some {a : α} {v : Value} : ∀ {m : List (α × Value)} {i k : Nat}, findL a m i = some (k, v) → i ≤ k ∧ m[k - i]? = some (a, v)
  | [], _, _, h => by cases h
  | p :: m, i, k, h => by
    unfold findL at h
    split at h
    · rename_i he
      cases h
      exact ⟨Nat.le_refl _, by simp [he]⟩
    · obtain ⟨h1, h2⟩ := findL_some h
      exact ⟨by omega, by rw [show k - i = (k - (i + 1)) + 1 by omega]; simpa using h2⟩

/-- Block r is a map that reads as m, its keys apart, with stamps that rise. -/
structure MapAt (w : World) (enc : α → Value) (r : Nat) (m : List (α × Value)) : Prop where
  ex : ∃ es clock, w.heap[r]? = some (.map es clock) ∧ Reads enc es.toList m ∧ (es.toList.map (·.born)).Pairwise (· < ·) ∧ ∀ e ∈ es.toList, e.born < clock
  nodup : (m.map Prod.fst).Nodup
omit [DecidableEq α] in
theorem MapAt.keep {w w' : World} {r : Nat} {m : List (α × Value)} (h : MapAt w enc r m) (hh : w'.heap[r]? = w.heap[r]?) : MapAt w' enc r m := by
  obtain ⟨⟨es, c, h1, h2⟩, h3⟩ := h
  exact ⟨⟨es, c, hh.trans h1, h2⟩, h3⟩
omit [DecidableEq α] in
theorem MapAt.lt {w : World} {r : Nat} {m : List (α × Value)} (h : MapAt w enc r m) : r < w.heap.size := by
  obtain ⟨⟨es, c, h1, _⟩, _⟩ := h; exact lt_of_at h1
omit [DecidableEq α] in
theorem MapAt.mod {S : Nat → Prop} {w w' : World} {r : Nat} {m : List (α × Value)} (h : MapAt w enc r m) (he : Mod S w w') (hr : ¬ S r) : MapAt w' enc r m := h.keep (he.block r h.lt hr)
omit [DecidableEq α] in
theorem MapAt.ext {w w' : World} {r : Nat} {m : List (α × Value)} (h : MapAt w enc r m) (he : Ext w w') : MapAt w' enc r m := h.keep (he.block r h.lt id)

omit [DecidableEq α] in
theorem makeMap_i {w : World} {M : TypeId} {K : Value → World → Prop} (enc : α → Value) (hK : ∀ r w1, Ext w w1 → w.heap.size ≤ r → MapAt w1 enc r ([] : List (α × Value)) → K (.map (some r)) w1) : eff P (Instr.makeMap M none) w K := by
  refine eff_i (v := .map (some w.heap.size)) (w' := w.alloc (.map #[] 0)) ?_ (hK _ _ (Ext.alloc _ _) (Nat.le_refl _) ⟨⟨_, _, at_alloc _ _, rfl, by simp, by simp⟩, by simp⟩)
  simp [Instr.makeMap]

def mapT (P : Program) (M : TypeId) : Option (TypeId × Value) :=
  match P.underlying M with
  | some (.map k e) => match (P.info? e).bind (·.zero) with
    | some z => some (k, z)
    | none => none
  | _ => none
theorem mapT_spec {P : Program} {M k : TypeId} {z : Value} (h : mapT P M = some (k, z)) : ∃ e, P.underlying M = some (.map k e) ∧ ∃ inf, P.info? e = some inf ∧ inf.zero = some z := by
  unfold mapT at h
  split at h
  · rename_i k' e hu
    split at h
    · rename_i z' hz
      obtain ⟨inf, hi, hz⟩ := Option.bind_eq_some_iff.1 hz
      cases h
      exact ⟨e, hu, inf, hi, hz⟩
    · cases h
  · cases h

def lookD (a : α) (m : List (α × Value)) (z : Value) : Value := ((findL a m 0).map (·.2)).getD z
theorem look_run {w : World} {M : TypeId} {z : Value} {r : Nat} {m : List (α × Value)} (hM : mapT P M = some (T, z)) (hKT : KeyT P T enc) (hm : MapAt w enc r m) (a : α) :
    (Instr.lookup M (.map (some r)) (enc a) false).run P w = .ok (lookD a m z) w := by
  obtain ⟨e, hu, inf, hi, hz⟩ := mapT_spec hM
  obtain ⟨⟨es, c, h1, h2, _⟩, _⟩ := hm
  have hg : (getObj r).run P w = .ok (.map es c) w := by simp [getObj, Sem.run, h1]
  unfold Instr.lookup
  simp only [underlying, Sem.run_bind, run_program, Result.andThen_ok, hu, Sem.run_pure, hg, hKT.chk, findKey_run hKT a w h2]
  cases hf : findL a m 0 with
  | none => simp [lookD, hf, zeroValue, typeInfo, hi, hz]
  | some p => obtain ⟨i, v⟩ := p; simp [lookD, hf]
theorem look_i {w : World} {M : TypeId} {z : Value} {r : Nat} {m : List (α × Value)} {K : Value → Prop} (hM : mapT P M = some (T, z)) (hKT : KeyT P T enc) (hm : MapAt w enc r m) (a : α) (hK : K (lookD a m z)) :
    rd P (Instr.lookup M (.map (some r)) (enc a) false) w K := rd_i (look_run hM hKT hm a) hK

def putL (a : α) (v : Value) (m : List (α × Value)) : List (α × Value) :=
  match findL a m 0 with
  | some (i, _) => m.set i (a, v)
  | none => m ++ [(a, v)]
theorem putL_fst (a : α) (v : Value) (m : List (α × Value)) : (putL a v m).map Prod.fst = if a ∈ m.map Prod.fst then m.map Prod.fst else m.map Prod.fst ++ [a] := by
  unfold putL
  cases h : findL a m 0 with
  | none => rw [if_neg (findL_none h)]; simp
  | some p =>
    obtain ⟨i, u⟩ := p
    obtain ⟨_, h2⟩ := findL_some h
    simp only [Nat.sub_zero] at h2
    have hmem : a ∈ m.map Prod.fst := List.mem_map.2 ⟨_, List.mem_of_getElem? h2, rfl⟩
    rw [if_pos hmem, List.map_set]
    apply List.ext_getElem?
    intro j
    rw [List.getElem?_set]
    split
    · rename_i e
      subst e
      split
      · simp [h2]
      · rename_i hlt; simp [List.getElem?_eq_none (by simpa using hlt : (m.map Prod.fst).length ≤ i)]
    · rfl

theorem update_i {w : World} {M : TypeId} {z v : Value} {r : Nat} {m : List (α × Value)} {K : World → Prop} (hM : mapT P M = some (T, z)) (hKT : KeyT P T enc) (hm : MapAt w enc r m) (a : α)
    (hK : ∀ w1, Mod (· = r) w w1 → MapAt w1 enc r (putL a v m) → K w1) : effU P (Instr.mapUpdate M (.map (some r)) (enc a) v) w K := by
  obtain ⟨e, hu, inf, hi, hz⟩ := mapT_spec hM
  have hr := hm.lt
  obtain ⟨⟨es, c, h1, h2, h3, h4⟩, h5⟩ := hm
  have hg : (getObj r).run P w = .ok (.map es c) w := by simp [getObj, Sem.run, h1]
  have hset : ∀ o, (setObj r o).run P w = .ok () (setAt w r o) := fun o => by simp [setObj, Sem.run, h1, setAt]
  have hnd : ((putL a v m).map Prod.fst).Nodup := by
    rw [putL_fst]
    split
    · exact h5
    · rename_i hn
      rw [List.nodup_append]
      exact ⟨h5, by simp, fun x hx y hy => by simp at hy; subst hy; exact fun e => hn (e ▸ hx)⟩
  cases hf : findL a m 0 with
  | none =>
    refine effU_i (w' := setAt w r (.map (es.push { key := enc a, val := v, born := c }) (c + 1))) ?_ (hK _ (setAt_mod _ _ _) ⟨⟨_, _, setAt_at w hr _, ?_, ?_, ?_⟩, hnd⟩)
    · unfold Instr.mapUpdate
      simp only [underlying, Sem.run_bind, run_program, Result.andThen_ok, hu, Sem.run_pure, hg, hKT.chk, findKey_run hKT a w h2, hf, hset]
    · unfold Reads at h2 ⊢
      simp [putL, hf, h2]
    · simp only [Array.toList_push, List.map_append, List.map_cons, List.map_nil, List.pairwise_append, h3, true_and]
      refine ⟨by simp, fun x hx y hy => ?_⟩
      simp at hy; subst hy
      obtain ⟨e', he', rfl⟩ := List.mem_map.1 hx
      exact h4 e' he'
    · intro e' he'
      simp only [Array.toList_push, List.mem_append, List.mem_singleton] at he'
      rcases he' with he' | rfl
      · have := h4 e' he'; omega
      · simp
  | some p =>
    obtain ⟨i, u⟩ := p
    obtain ⟨_, hi2⟩ := findL_some hf
    simp only [Nat.sub_zero] at hi2
    have hlen : es.toList.length = m.length := by have := congrArg List.length h2; simpa using this
    have hil : i < m.length := (List.getElem?_eq_some_iff.1 hi2).1
    have hies : i < es.size := by rw [← Array.length_toList]; omega
    have hkey : (es[i]).key = enc a := by
      have h2' := congrArg (·[i]?) h2
      simp only [List.getElem?_map, hi2, Option.map_some] at h2'
      rw [List.getElem?_eq_getElem (by omega)] at h2'
      simp only [Option.map_some, Option.some.injEq, Prod.mk.injEq, Array.getElem_toList] at h2'
      exact h2'.1
    refine effU_i (w' := setAt w r (.map (es.modify i fun e => { e with key := enc a, val := v }) c)) ?_ (hK _ (setAt_mod _ _ _) ⟨⟨_, _, setAt_at w hr _, ?_, ?_, ?_⟩, hnd⟩)
    · unfold Instr.mapUpdate
      simp only [underlying, Sem.run_bind, run_program, Result.andThen_ok, hu, Sem.run_pure, hg, hKT.chk, findKey_run hKT a w h2, hf]
      have : (es[i]?).map (·.key) = some (enc a) := by simp [hies, hkey]
      simp only [this, Option.getD_some, Instr.keyThatStays, hKT.bits, if_true, Sem.run_pure, Result.andThen_ok, hset]
    · unfold Reads at h2 ⊢
      simp only [putL, hf, List.map_set]
      rw [← h2]
      apply List.ext_getElem?
      intro j
      simp only [Array.toList_modify, List.getElem?_map, List.getElem?_modify, List.getElem?_set, List.length_map]
      by_cases e : i = j
      · subst e; simp [hies]
      · simp [e]
    · have : ((es.modify i fun e => { e with key := enc a, val := v }).toList.map (·.born)) = es.toList.map (·.born) := by
        apply List.ext_getElem?
        intro j
        simp only [Array.toList_modify, List.getElem?_map, List.getElem?_modify]
        by_cases e : i = j
        · subst e; cases es.toList[i]? <;> simp
        · simp [e]
      rw [this]; exact h3
    · intro e' he'
      obtain ⟨j, hj, rfl⟩ := List.getElem_of_mem he'
      simp only [Array.toList_modify, List.getElem_modify]
      have hj' : j < es.toList.length := by simpa using hj
      split
      · show es.toList[j].born < c
        exact h4 _ (List.getElem_mem hj')
      · exact h4 _ (List.getElem_mem hj')
omit [DecidableEq α] in
theorem lenMap_i {w : World} {M : TypeId} {z : Value} {r ty : Nat} {m : List (α × Value)} {K : Value → Prop} (hM : mapT P M = some (T, z)) (hm : MapAt w enc r m) (hK : K (i64 m.length)) : rd P (Builtin.len_ #[M] ty #[.map (some r)]) w K := by
  obtain ⟨e, hu, _⟩ := mapT_spec hM
  obtain ⟨⟨es, c, h1, h2, _⟩, _⟩ := hm
  have hg : (getObj r).run P w = .ok (.map es c) w := by simp [getObj, Sem.run, h1]
  have hlen : es.size = m.length := by have := congrArg List.length h2; simpa using this
  exact rd_i (v := i64 m.length) (by simp [Builtin.len_, underlying, hu, hg, goInt, hlen]) hK

inductive All2 {β γ : Type} (R : β → γ → Prop) : List β → List γ → Prop where
  | nil : All2 R [] []
  | cons {x : β} {y : γ} {l : List β} {l' : List γ} (h : R x y) (t : All2 R l l') : All2 R (x :: l) (y :: l')

/-- An iterator over the map r, the keys of done having been handed out, the last of them last; the map has not turned since. -/
structure IterAt (w : World) (enc : α → Value) (it r : Nat) (m : List (α × Value)) (done : List α) : Prop where
  ex : ∃ es clock seen, w.heap[r]? = some (.map es clock) ∧ Reads enc es.toList m ∧ (es.toList.map (·.born)).Pairwise (· < ·) ∧ (∀ e ∈ es.toList, e.born < clock) ∧
    w.heap[it]? = some (.mapIter (some r) clock seen clock) ∧ All2 (fun s a => ∃ e ∈ es.toList, e.born = s ∧ e.key = enc a) seen.toList done
  nodup : (m.map Prod.fst).Nodup
  inj : ∀ a b : α, enc a = enc b → a = b

omit [DecidableEq α] in
theorem IterAt.keep {w w' : World} {it r : Nat} {m : List (α × Value)} {done : List α} (h : IterAt w enc it r m done) (h1 : w'.heap[r]? = w.heap[r]?) (h2 : w'.heap[it]? = w.heap[it]?) : IterAt w' enc it r m done := by
  obtain ⟨⟨es, c, s, a1, a2, a3, a4, a5, a6⟩, b, d⟩ := h
  exact ⟨⟨es, c, s, h1.trans a1, a2, a3, a4, h2.trans a5, a6⟩, b, d⟩
omit [DecidableEq α] in
theorem IterAt.lt {w : World} {it r : Nat} {m : List (α × Value)} {done : List α} (h : IterAt w enc it r m done) : r < w.heap.size ∧ it < w.heap.size := by
  obtain ⟨⟨es, c, s, a1, _, _, _, a5, _⟩, _⟩ := h
  exact ⟨lt_of_at a1, lt_of_at a5⟩
omit [DecidableEq α] in
theorem IterAt.mod {S : Nat → Prop} {w w' : World} {it r : Nat} {m : List (α × Value)} {done : List α} (h : IterAt w enc it r m done) (he : Mod S w w') (h1 : ¬ S r) (h2 : ¬ S it) : IterAt w' enc it r m done :=
  h.keep (he.block r h.lt.1 h1) (he.block it h.lt.2 h2)
omit [DecidableEq α] in
theorem IterAt.map {w : World} {it r : Nat} {m : List (α × Value)} {done : List α} (h : IterAt w enc it r m done) : MapAt w enc r m := by
  obtain ⟨⟨es, c, s, a1, a2, a3, a4, _⟩, b, _⟩ := h
  exact ⟨⟨es, c, a1, a2, a3, a4⟩, b⟩

omit [DecidableEq α] in
theorem range_i {w : World} {M : TypeId} {z : Value} {r : Nat} {m : List (α × Value)} {K : Value → World → Prop} (hM : mapT P M = some (T, z)) (hinj : ∀ a b : α, enc a = enc b → a = b) (hm : MapAt w enc r m)
    (hK : ∀ it w1, Ext w w1 → w.heap.size ≤ it → IterAt w1 enc it r m [] → K (ptr it 0) w1) : eff P (Instr.range M (.map (some r))) w K := by
  obtain ⟨e, hu, _⟩ := mapT_spec hM
  have hr := hm.lt
  obtain ⟨⟨es, c, h1, h2, h3, h4⟩, h5⟩ := hm
  have hg : (getObj r).run P w = .ok (.map es c) w := by simp [getObj, Sem.run, h1]
  have hx := Ext.alloc w (.mapIter (some r) c #[] c)
  refine eff_i (v := ptr w.heap.size 0) (w' := w.alloc (.mapIter (some r) c #[] c)) ?_ (hK _ _ hx (Nat.le_refl _) ⟨⟨es, c, #[], hx.at_ h1, h2, h3, h4, at_alloc _ _, .nil⟩, h5, hinj⟩)
  unfold Instr.range
  simp only [underlying, Sem.run_bind, run_program, Result.andThen_ok, hu, Sem.run_pure, hg]
  simp

theorem forall2_mem {β γ : Type} {R : β → γ → Prop} : ∀ {l : List β} {l' : List γ}, All2 R l l' → ∀ x ∈ l, ∃ y ∈ l', R x y
  | _, _, .nil, _, h => by cases h
  | _, _, .cons h t, x, hx => by
    rcases List.mem_cons.1 hx with rfl | hx
    · exact ⟨_, List.mem_cons_self, h⟩
    · obtain ⟨y, hy, hr⟩ := forall2_mem t x hx; exact ⟨y, List.mem_cons_of_mem _ hy, hr⟩
theorem forall2_mem' {β γ : Type} {R : β → γ → Prop} : ∀ {l : List β} {l' : List γ}, All2 R l l' → ∀ y ∈ l', ∃ x ∈ l, R x y
  | _, _, .nil, _, h => by cases h
  | _, _, .cons h t, y, hy => by
    rcases List.mem_cons.1 hy with rfl | hy
    · exact ⟨_, List.mem_cons_self, h⟩
    · obtain ⟨x, hx, hr⟩ := forall2_mem' t y hy; exact ⟨x, List.mem_cons_of_mem _ hx, hr⟩
theorem forall2_snoc {β γ : Type} {R : β → γ → Prop} : ∀ {l : List β} {l' : List γ} {x : β} {y : γ}, All2 R l l' → R x y → All2 R (l ++ [x]) (l' ++ [y])
  | _, _, _, _, .nil, h => .cons h .nil
  | _, _, _, _, .cons h t, h' => .cons h (forall2_snoc t h')

theorem born_inj {es : List MapEntry} (h : (es.map (·.born)).Pairwise (· < ·)) {e f : MapEntry} (he : e ∈ es) (hf : f ∈ es) (hb : e.born = f.born) : e = f := by
  induction es with
  | nil => cases he
  | cons x es ih =>
    simp only [List.map_cons, List.pairwise_cons, List.mem_map, forall_exists_index, and_imp, forall_apply_eq_imp_iff₂] at h
    rcases List.mem_cons.1 he with h1 | h1 <;> rcases List.mem_cons.1 hf with h2 | h2
    · rw [h1, h2]
    · have := h.1 _ h2; rw [h1] at hb; omega
    · have := h.1 _ h1; rw [h2] at hb; omega
    · exact ih h.2 h1 h2

theorem back?_tl {β : Type} (a : Array β) : a.back? = a.toList.getLast? := by
  simp [Array.back?, List.getLast?_eq_getElem?]
theorem nd_inj {β : Type} {l : List β} (h : l.Nodup) {i j : Nat} (hi : i < l.length) (hj : j < l.length) (e : l[i] = l[j]) : i = j := by
  rcases Nat.lt_trichotomy i j with h1 | h1 | h1
  · exact absurd e ((List.pairwise_iff_getElem.1 h) i j hi hj h1)
  · exact h1
  · exact absurd e.symm ((List.pairwise_iff_getElem.1 h) j i hj hi h1)

omit [DecidableEq α] in
theorem reads_mem {es : List MapEntry} {m : List (α × Value)} (hr : Reads enc es m) {e : MapEntry} (he : e ∈ es) : ∃ p ∈ m, e.key = enc p.1 ∧ e.val = p.2 := by
  have : (e.key, e.val) ∈ es.map (fun e => (e.key, e.val)) := List.mem_map.2 ⟨e, he, rfl⟩
  rw [hr] at this
  obtain ⟨p, hp, hpe⟩ := List.mem_map.1 this
  simp only [Prod.mk.injEq] at hpe
  exact ⟨p, hp, hpe.1.symm, hpe.2.symm⟩
omit [DecidableEq α] in
theorem reads_mem' {es : List MapEntry} {m : List (α × Value)} (hr : Reads enc es m) {p : α × Value} (hp : p ∈ m) : ∃ e ∈ es, e.key = enc p.1 ∧ e.val = p.2 := by
  have : (enc p.1, p.2) ∈ m.map (fun p => (enc p.1, p.2)) := List.mem_map.2 ⟨p, hp, rfl⟩
  rw [← hr] at this
  obtain ⟨e, he, hpe⟩ := List.mem_map.1 this
  simp only [Prod.mk.injEq] at hpe
  exact ⟨e, he, hpe.1, hpe.2⟩

omit [DecidableEq α] in
/-- The step of an iterator: all has been handed out, or one more, whichever. -/
theorem next_i {w : World} {it r ty : Nat} {m : List (α × Value)} {done : List α} {K : Value → World → Prop} (hI : IterAt w enc it r m done)
    (hend : (∀ p ∈ m, p.1 ∈ done) → ∀ w1, Same w w1 → K (.tuple #[.bool false]) w1)
    (hmore : ∀ a v, (a, v) ∈ m → a ∉ done → ∀ w1, Mod (· = it) w w1 → IterAt w1 enc it r m (done ++ [a]) → K (.tuple #[.bool true, enc a, v]) w1) :
    eff P (Instr.next (ptr it 0) false ty) w K := by
  obtain ⟨hlr, hli⟩ := hI.lt
  obtain ⟨⟨es, c, seen, h1, h2, h3, h4, h5, h6⟩, h7, h8⟩ := hI
  have hne : r ≠ it := fun e => by subst e; rw [h1] at h5; cases h5
  have hgi : ∀ w', w'.heap = w.heap → (getObj it).run P w' = .ok (.mapIter (some r) c seen c) w' := fun w' e => by simp [getObj, Sem.run, e, h5]
  have hgm : ∀ w', w'.heap = w.heap → (getObj r).run P w' = .ok (.map es c) w' := fun w' e => by simp [getObj, Sem.run, e, h1]
  have hset : ∀ (w' : World) o, w'.heap = w.heap → (setObj it o).run P w' = .ok () (setAt w' it o) := fun w' o e => by simp [setObj, Sem.run, e, h5, setAt]
  have hborn : (!seen.isEmpty && !es.isEmpty && es.all fun e => decide (e.born ≥ c)) = false := by
    cases hes : es.isEmpty with
    | true => simp
    | false =>
      have : es.all (fun e => decide (e.born ≥ c)) = false := by
        have hpos : 0 < es.size := by
          rcases Nat.eq_zero_or_pos es.size with h | h
          · simp [Array.isEmpty, h] at hes
          · exact h
        rw [Bool.eq_false_iff]
        intro hall
        have h9 := Array.all_eq_true.1 hall 0 hpos
        have := h4 es[0] (by simp)
        simp at h9
        omega
      simp [this]
  let left := es.filter fun e => !seen.contains e.born
  have hleft : ∀ e, e ∈ left → e ∈ es.toList ∧ e.born ∉ seen.toList := fun e he => by
    obtain ⟨a, b⟩ := Array.mem_filter.1 he
    exact ⟨by simpa using a, by simpa using b⟩
  have hold : left.filter (fun e => decide (e.born < c)) = left := by
    rw [Array.filter_eq_self]
    intro e he
    simpa using h4 e (hleft e he).1
  have hnew : left.filter (fun e => decide (e.born ≥ c)) = #[] := by
    rw [Array.filter_eq_empty_iff]
    intro e he
    have := h4 e (hleft e he).1
    simp; omega
  have hdone : ∀ e ∈ es.toList, e.born ∈ seen.toList → ∀ p ∈ m, e.key = enc p.1 → p.1 ∈ done := fun e he hs p _ hk => by
    obtain ⟨a, ha, e', he', hb, hk'⟩ := forall2_mem h6 _ hs
    have : e' = e := born_inj h3 he' he hb
    subst this
    rw [hk] at hk'
    rw [h8 _ _ hk']; exact ha
  by_cases hemp : left = #[]
  · -- all handed out
    have hall : ∀ p ∈ m, p.1 ∈ done := fun p hp => by
      obtain ⟨e, he, hk, _⟩ := reads_mem' h2 hp
      refine hdone e he ?_ p hp hk
      rcases Classical.em (e.born ∈ seen.toList) with h | h
      · exact h
      · exfalso
        have : e ∈ left := Array.mem_filter.2 ⟨by simpa using he, by simpa using h⟩
        rw [hemp] at this; simp at this
    refine eff_i (v := .tuple #[.bool false]) (w' := w) ?_ (hend hall w (Same.refl w))
    unfold Instr.next
    simp only [Sem.run_bind, hgi w rfl, Result.andThen_ok, hgm w rfl, hborn, Bool.false_eq_true, if_false]
    rw [show (es.filter fun e => !seen.contains e.born) = left from rfl, hold, hnew, hemp]
    simp [run_choose, Question.forced]
  · have hpos : 0 < left.size := by
      rcases Nat.eq_zero_or_pos left.size with h | h
      · exact absurd (Array.eq_empty_of_size_eq_zero h) hemp
      · exact h
    have hne' : left.isEmpty = false := by simp [Array.isEmpty]; omega
    -- the pick
    have key : ∀ (k : Nat) (w' : World), k < left.size → w'.heap = w.heap → Same w w' → ∃ v w1, (match ((left ++ #[]).map some)[k]? with
          | some (some e) => do
            setObj it (.mapIter (some r) c (seen.push e.born) c)
            pure (.tuple #[.bool true, e.key, e.val])
          | some none => pure (.tuple #[.bool false])
          | none => stuck "Next: no such candidate" : Sem Value).run P w' = .ok v w1 ∧ K v w1 := by
      intro k w' hk hh hsame
      have hmem : left[k] ∈ left := Array.getElem_mem hk
      obtain ⟨he, hns⟩ := hleft _ hmem
      obtain ⟨p, hp, hpk, hpv⟩ := reads_mem h2 he
      have hp1 : p.1 ∉ done := fun hd => by
        obtain ⟨s, hs, e', he', hb, hk'⟩ := forall2_mem' h6 _ hd
        have h10 : e'.key = (left[k]).key := by rw [hk', hpk]
        -- equal keys: equal entries, the keys being apart
        have : e' = left[k] := by
          have hn : (es.toList.map (·.key)).Nodup := by
            have : es.toList.map (·.key) = (m.map Prod.fst).map enc := by
              have := congrArg (List.map Prod.fst) h2
              simpa [List.map_map, Function.comp_def] using this
            rw [this]
            exact h7.map _ (fun a b hab he => hab (h8 _ _ he))
          obtain ⟨i, hi, rfl⟩ := List.getElem_of_mem he'
          obtain ⟨j, hj, hje⟩ := List.getElem_of_mem he
          rw [← hje] at h10 ⊢
          have : i = j := by
            have h11 : (es.toList.map (·.key))[i]'(by simpa using hi) = (es.toList.map (·.key))[j]'(by simpa using hj) := by simpa using h10
            exact nd_inj hn _ _ h11
          subst this; rfl
        rw [← this, hb] at hns
        exact hns hs
      refine ⟨.tuple #[.bool true, (left[k]).key, (left[k]).val], setAt w' it (.mapIter (some r) c (seen.push (left[k]).born) c), ?_, ?_⟩
      · simp only [Array.append_empty, Array.getElem?_map, Array.getElem?_eq_getElem hk, Option.map_some]
        simp only [Sem.run_bind, hset w' _ hh, Result.andThen_ok, Sem.run_pure]
      · rw [hpk, hpv]
        refine hmore p.1 p.2 hp hp1 _ ((hsame.mod).trans (setAt_mod _ _ _)) ⟨⟨es, c, seen.push (left[k]).born, ?_, h2, h3, h4, setAt_at _ (by rw [hh]; exact hli) _, ?_⟩, h7, h8⟩
        · rw [setAt_ne _ _ hne, hh]; exact h1
        · rw [Array.toList_push]
          exact forall2_snoc h6 ⟨left[k], he, rfl, hpk⟩
    have hq : ((left ++ #[]).map some : Array (Option MapEntry)).size = left.size := by simp
    have run0 : ∀ (k : Nat) (w' : World), (choose (.mapNext left.size)).run P w = .ok k w' → (Instr.next (ptr it 0) false ty).run P w = (match ((left ++ #[]).map some)[k]? with
          | some (some e) => do
            setObj it (.mapIter (some r) c (seen.push e.born) c)
            pure (.tuple #[.bool true, e.key, e.val])
          | some none => pure (.tuple #[.bool false])
          | none => stuck "Next: no such candidate" : Sem Value).run P w' := by
      intro k w' hk
      unfold Instr.next
      simp only [Sem.run_bind, hgi w rfl, Result.andThen_ok, hgm w rfl, hborn, Bool.false_eq_true, if_false]
      rw [show (es.filter fun e => !seen.contains e.born) = left from rfl, hold, hnew, hne']
      simp only [Bool.false_eq_true, if_false, Array.empty_append, hq, hk, Result.andThen_ok]
      rfl
    by_cases hf : (Question.mapNext left.size).forced = true
    · obtain ⟨v, w1, hv, hk⟩ := key 0 w hpos rfl (Same.refl w)
      exact eff_i ((run0 0 w (by simp only [run_choose, hf, if_true])).trans hv) hk
    · have hf' : (Question.mapNext left.size).forced = false := by simpa using hf
      obtain ⟨v, w1, hv, hk⟩ := key ((Question.mapNext left.size).cut (w.tape w.drawn (.mapNext left.size))) w.drew (Nat.mod_lt _ hpos) rfl (Same.drew w)
      exact eff_i ((run0 _ w.drew (by simp only [run_choose, hf', Bool.false_eq_true, if_false]; rfl)).trans hv) hk

omit [DecidableEq α] in
theorem entry_i {w : World} {it r : Nat} {m : List (α × Value)} {done : List α} {a : α} {K : Value → World → Prop} (hI : IterAt w enc it r m (done ++ [a])) (hK : ∀ v, (a, v) ∈ m → K (.tuple #[enc a, v]) w) : eff P (Instr.entry (ptr it 0)) w K := by
  obtain ⟨⟨es, c, seen, h1, h2, h3, h4, h5, h6⟩, h7, h8⟩ := hI
  have hgi : (getObj it).run P w = .ok (.mapIter (some r) c seen c) w := by simp [getObj, Sem.run, h5]
  have hgm : (getObj r).run P w = .ok (.map es c) w := by simp [getObj, Sem.run, h1]
  obtain ⟨s, hs, e, he, hb, hk⟩ : ∃ s, seen.back? = some s ∧ ∃ e ∈ es.toList, e.born = s ∧ e.key = enc a := by
    have hlast : ∀ {l : List Nat} {l' : List α}, All2 (fun s a => ∃ e ∈ es.toList, e.born = s ∧ e.key = enc a) l (l' ++ [a]) → ∃ s, l.getLast? = some s ∧ ∃ e ∈ es.toList, e.born = s ∧ e.key = enc a := by
      intro l l' h
      induction l' generalizing l with
      | nil => cases h with | cons h t => cases t; exact ⟨_, rfl, h⟩
      | cons x l' ih =>
        cases h with
        | cons h t =>
          obtain ⟨s, hs, r⟩ := ih t
          refine ⟨s, ?_, r⟩
          rw [List.getLast?_cons, hs]; rfl
    obtain ⟨s, hs, r⟩ := hlast h6
    exact ⟨s, by rw [← hs]; exact back?_tl _ , r⟩
  obtain ⟨p, hp, hpk, hpv⟩ := reads_mem h2 he
  have hpa : p.1 = a := h8 _ _ (hpk.symm.trans hk)
  have hfind : es.find? (fun e => e.born == s) = some e := by
    cases hfd : es.find? (fun e => e.born == s) with
    | none => have := Array.find?_eq_none.1 hfd e (by simpa using he); simp [hb] at this
    | some e' =>
      have hm := Array.mem_of_find?_eq_some hfd
      have hp' := Array.find?_some hfd
      have : e' = e := born_inj h3 (by simpa using hm) he (by rw [hb]; simpa using hp')
      rw [this]
  refine eff_i (v := .tuple #[enc a, e.val]) (w' := w) ?_ (hK _ (by rw [← hpa, hpv]; exact hp))
  unfold Instr.entry
  simp only [Sem.run_bind, hgi, Result.andThen_ok, hs, hgm]
  simp [hfind, hk]
end
end Go.SL
