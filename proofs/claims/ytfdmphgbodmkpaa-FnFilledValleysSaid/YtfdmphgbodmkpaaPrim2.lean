/- Rules for slices and strings. No program in sight. -/
import Derived.Test.YtfdmphgbodmkpaaPrim
import Derived.Laws.Strings
import Derived.Laws.StructEq
set_option linter.unusedVariables false
set_option linter.unusedSimpArgs false
namespace Go.SL
open Go Go.RowKit

abbrev sl (b o n c : Nat) : Value := .slice (some ⟨b, o, none⟩) n c
def strT (P : Program) (T : TypeId) : Bool := match P.underlying T with | some .string => true | _ => false

theorem sliceT_spec {P : Program} {T e size bytes : Nat} {z : Value} (h : sliceT P T = some (e, size, bytes, z)) :
    P.underlying T = some (.slice e) ∧ ∃ inf, P.info? e = some inf ∧ inf.size = size ∧ inf.bytes = bytes ∧ inf.zero = some z := by
  unfold sliceT at h
  split at h
  · rename_i e' hu
    split at h
    · rename_i inf hi
      split at h
      · rename_i z' hz
        simp only [Option.some.injEq, Prod.mk.injEq] at h
        obtain ⟨rfl, h2, h3, rfl⟩ := h
        exact ⟨hu, inf, hi, h2, h3, hz⟩
      · cases h
    · cases h
  · cases h
theorem strT_spec {P : Program} {T : TypeId} (h : strT P T = true) : P.underlying T = some .string := by
  unfold strT at h
  split at h
  · rename_i hu; exact hu
  · cases h

theorem idx_i {P : Program} {T e size bytes : Nat} {z : Value} {b o n c : Nat} {i : Int} {K : Value → Prop} (hT : sliceT P T = some (e, size, bytes, z)) (h0 : 0 ≤ i) (h1 : i < n) (hK : K (ptr b (o + i.toNat * size))) :
    pur P (Instr.indexAt T (sl b o n c) (i64 i)) K := by
  obtain ⟨hu, inf, hi, hs, _, _⟩ := sliceT_spec hT
  refine pur_i (v := ptr b (o + i.toNat * size)) (fun w => ?_) hK
  simp [Instr.indexAt, asIntOf, underlying, hu, h0, h1, sizeOf, typeInfo, hi, hs, addr_add]
theorem lenS_i {P : Program} {T e size bytes ty : Nat} {z : Value} {a : Option Addr} {n c : Nat} {w : World} {K : Value → Prop} (hT : sliceT P T = some (e, size, bytes, z)) (hK : K (i64 n)) : rd P (Builtin.len_ #[T] ty #[.slice a n c]) w K := by
  obtain ⟨hu, _⟩ := sliceT_spec hT
  exact rd_i (v := i64 n) (by simp [Builtin.len_, underlying, hu, goInt]) hK
theorem lenStr_i {P : Program} {T ty : Nat} {s : ByteArray} {w : World} {K : Value → Prop} (hT : strT P T = true) (hK : K (i64 s.size)) : rd P (Builtin.len_ #[T] ty #[.string s]) w K := by
  have hu := strT_spec hT
  exact rd_i (v := i64 s.size) (by simp [Builtin.len_, underlying, hu, goInt]) hK
theorem idxStr_i {P : Program} {T : Nat} {s : ByteArray} {i : Int} {x : UInt8} {K : Value → Prop} (hT : strT P T = true) (h0 : 0 ≤ i) (h1 : s[i.toNat]? = some x) (hK : K (.int .u8 x.toNat)) : pur P (Instr.index T (.string s) (i64 i)) K := by
  have hu := strT_spec hT
  exact pur_i (v := .int .u8 x.toNat) (fun w => by simp [Instr.index, asIntOf, underlying, hu, h0, h1]) hK

def structT (P : Program) (T : TypeId) : Option (List (Nat × Nat) × Value) :=
  match P.underlying T, (P.info? T).bind (·.zero) with
  | some (.struct fs), some z => (fs.toList.mapM fun f => (P.info? f.type).map fun inf => (f.offset, inf.size)).map fun l => (l, z)
  | _, _ => none
theorem mapM_places {P : Program} {w : World} : ∀ (fs : List Field) (l : List (Nat × Nat)), (fs.mapM fun f => (P.info? f.type).map fun inf => (f.offset, inf.size)) = some l →
    (fs.mapM fun f => do pure (f.offset, ← sizeOf f.type) : Sem (List (Nat × Nat))).run P w = .ok l w
  | [], l, h => by simp at h; subst h; rfl
  | f :: fs, l, h => by
    rw [List.mapM_cons] at h
    simp only [Option.bind_eq_bind, Option.bind_eq_some_iff, Option.map_eq_some_iff, Option.pure_def, Option.some.injEq] at h
    obtain ⟨x, ⟨inf, hi, rfl⟩, l', hl', rfl⟩ := h
    have ih := mapM_places (w := w) fs l' hl'
    rw [List.mapM_cons]
    simp [sizeOf, typeInfo, hi] at ih ⊢
    simp [ih]
theorem build_i {P : Program} {T : TypeId} {l : List (Nat × Nat)} {z : Value} {parts : Array (Nat × Value)} {cells : Array Value} {K : Value → Prop} (hT : structT P T = some (l, z))
    (hc : Instr.fill (fun i => l.toArray[i]?) z.cells parts.toList = some cells) (hK : K (.agg cells)) : pur P (Instr.build T parts) K := by
  unfold structT at hT
  split at hT
  · rename_i fs z' hu hz
    simp only [Option.map_eq_some_iff, Prod.mk.injEq] at hT
    obtain ⟨l', hl, rfl, rfl⟩ := hT
    obtain ⟨inf, hi, hz⟩ := Option.bind_eq_some_iff.1 hz
    refine pur_i (v := .agg cells) (fun w => ?_) hK
    unfold Instr.build
    have hm := mapM_places (w := w) fs.toList l' hl
    simp only [zeroValue, typeInfo, underlying, Sem.run_bind, run_program, Result.andThen_ok, hi, hz, hu, Sem.run_pure, Array.mapM_eq_mapM_toList, Sem.run_map]
    simp only [sizeOf, typeInfo] at hm ⊢
    rw [hm]
    simp only [Result.andThen_ok, hc, Sem.run_pure]
  · cases hT

theorem buildSlice_i {P : Program} {T e size bytes n : Nat} {z : Value} {parts : Array (Nat × Value)} {cells : Array Value} {w : World} {K : Value → World → Prop} (hT : sliceT P T = some (e, size, bytes, z)) (hn : n * size ≤ 2 ^ 24)
    (hc : Instr.fill (fun i => some (i * size, size)) ((Array.range (n * size)).map (fun i => (if n * size = 0 then #[] else z.cells)[i % (if n * size = 0 then #[] else z.cells).size]!)) parts.toList = some cells)
    (hK : ∀ b w1, New w w1 b (row cells e) → K (sl b 0 n n) w1) : eff P (Instr.buildSlice T n parts) w K := by
  obtain ⟨hu, inf, hi, hs, _, hz⟩ := sliceT_spec hT
  subst hs
  refine eff_i (v := sl w.heap.size 0 n n) (w' := w.alloc (row cells e)) ?_ (hK _ _ (New.alloc _ _))
  unfold Instr.buildSlice
  have h2 : ¬ n * inf.size > 2 ^ 24 := by omega
  by_cases h0 : n * inf.size = 0
  · simp only [h0, if_true] at hc
    have h3 : ¬ ((0 : Nat) > 2 ^ 24) := by decide
    simp only [underlying, hu, sizeOf, typeInfo, hi, Sem.run_bind, run_program, Result.andThen_ok, Sem.run_pure, h3, if_false, h0, if_true, pure_bind, hc, newRow, run_newObj]
    rfl
  · simp only [h0, if_false] at hc
    simp only [underlying, hu, sizeOf, typeInfo, hi, Sem.run_bind, run_program, Result.andThen_ok, Sem.run_pure, h2, if_false, h0, zeroValue, hz, hc, newRow, run_newObj]
    rfl

theorem range_map_one (n : Nat) (z : Value) : ((Array.range n).map (#[z][· % (#[z] : Array Value).size]!)) = Array.replicate n z := by
  apply Array.ext
  · simp
  · intro i h1 h2
    simp [Nat.mod_one]
theorem makeSlice_i {P : Program} {T e bytes n : Nat} {z : Value} {w : World} {K : Value → World → Prop} (hT : sliceT P T = some (e, 1, bytes, z)) (hz1 : one z = true) (hn : n ≤ 1000000000) (hb : bytes ≤ 1000)
    (hK : ∀ b w1, New w w1 b (row (Array.replicate n z) e) → K (sl b 0 n n) w1) : eff P (Instr.makeSlice T (i64 n) (i64 n)) w K := by
  obtain ⟨hu, inf, hi, hs, hby, hz⟩ := sliceT_spec hT
  refine eff_i (v := sl w.heap.size 0 n n) (w' := w.alloc (row (Array.replicate n z) e)) ?_ (hK _ _ (New.alloc _ _))
  unfold Instr.makeSlice
  have hw : IntKind.i64.wrap (n : Int) = n := IntWalk.i64_in _ ⟨by omega, by omega⟩
  have hmul : (bytes : Int) * n ≤ 1000 * 1000000000 := Int.mul_le_mul (by omega) (by omega) (by omega) (by omega)
  have h1 : ¬ ((n : Int) < 0) := by omega
  have h2 : ¬ ((bytes : Int) * n > 2 ^ 48) := by omega
  simp only [underlying, hu, asInt, asIntOf, typeInfo, hi, Sem.run_bind, run_program, Result.andThen_ok, Sem.run_pure, pure_bind, hw, hby]
  have hc : ((decide ((n : Int) < 0) || decide ((bytes : Int) * n > 2 ^ 48) || decide ((n : Int) < 0) || decide ((n : Int) > n)) = false) := by simp only [h1, h2, decide_false, Bool.or_self, Bool.false_or, decide_eq_false_iff_not]; omega
  rw [if_neg (by simpa using hc)]
  by_cases h0 : n = 0
  · subst h0
    have hr : Array.range 0 = #[] := rfl
    simp [sizeOf, typeInfo, hi, newRow, hr]
  · simp only [Int.toNat_natCast, Sem.run_bind, run_askRoom, Result.andThen_ok, sizeOf, typeInfo, run_program, hi, Sem.run_pure, hs, Nat.mul_one, h0, if_false, zeroValue, hz, one_cells hz1, range_map_one, newRow, run_newObj]
    rfl
theorem slice_i {P : Program} {T e size bytes : Nat} {z : Value} {b o n c : Nat} {lo : Int} {K : Value → Prop} (hT : sliceT P T = some (e, size, bytes, z)) (h0 : 0 ≤ lo) (h1 : lo ≤ n)
    (hK : K (sl b (if c = lo.toNat then o else o + lo.toNat * size) (n - lo.toNat) (c - lo.toNat))) : pur P (Instr.sliceAt T (sl b o n c) (some (i64 lo)) none none) K := by
  obtain ⟨hu, inf, hi, hs, _, _⟩ := sliceT_spec hT
  refine pur_i (v := sl b (if c = lo.toNat then o else o + lo.toNat * size) (n - lo.toNat) (c - lo.toNat)) (fun w => ?_) hK
  have hle : lo ≤ (n : Int) := h1
  by_cases hc : c = lo.toNat
  · simp [Instr.sliceAt, Instr.slice, underlying, hu, Instr.sliceBounds, Instr.sliceBound, asIntOf, h0, hle, sizeOf, typeInfo, hi, hc]
  · simp [Instr.sliceAt, Instr.slice, underlying, hu, Instr.sliceBounds, Instr.sliceBound, asIntOf, h0, hle, sizeOf, typeInfo, hi, hs, hc, addr_add]

/-! ### append -/
theorem growBy_le (m : Nat) : ∀ (r c : Nat), 256 ≤ c → Builtin.growBy m r c ≤ c * 2 ^ r
  | 0, c, _ => by simp [Builtin.growBy]
  | r + 1, c, h => by
    unfold Builtin.growBy
    split
    · have : c * 1 ≤ c * 2 ^ (r + 1) := Nat.mul_le_mul_left c (Nat.one_le_two_pow)
      omega
    · have h1 := growBy_le m r (c + (c + 768) / 4) (by omega)
      have h2 : (c + (c + 768) / 4) * 2 ^ r ≤ (2 * c) * 2 ^ r := Nat.mul_le_mul_right _ (by omega)
      have h3 : (2 * c) * 2 ^ r = c * 2 ^ (r + 1) := by rw [Nat.pow_succ]; ac_rfl
      omega
theorem nextcap_le {m c : Nat} (h : c < m) : Builtin.nextslicecap m c ≤ 16 * m := by
  unfold Builtin.nextslicecap
  split
  · omega
  · split
    · omega
    · have := growBy_le m 4 c (by omega)
      omega

/-- The slice value v is over block b from cell o on, n elements of size cells, room for c, and holds xs. -/
structure Sl (w : World) (E size b o n c : Nat) (xs : List Value) : Prop where
  cells : ∃ cs, w.heap[b]? = some (row cs E) ∧ o + c * size ≤ cs.size ∧ (cs.toList.drop o).take (n * size) = xs
  le : n ≤ c
theorem Sl.len {w : World} {E size b o n c : Nat} {xs : List Value} (h : Sl w E size b o n c xs) : xs.length = n * size := by
  obtain ⟨cs, _, h2, h3⟩ := h.cells
  subst h3
  have := Nat.mul_le_mul_right size h.le
  simp; omega
theorem Sl.of_row {w : World} {E size b n : Nat} {xs : List Value} (h : w.heap[b]? = some (row xs.toArray E)) (hl : xs.length = n * size) : Sl w E size b 0 n n xs :=
  ⟨⟨xs.toArray, h, by simp [hl], by simp [← hl]⟩, Nat.le_refl _⟩
theorem Sl.keep {w w' : World} {E size b o n c : Nat} {xs : List Value} (h : Sl w E size b o n c xs) (hh : w'.heap[b]? = w.heap[b]?) : Sl w' E size b o n c xs := by
  obtain ⟨cs, h1, h2⟩ := h.cells
  exact ⟨⟨cs, hh.trans h1, h2⟩, h.le⟩
theorem Sl.lt {w : World} {E size b o n c : Nat} {xs : List Value} (h : Sl w E size b o n c xs) : b < w.heap.size := by
  obtain ⟨cs, h1, _⟩ := h.cells; exact lt_of_at h1
theorem Sl.ext {w w' : World} {E size b o n c : Nat} {xs : List Value} (h : Sl w E size b o n c xs) (he : Ext w w') : Sl w' E size b o n c xs := h.keep (he.block b h.lt id)
theorem Sl.mod {S : Nat → Prop} {w w' : World} {E size b o n c : Nat} {xs : List Value} (h : Sl w E size b o n c xs) (he : Mod S w w') (hb : ¬ S b) : Sl w' E size b o n c xs := h.keep (he.block b h.lt hb)
/-- Its element j. -/
theorem Sl.cell {w : World} {E size b o n c : Nat} {xs : List Value} (h : Sl w E size b o n c xs) {j : Nat} {v : Value} (hv : xs[j]? = some v) : ∃ cs, w.heap[b]? = some (row cs E) ∧ cs[o + j]? = some v := by
  obtain ⟨cs, h1, h2, h3⟩ := h.cells
  refine ⟨cs, h1, ?_⟩
  subst h3
  rw [List.getElem?_take] at hv
  split at hv
  · simpa using hv
  · cases hv
theorem Sl.tail {w : World} {E size b o n c : Nat} {xs : List Value} (h : Sl w E size b o (n + 1) c xs) : Sl w E size b (if c = 1 then o else o + size) n (c - 1) (xs.drop size) := by
  obtain ⟨cs, h2, h3, h4⟩ := h.cells
  have hle := h.le
  subst h4
  by_cases hc : c = 1
  · subst hc
    have hn0 : n = 0 := by omega
    subst hn0
    rw [if_pos rfl]
    exact ⟨⟨cs, h2, by omega, by simp [List.drop_take]⟩, by omega⟩
  · rw [if_neg hc]
    refine ⟨⟨cs, h2, ?_, ?_⟩, by omega⟩
    · have : c * size = (c - 1) * size + size := by
        obtain ⟨d, rfl⟩ : ∃ d, c = d + 1 := ⟨c - 1, by omega⟩
        rw [Nat.add_sub_cancel, Nat.succ_mul]
      omega
    · rw [List.drop_take, List.drop_drop, Nat.succ_mul]
      congr 1
      omega

theorem loadCells_run {P : Program} {w : World} {b o n : Nat} {cs : Array Value} {E : TypeId} {fz : Nat × Nat} (h : w.heap[b]? = some (.cells cs E fz)) (hn : o + n ≤ cs.size) :
    (loadCells ⟨b, o, none⟩ n).run P w = .ok (cs.extract o (o + n)) w := by
  have := loadCellsFrom_run (P := P) h n 0 #[] (by omega)
  simp only [Nat.add_zero] at this
  unfold loadCells
  rw [this]
  simp
theorem Sl.load {P : Program} {w : World} {E size b o n c : Nat} {xs : List Value} (h : Sl w E size b o n c xs) : (loadCells ⟨b, o, none⟩ (n * size)).run P w = .ok xs.toArray w := by
  obtain ⟨cs, h1, h2, h3⟩ := h.cells
  have := Nat.mul_le_mul_right size h.le
  rw [loadCells_run h1 (by omega)]
  congr 1
  apply Array.ext'
  subst h3
  simp [List.extract_eq_take_drop]

theorem append_i {P : Program} {T E size bytes ty : Nat} {z : Value} {w : World} {b o n c b2 o2 n2 c2 : Nat} {xs ys : List Value} {K : Value → World → Prop} (hT : sliceT P T = some (E, size, bytes, z))
    (hzs : z.cells.size = size) (hb : 0 < bytes) (hb2 : bytes ≤ 1000) (hx : Sl w E size b o n c xs) (hy : Sl w E size b2 o2 n2 c2 ys) (hone : ∀ v ∈ ys, one v = true) (hn : n + n2 ≤ 1000000000)
    (hK : ∀ b' o' c' w', (b' = b ∧ Mod (· = b) w w' ∨ w.heap.size ≤ b' ∧ Ext w w') → Sl w' E size b' o' (n + n2) c' (xs ++ ys) → K (sl b' o' (n + n2) c') w') :
    eff P (Builtin.append_ #[T, T] ty #[sl b o n c, sl b2 o2 n2 c2]) w K := by
  obtain ⟨hu, inf, hi, hs, hby, hz⟩ := sliceT_spec hT
  subst hs
  have hxl := hx.len
  have hyl := hy.len
  unfold Builtin.append_
  by_cases hroom : n + n2 ≤ c
  · obtain ⟨cs, h1, h2, h3⟩ := hx.cells
    have hroom' := Nat.mul_le_mul_right inf.size hroom
    rw [Nat.add_mul] at hroom'
    refine eff_i (v := sl b o (n + n2) c) (w' := setAt w b (row (wr cs (o + n * inf.size) ys) E)) ?_ (hK b o c _ (.inl ⟨rfl, setAt_mod _ _ _⟩) ⟨⟨_, setAt_at _ (lt_of_at h1) _, by rw [wr_size]; exact h2, ?_⟩, hroom⟩)
    · have hst := storeCells_run (P := P) (b := b) (o := o + n * inf.size) ys 0 w cs h1 hone (by omega)
      have hld := hy.load (P := P)
      simp only [Nat.add_zero] at hst
      simp [underlying, hu, sizeOf, typeInfo, hi, Builtin.lenOf, hroom, Builtin.firstCells, hld, addr_add, hst]
    · rw [wr_extract _ _ _ (by omega), Nat.add_mul, ← hxl, ← hyl]
      have h5 : (cs.toList.take (o + xs.length)).drop o = xs := by rw [List.drop_take, show o + xs.length - o = n * inf.size by omega]; exact h3
      rw [List.append_assoc, List.drop_append_of_le_length (by simp; omega), h5, ← List.append_assoc]
      exact List.take_left' (by simp)
  · have hnc := nextcap_le (show c < n + n2 by omega)
    have hsz : Builtin.nextslicecap (n + n2) c * inf.bytes ≤ 16 * 1000000000 * 1000 := Nat.mul_le_mul (by omega) (by omega)
    have h1 : ¬ (Builtin.nextslicecap (n + n2) c * inf.bytes > 2 ^ 48) := by omega
    have h2 : ¬ (((n + n2 : Nat) : Int) > IntKind.i64.max) := by
      have : IntKind.i64.max = 9223372036854775807 := by decide
      omega
    have hfo : (Question.appendCap (n + n2) c E).forced = false := rfl
    obtain ⟨cap, hcap1, hcap2⟩ : ∃ cap, n + n2 ≤ cap ∧ (Question.appendCap (n + n2) c E).cut (w.tape w.drawn (.appendCap (n + n2) c E)) = cap := ⟨_, by simp [Question.cut], rfl⟩
    have hX : Sl w.drew E inf.size b o n c xs := hx.keep rfl
    have hY : Sl w.drew E inf.size b2 o2 n2 c2 ys := hy.keep rfl
    have hldx := hX.load (P := P)
    have hldy := hY.load (P := P)
    have hd : ({ w with drawn := w.drawn + 1 } : World) = w.drew := rfl
    refine eff_i (v := sl w.heap.size 0 (n + n2) cap) (w' := w.drew.alloc (row (xs.toArray ++ ys.toArray ++ Builtin.zeroCells z.cells (cap - (n + n2))) E)) ?_
      (hK _ 0 cap _ (.inr ⟨Nat.le_refl _, (Mod.drew w).trans (Ext.alloc _ _)⟩) ⟨⟨_, at_alloc w.drew _, ?_, ?_⟩, hcap1⟩)
    · simp only [List.getElem?_toArray, List.getElem?_cons_zero, List.getElem?_cons_succ, underlying, hu, sizeOf, typeInfo, hi, Sem.run_bind, run_program, Result.andThen_ok, Sem.run_pure, Builtin.lenOf, hroom, if_false, pure_bind]
      simp only [h1, h2, false_and, if_false, Bool.false_eq_true, run_choose, hfo, hcap2, hd, Sem.run_bind, Result.andThen_ok, run_askRoom, Builtin.firstCells, hldx, hldy, zeroValue, typeInfo, run_program, hi, hz, Sem.run_pure, newRow, run_newObj, Bool.not_false, if_true]
      rfl
    · have hz0 : (Builtin.zeroCells z.cells (cap - (n + n2))).size = (cap - (n + n2)) * inf.size := by simp [Builtin.zeroCells, hzs]
      have hm : (cap - (n + n2)) * inf.size + (n + n2) * inf.size = cap * inf.size := by rw [← Nat.add_mul, Nat.sub_add_cancel hcap1]
      rw [Nat.add_mul] at hm
      simp only [Array.size_append, List.size_toArray, hz0]
      omega
    · rw [Nat.add_mul, ← hxl, ← hyl]
      simp only [Array.toList_append, List.drop_zero, List.append_assoc]
      rw [← List.append_assoc]
      exact List.take_left' (by simp)
/-! ### strings -/
theorem catStr_i {P : Program} {T : Nat} {s u : ByteArray} {K : Value → Prop} (h : s.size + u.size ≤ 1000000000000) (hK : K (.string (s ++ u))) : pur P (binOp .add T (.string s) (.string u)) K := by
  refine pur_i (v := .string (s ++ u)) (fun w => ?_) hK
  have hm : IntKind.i64.max = 9223372036854775807 := by decide
  have : ¬ (((s.size + u.size : Nat) : Int) > IntKind.i64.max) := by omega
  simp only [binOp, Op.stringOp, this, if_false, Sem.run_pure]
theorem str_beq (s u : ByteArray) : (s.toList == u.toList) = decide (s = u) := by
  by_cases h : s = u
  · subst h; simp
  · have : ¬ s.toList = u.toList := fun h' => h (by
      rw [ByteArray.toList_eq, ByteArray.toList_eq] at h'
      cases s; cases u
      exact congrArg ByteArray.mk (Array.ext' h'))
    simp [h, this]
theorem eqStr_run {P : Program} {T : Nat} {x y : Operand} {s u : ByteArray} (w : World) : (binSem .eql T x y (.string s) (.string u)).run P w = .ok (.bool (decide (s = u))) w := by
  simp only [binSem, eqGuard, binOp, Op.stringOp, str_beq]
  rfl
theorem neqStr_run {P : Program} {T : Nat} {x y : Operand} {s u : ByteArray} (w : World) : (binSem .neq T x y (.string s) (.string u)).run P w = .ok (.bool (decide (s ≠ u))) w := by
  have e2 : (!decide (s = u)) = decide (s ≠ u) := by by_cases h : s = u <;> simp [h]
  simp only [binSem, eqGuard, binOp, Op.stringOp, str_beq, e2]
  rfl
theorem eqStr_i {P : Program} {T : Nat} {x y : Operand} {s u : ByteArray} {w : World} {K : Value → Prop} (hK : K (.bool (decide (s = u)))) : rd P (binSem .eql T x y (.string s) (.string u)) w K := rd_i (eqStr_run w) hK
theorem neqStr_i {P : Program} {T : Nat} {x y : Operand} {s u : ByteArray} {w : World} {K : Value → Prop} (hK : K (.bool (decide (s ≠ u)))) : rd P (binSem .neq T x y (.string s) (.string u)) w K := rd_i (neqStr_run w) hK
theorem lssStr_i {P : Program} {T : Nat} {s u : ByteArray} {K : Value → Prop} (hK : K (.bool (Op.bytesLess s.toList u.toList))) : pur P (binOp .lss T (.string s) (.string u)) K :=
  pur_i (v := .bool (Op.bytesLess s.toList u.toList)) (fun w => by simp [binOp, Op.stringOp]) hK
def boolT (P : Program) (T : TypeId) : Bool := match P.underlying T with | some .bool => true | _ => false
theorem boolT_spec {P : Program} {T : TypeId} (h : boolT P T = true) : P.underlying T = some .bool := by
  unfold boolT at h
  split at h
  · assumption
  · cases h
theorem equalIn_bool {P : Program} {T : TypeId} (hT : boolT P T = true) (d : Nat) (a b : Bool) (w : World) : (Op.equalIn (d + 1) T (.bool a) (.bool b)).run P w = .ok (a == b) w := by
  unfold Op.equalIn
  simp [underlying, boolT_spec hT]
theorem eql_other {P : Program} {T : TypeId} {x y : Operand} {u v : Value} {r : Bool} {w : World} (hg : (eqGuard .eql T x y u v).run P w = .ok () w) (hb : binOp .eql T u v = do pure (.bool (← Op.equal T u v))) (h : (Op.equalIn (9999 + 1) T u v).run P w = .ok r w) :
    (binSem .eql T x y u v).run P w = .ok (.bool r) w := by
  show (do eqGuard .eql T x y u v; binOp .eql T u v : Sem Value).run P w = _
  simp only [Sem.run_bind, hg, Result.andThen_ok, hb]
  show ((Op.equalIn (9999 + 1) T u v).run P w).andThen _ = _
  rw [h]; rfl
theorem neq_other {P : Program} {T : TypeId} {x y : Operand} {u v : Value} {r : Bool} {w : World} (hg : (eqGuard .neq T x y u v).run P w = .ok () w) (hb : binOp .neq T u v = do pure (.bool (!(← Op.equal T u v)))) (h : (Op.equalIn (9999 + 1) T u v).run P w = .ok r w) :
    (binSem .neq T x y u v).run P w = .ok (.bool !r) w := by
  show (do eqGuard .neq T x y u v; binOp .neq T u v : Sem Value).run P w = _
  simp only [Sem.run_bind, hg, Result.andThen_ok, hb]
  show ((Op.equalIn (9999 + 1) T u v).run P w).andThen _ = _
  rw [h]; rfl
theorem eqBool_i {P : Program} {T : Nat} {x y : Operand} {a b : Bool} {w : World} {K : Value → Prop} (hT : boolT P T = true) (hK : K (.bool (a == b))) : rd P (binSem .eql T x y (.bool a) (.bool b)) w K :=
  rd_i (v := .bool (a == b)) (eql_other rfl rfl (equalIn_bool hT 9999 a b w)) hK
theorem neqBool_i {P : Program} {T : Nat} {x y : Operand} {a b : Bool} {w : World} {K : Value → Prop} (hT : boolT P T = true) (hK : K (.bool !(a == b))) : rd P (binSem .neq T x y (.bool a) (.bool b)) w K :=
  rd_i (v := .bool !(a == b)) (neq_other rfl rfl (equalIn_bool hT 9999 a b w)) hK
theorem max_i {P : Program} {T ty : Nat} {a b : Int} {K : Value → Prop} (hK : K (i64 (max a b))) : pur P (Builtin.max_ #[T, T] ty #[i64 a, i64 b]) K := by
  refine pur_i (v := i64 (max a b)) (fun w => ?_) hK
  have : (if b > a then b else a) = max a b := by rw [Int.max_def]; split <;> split <;> omega
  simp [Builtin.max_, Builtin.max2, this]
end Go.SL
