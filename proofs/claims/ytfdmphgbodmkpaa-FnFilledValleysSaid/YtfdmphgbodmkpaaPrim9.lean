/- Slices of structs of several cells, by value. -/
import Derived.Test.YtfdmphgbodmkpaaPrim8
set_option linter.unusedVariables false
set_option linter.unusedSimpArgs false
namespace Go.SL
open Go Go.RowKit
set_option maxRecDepth 10000
section
variable {P : Program} {α : Type} {enc : α → List Value} {k : Nat}

theorem flat_len (henc : ∀ x, (enc x).length = k) (l : List α) : (l.flatMap enc).length = l.length * k := by
  induction l with
  | nil => simp
  | cons x l ih => rw [List.flatMap_cons, List.length_append, ih, henc, List.length_cons, Nat.add_mul, Nat.one_mul, Nat.add_comm]
theorem flat_get (henc : ∀ x, (enc x).length = k) : ∀ {l : List α} {j : Nat} {x : α}, l[j]? = some x → ∀ f, f < k → (l.flatMap enc)[j * k + f]? = (enc x)[f]?
  | [], j, x, h, _, _ => by simp at h
  | y :: l, 0, x, h, f, hf => by
    simp only [List.getElem?_cons_zero, Option.some.injEq] at h
    subst h
    rw [Nat.zero_mul, Nat.zero_add, List.flatMap_cons, List.getElem?_append_left (by rw [henc]; exact hf)]
  | y :: l, j + 1, x, h, f, hf => by
    rw [List.flatMap_cons, List.getElem?_append_right (by rw [henc, Nat.add_mul]; omega), henc, Nat.add_mul, Nat.one_mul, show j * k + k + f - k = j * k + f by omega]
    exact flat_get henc (by simpa using h) f hf
theorem flat_set (henc : ∀ x, (enc x).length = k) : ∀ {l : List α} {j : Nat} (x : α), j < l.length → (l.set j x).flatMap enc = (l.flatMap enc).take (j * k) ++ enc x ++ (l.flatMap enc).drop (j * k + k)
  | [], j, x, h => by simp at h
  | y :: l, 0, x, h => by
    rw [List.set_cons_zero, List.flatMap_cons, List.flatMap_cons, Nat.zero_mul, List.take_zero, List.nil_append, Nat.zero_add, List.drop_append, henc]
    rw [List.drop_of_length_le (by rw [henc]; exact Nat.le_refl _), Nat.sub_self, List.drop_zero, List.nil_append]
  | y :: l, j + 1, x, h => by
    have h' : j < l.length := by simpa using h
    rw [List.set_cons_succ, List.flatMap_cons, List.flatMap_cons, flat_set henc x h', show (j + 1) * k = (enc y).length + j * k by rw [henc, Nat.add_mul, Nat.one_mul, Nat.add_comm]]
    rw [Nat.add_assoc, List.take_length_add_append, List.drop_length_add_append]
    simp only [List.append_assoc]

theorem get3 (A B D : List Value) (i : Nat) : (A ++ B ++ D)[i]? = if i < A.length then A[i]? else if i - A.length < B.length then B[i - A.length]? else D[i - A.length - B.length]? := by
  rw [List.append_assoc]
  split
  · rename_i h; rw [List.getElem?_append_left h]
  · rename_i h
    rw [List.getElem?_append_right (by omega)]
    split
    · rename_i h2; rw [List.getElem?_append_left h2]
    · rename_i h2; rw [List.getElem?_append_right (by omega)]
theorem Sl.seg {w : World} {E b o n c : Nat} {xs : List Value} {cs : Array Value} (h1 : o + c * k ≤ cs.size) (hle : n ≤ c) (h3 : (cs.toList.drop o).take (n * k) = xs) {j f : Nat} (hj : j < n) (hf : f < k) : cs[o + j * k + f]? = xs[j * k + f]? := by
  have := Nat.mul_le_mul_right k (show j + 1 ≤ n from hj)
  rw [Nat.add_mul, Nat.one_mul] at this
  rw [← h3, List.getElem?_take, if_pos (by omega), List.getElem?_drop, Array.getElem?_toList]
  congr 1; omega
theorem Sl.put {w : World} {E b o n c : Nat} {xs : List Value} {cs : Array Value} (hc : w.heap[b]? = some (row cs E)) (h1 : o + c * k ≤ cs.size) (hle : n ≤ c) (h3 : (cs.toList.drop o).take (n * k) = xs) {j : Nat} (hj : j < n) {ys : List Value} (hy : ys.length = k) :
    Sl (setAt w b (row (wr cs (o + j * k) ys) E)) E k b o n c (xs.take (j * k) ++ ys ++ xs.drop (j * k + k)) := by
  have a1 := Nat.mul_le_mul_right k (show j + 1 ≤ n from hj)
  have a2 := Nat.mul_le_mul_right k hle
  rw [Nat.add_mul, Nat.one_mul] at a1
  refine ⟨⟨_, setAt_at _ (lt_of_at hc) _, by rw [wr_size]; exact h1, ?_⟩, hle⟩
  rw [wr_extract _ _ _ (by omega)]
  have hsz : cs.toList.length = cs.size := Array.length_toList
  subst h3
  apply List.ext_getElem?
  intro i
  have hl1 : (List.take (o + j * k) cs.toList).length = o + j * k := by rw [List.length_take]; omega
  have hl2 : (List.take (j * k) (List.take (n * k) (List.drop o cs.toList))).length = j * k := by rw [List.length_take, List.length_take, List.length_drop]; omega
  rw [List.getElem?_take, List.getElem?_drop, get3, get3, hl1, hl2, hy]
  by_cases hi : i < n * k
  · rw [if_pos hi]
    by_cases q1 : i < j * k
    · rw [if_pos (by omega), if_pos q1, List.getElem?_take, if_pos (by omega), List.getElem?_take, if_pos q1, List.getElem?_take, if_pos hi, List.getElem?_drop]
    · rw [if_neg (by omega), if_neg q1, show o + i - (o + j * k) = i - j * k by omega]
      by_cases q2 : i - j * k < k
      · rw [if_pos q2, if_pos q2]
      · rw [if_neg q2, if_neg q2, List.getElem?_drop, List.getElem?_drop, List.getElem?_take, if_pos (by omega), List.getElem?_drop]
        congr 1; omega
  · rw [if_neg hi]
    symm
    rw [if_neg (by omega), if_neg (by omega)]
    apply List.getElem?_eq_none
    simp only [List.length_take, List.length_drop]
    omega

/-- The slice value v over block b holds the structs l. -/
def Own (enc : α → List Value) (k : Nat) (w : World) (E : TypeId) (v : Value) (l : List α) (b : Nat) : Prop := ∃ o c, v = sl b o l.length c ∧ Sl w E k b o l.length c (l.flatMap enc)
section
variable {w : World} {E : TypeId} {v : Value} {l : List α} {b : Nat}
theorem Own.lt (h : Own enc k w E v l b) : b < w.heap.size := by obtain ⟨o, c, _, h⟩ := h; exact h.lt
theorem Own.mod {S : Nat → Prop} {w' : World} (h : Own enc k w E v l b) (hm : Mod S w w') (hS : ¬ S b) : Own enc k w' E v l b := by
  obtain ⟨o, c, h1, h2⟩ := h; exact ⟨o, c, h1, h2.mod hm hS⟩
theorem Own.ext {w' : World} (h : Own enc k w E v l b) (hm : Ext w w') : Own enc k w' E v l b := h.mod hm id
theorem Own.row (h : Own enc k w E v l b) : ∃ cs, w.heap[b]? = some (SL.row cs E) := by obtain ⟨o, c, _, h⟩ := h; obtain ⟨cs, h, _⟩ := h.cells; exact ⟨cs, h⟩
theorem Own.one (h : Own enc k w E v l b) : SL.one v = true := by obtain ⟨o, c, rfl, _⟩ := h; rfl

/-- What may be done at an element's address. -/
structure At (enc : α → List Value) (k : Nat) (w : World) (E : TypeId) (v : Value) (l : List α) (b j : Nat) (x : α) (a : Nat) (cs : Array Value) : Prop where
  blk : w.heap[b]? = some (SL.row cs E)
  room : a + k ≤ cs.size
  cell : ∀ f, f < k → cs[a + f]? = (enc x)[f]?
  put : ∀ x', Own enc k (setAt w b (SL.row (wr cs a (enc x')) E)) E v (l.set j x') b
  field : ∀ f y x', f < k → enc x' = (enc x).set f y → Own enc k (setAt w b (SL.row (cs.setIfInBounds (a + f) y) E)) E v (l.set j x') b
  all : cs.extract a (a + k) = (enc x).toArray
theorem wr_set {cs : Array Value} {a f : Nat} {y : Value} {zs : List Value} (hl : a + zs.length ≤ cs.size) (hz : ∀ f, f < zs.length → cs[a + f]? = zs[f]?) (hf : f < zs.length) : cs.setIfInBounds (a + f) y = wr cs a (zs.set f y) := by
  apply Array.ext'
  have hsz : cs.toList.length = cs.size := Array.length_toList
  rw [wr_extract _ _ _ (by rw [List.length_set]; exact hl), Array.toList_setIfInBounds]
  apply List.ext_getElem?
  intro i
  have hl1 : (List.take a cs.toList).length = a := by rw [List.length_take]; omega
  rw [List.getElem?_set, List.append_assoc]
  by_cases q1 : i < a
  · rw [if_neg (by omega), List.getElem?_append_left (by omega), List.getElem?_take, if_pos q1]
  · rw [List.getElem?_append_right (by omega), hl1]
    by_cases q2 : i - a < zs.length
    · rw [List.getElem?_append_left (by rw [List.length_set]; exact q2), List.getElem?_set]
      by_cases q3 : a + f = i
      · rw [if_pos q3, if_pos (by omega), if_pos (by omega), if_pos (by omega)]
      · rw [if_neg q3, if_neg (by omega), ← hz _ q2, Array.getElem?_toList]
        congr 1; omega
    · rw [if_neg (by omega), List.getElem?_append_right (by rw [List.length_set]; omega), List.length_set, List.getElem?_drop]
      congr 1; omega
theorem own_idx {T bytes : Nat} {z : Value} {j : Int} {x : α} {K : Value → Prop} (hT : sliceT P T = some (E, k, bytes, z)) (henc : ∀ x, (enc x).length = k) (h : Own enc k w E v l b) (h0 : 0 ≤ j) (hx : l[j.toNat]? = some x)
    (hK : ∀ a cs, At enc k w E v l b j.toNat x a cs → K (ptr b a)) : pur P (Instr.indexAt T v (i64 j)) K := by
  obtain ⟨o, c, rfl, hsl⟩ := h
  have hlt : j.toNat < l.length := (List.getElem?_eq_some_iff.1 hx).1
  refine idx_i hT h0 (by omega) ?_
  obtain ⟨cs, h1, h2, h3⟩ := hsl.cells
  have hle := hsl.le
  have a1 := Nat.mul_le_mul_right k (show j.toNat + 1 ≤ l.length from hlt)
  have a2 := Nat.mul_le_mul_right k hle
  rw [Nat.add_mul, Nat.one_mul] at a1
  have hcell : ∀ f, f < k → cs[o + j.toNat * k + f]? = (enc x)[f]? := fun f hf => by
    rw [Sl.seg (w := w) (E := E) (b := b) h2 hle h3 hlt hf]; exact flat_get henc hx f hf
  have hput : ∀ x', Own enc k (setAt w b (SL.row (wr cs (o + j.toNat * k) (enc x')) E)) E (sl b o l.length c) (l.set j.toNat x') b := fun x' => by
    refine ⟨o, c, by rw [List.length_set], ?_⟩
    rw [List.length_set, flat_set henc x' hlt]
    exact Sl.put h1 h2 hle h3 hlt (henc x')
  refine hK _ cs ⟨h1, by omega, hcell, hput, fun f y x' hf he => ?_, ?_⟩
  · rw [wr_set (zs := enc x) (by rw [henc]; omega) (fun f hf => hcell f (by rw [henc] at hf; exact hf)) (by rw [henc]; exact hf), ← he]
    exact hput x'
  · apply Array.ext'
    rw [Array.toList_extract, List.extract_eq_take_drop, Nat.add_sub_cancel_left]
    apply List.ext_getElem?
    intro i
    rw [List.getElem?_take]
    split
    · rename_i hi
      rw [List.getElem?_drop, Array.getElem?_toList]
      exact hcell i hi
    · rename_i hi
      rw [List.getElem?_eq_none (by rw [henc]; omega)]
theorem own_len {T ty bytes : Nat} {z : Value} {K : Value → Prop} (hT : sliceT P T = some (E, k, bytes, z)) (h : Own enc k w E v l b) (hK : K (i64 l.length)) : rd P (Builtin.len_ #[T] ty #[v]) w K := by
  obtain ⟨o, c, rfl, _⟩ := h
  exact lenS_i hT hK
/-- A field of an element. -/
theorem own_get {T T2 T3 bytes f : Nat} {z : Value} {j : Int} {x : α} {y : Value} {K : Value → Prop} (hT : sliceT P T = some (E, k, bytes, z)) (henc : ∀ x, (enc x).length = k) (h : Own enc k w E v l b) (h0 : 0 ≤ j) (hx : l[j.toNat]? = some x)
    (hf : f < k) (hF : fieldOff P T2 f = some f) (hP : plainT P T3 = true) (hy : (enc x)[f]? = some y) (hK : K y) : pur P (Instr.indexAt T v (i64 j)) fun t => pur P (Instr.fieldAt T2 t f) fun t => rd P (Instr.loadAt T3 t) w K := by
  refine own_idx hT henc h h0 hx fun a cs hA => ?_
  refine fld_i hF ?_
  exact ld_i hP hA.blk ((hA.cell f hf).trans hy) hK
/-- An element whole. -/
theorem own_load {T T2 bytes : Nat} {z : Value} {j : Int} {x : α} {K : Value → Prop} (hT : sliceT P T = some (E, k, bytes, z)) (henc : ∀ x, (enc x).length = k) (h : Own enc k w E v l b) (h0 : 0 ≤ j) (hx : l[j.toNat]? = some x)
    (hP : aggT P T2 = some k) (hK : K (.agg (enc x).toArray)) : pur P (Instr.indexAt T v (i64 j)) fun t => rd P (Instr.loadAt T2 t) w K := by
  refine own_idx hT henc h h0 hx fun a cs hA => ?_
  exact ldn_i hP hA.blk hA.room hA.all hK
/-- A store of an element whole. -/
theorem own_store {T T2 bytes : Nat} {z : Value} {j : Int} {x' : α} {K : World → Prop} (hT : sliceT P T = some (E, k, bytes, z)) (henc : ∀ x, (enc x).length = k) (h : Own enc k w E v l b) (h0 : 0 ≤ j) (hx : j.toNat < l.length)
    (hP : aggT P T2 = some k) (h1 : ∀ y ∈ enc x', SL.one y = true) (hK : ∀ w', Mod (· = b) w w' → Own enc k w' E v (l.set j.toNat x') b → K w') : pur P (Instr.indexAt T v (i64 j)) fun t => effU P (Instr.storeAt T2 t (.agg (enc x').toArray)) w K := by
  refine own_idx hT henc h h0 (List.getElem?_eq_getElem hx) fun a cs hA => ?_
  refine stn_i hP (by simpa using h1) (by simp [henc]) hA.blk hA.room ?_
  refine hK _ (setAt_mod _ _ _) ?_
  simpa using hA.put x'
/-- A store of a field of an element. -/
theorem own_set {T T2 T3 bytes f : Nat} {z : Value} {j : Int} {x x' : α} {y : Value} {K : World → Prop} (hT : sliceT P T = some (E, k, bytes, z)) (henc : ∀ x, (enc x).length = k) (h : Own enc k w E v l b) (h0 : 0 ≤ j) (hx : l[j.toNat]? = some x)
    (hf : f < k) (hF : fieldOff P T2 f = some f) (hP : plainT P T3 = true) (h1 : SL.one y = true) (he : enc x' = (enc x).set f y) (hK : ∀ w', Mod (· = b) w w' → Own enc k w' E v (l.set j.toNat x') b → K w') :
    pur P (Instr.indexAt T v (i64 j)) fun t => pur P (Instr.fieldAt T2 t f) fun t => effU P (Instr.storeAt T3 t y) w K := by
  refine own_idx hT henc h h0 hx fun a cs hA => ?_
  refine fld_i hF ?_
  have := hA.room
  refine st_i hP h1 hA.blk (by omega) ?_
  exact hK _ (setAt_mod _ _ _) (hA.field f y x' hf he)
theorem own_nil {T bytes : Nat} {z : Value} {K : Value → World → Prop} (hT : sliceT P T = some (E, k, bytes, z)) (hK : ∀ v b w1, Ext w w1 → w.heap.size ≤ b → Own enc k w1 E v ([] : List α) b → K v w1) : eff P (Instr.buildSlice T 0 #[]) w K := by
  refine buildSlice_i (cells := #[]) hT (by omega) (by simp [Instr.fill]) fun b w1 h1 => ?_
  exact hK _ b w1 h1.ext h1.old ⟨0, 0, rfl, Sl.of_row h1.at_ (by simp)⟩
theorem own_app {T bytes ty : Nat} {z : Value} {x : α} {K : Value → World → Prop} (hT : sliceT P T = some (E, k, bytes, z)) (henc : ∀ x, (enc x).length = k) (hzs : z.cells.size = k) (hs0 : 0 < k) (hs1 : k ≤ 1000)
    (hb : 0 < bytes) (hb2 : bytes ≤ 1000) (h : Own enc k w E v l b) (hfill : Instr.fill (fun i => some (i * k, k)) ((Array.range (1 * k)).map (fun i => z.cells[i % z.cells.size]!)) [(0, .agg (enc x).toArray)] = some (enc x).toArray)
    (hone : ∀ v ∈ enc x, SL.one v = true) (hn : l.length < 1000000) (hK : ∀ v' w' b', (b' = b ∨ w.heap.size ≤ b') → Mod (· = b) w w' → Own enc k w' E v' (l ++ [x]) b' → K v' w') :
    eff P (Instr.buildSlice T 1 #[(0, .agg (enc x).toArray)]) w fun t w => eff P (Builtin.append_ #[T, T] ty #[v, t]) w K := by
  obtain ⟨o, c, rfl, hsl⟩ := h
  refine app1_i hT hzs hs0 hs1 hb hb2 hsl (by simp [Value.cells, henc]) hfill (by simpa [Value.cells] using hone) hn fun b' o' c' w' hor hm hsl' => ?_
  refine hK _ w' b' hor hm ⟨o', c', by simp, ?_⟩
  simpa [Value.cells] using hsl'
end
end
end Go.SL
