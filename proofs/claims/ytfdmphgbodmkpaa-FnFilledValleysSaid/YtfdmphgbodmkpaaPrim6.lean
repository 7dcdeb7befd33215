/- Slices of elements of one cell, by value. No program in sight. -/
import Derived.Test.YtfdmphgbodmkpaaPrim5
set_option linter.unusedVariables false
set_option linter.unusedSimpArgs false
namespace Go.SL
open Go Go.RowKit

/-- The slice value v has the elements xs, one cell each, over block b. -/
def Sl1 (w : World) (E : TypeId) (v : Value) (xs : List Value) (b : Nat) : Prop := ∃ o c, v = sl b o xs.length c ∧ Sl w E 1 b o xs.length c xs
section
variable {P : Program} {w w' : World} {E : TypeId} {v : Value} {xs : List Value} {b : Nat} {K : Value → Prop}
theorem Sl1.lt (h : Sl1 w E v xs b) : b < w.heap.size := by obtain ⟨o, c, _, h⟩ := h; exact h.lt
theorem Sl1.mod {S : Nat → Prop} (h : Sl1 w E v xs b) (hm : Mod S w w') (hS : ¬ S b) : Sl1 w' E v xs b := by
  obtain ⟨o, c, h1, h2⟩ := h
  exact ⟨o, c, h1, h2.mod hm hS⟩
theorem Sl1.ext (h : Sl1 w E v xs b) (hm : Ext w w') : Sl1 w' E v xs b := h.mod hm id
theorem Sl1.cells (h : Sl1 w E v xs b) : ∃ cs, w.heap[b]? = some (row cs E) := by obtain ⟨o, c, _, h⟩ := h; obtain ⟨cs, h, _⟩ := h.cells; exact ⟨cs, h⟩
theorem Sl1.one (h : Sl1 w E v xs b) : one v = true := by obtain ⟨o, c, rfl, _⟩ := h; rfl
theorem Sl1.of_new {w1 : World} (h : New w w1 b (row xs.toArray E)) : Sl1 w1 E (sl b 0 xs.length xs.length) xs b := ⟨0, xs.length, rfl, Sl.of_row h.at_ (by simp)⟩

def slice1 (P : Program) (T E : TypeId) : Bool :=
  match sliceT P T with
  | some (e, size, bytes, z) => Nat.beq e E && Nat.beq size 1 && Nat.blt 0 bytes && Nat.ble bytes 1000 && SL.one z
  | none => false
theorem slice1_spec {T : TypeId} (h : slice1 P T E = true) : ∃ bytes z, sliceT P T = some (E, 1, bytes, z) ∧ 0 < bytes ∧ bytes ≤ 1000 ∧ SL.one z = true := by
  unfold slice1 at h
  split at h
  · rename_i e size bytes z hs
    simp only [Bool.and_eq_true] at h
    obtain ⟨⟨⟨⟨h1, h2⟩, h3⟩, h4⟩, h5⟩ := h
    have e1 := Nat.eq_of_beq_eq_true h1
    have e2 := Nat.eq_of_beq_eq_true h2
    subst e1 e2
    exact ⟨bytes, z, hs, Nat.le_of_ble_eq_true h3, Nat.le_of_ble_eq_true h4, h5⟩
  · cases h

theorem sl1_len {T ty : TypeId} (hT : slice1 P T E = true) (h : Sl1 w E v xs b) (hK : K (i64 xs.length)) : rd P (Builtin.len_ #[T] ty #[v]) w K := by
  obtain ⟨_, _, hs, _⟩ := slice1_spec hT
  obtain ⟨o, c, rfl, _⟩ := h
  exact lenS_i hs hK
/-- Reading an element. -/
theorem sl1_get {T U : TypeId} {j : Int} {x : Value} (hT : slice1 P T E = true) (hU : plainT P U = true) (h : Sl1 w E v xs b) (h0 : 0 ≤ j) (hx : xs[j.toNat]? = some x) (hK : K x) :
    pur P (Instr.indexAt T v (i64 j)) fun t => rd P (Instr.loadAt U t) w K := by
  obtain ⟨_, _, hs, _⟩ := slice1_spec hT
  obtain ⟨o, c, rfl, hsl⟩ := h
  have hlt : j.toNat < xs.length := (List.getElem?_eq_some_iff.1 hx).1
  refine idx_i hs h0 (by omega) ?_
  obtain ⟨cs, h1, h2⟩ := hsl.cell hx
  rw [Nat.mul_one]
  exact ld_i hU h1 h2 hK
/-- The address of an element, for a store. -/
theorem sl1_addr {T : TypeId} {j : Int} (hT : slice1 P T E = true) (h : Sl1 w E v xs b) (h0 : 0 ≤ j) (h1 : j.toNat < xs.length)
    (hK : ∀ a, (∀ (U : TypeId) (y : Value) (K' : World → Prop), plainT P U = true → SL.one y = true → (∀ w', Mod (· = b) w w' → Sl1 w' E v (xs.set j.toNat y) b → K' w') → effU P (Instr.storeAt U (ptr b a) y) w K') → K (ptr b a)) :
    pur P (Instr.indexAt T v (i64 j)) K := by
  obtain ⟨_, _, hs, _⟩ := slice1_spec hT
  obtain ⟨o, c, rfl, hsl⟩ := h
  refine idx_i hs h0 (by omega) ?_
  rw [Nat.mul_one]
  refine hK _ fun U y K' hU hy hK' => ?_
  obtain ⟨cs, c1, c2, c3⟩ := hsl.cells
  have hle := hsl.le
  refine st_i hU hy c1 (by omega) (hK' _ (setAt_mod _ _ _) ⟨o, c, by simp, ⟨⟨_, setAt_at _ (lt_of_at c1) _, by simpa using c2, ?_⟩, by simpa using hle⟩⟩)
  simp only [List.length_set, Nat.mul_one, Array.toList_setIfInBounds] at c3 ⊢
  rw [List.drop_set, if_neg (by omega), Nat.add_sub_cancel_left, List.take_set, c3]
theorem sl1_nil {T : TypeId} {K : Value → World → Prop} (hT : slice1 P T E = true) (hK : ∀ v b w1, Ext w w1 → w.heap.size ≤ b → Sl1 w1 E v [] b → K v w1) : eff P (Instr.buildSlice T 0 #[]) w K := by
  obtain ⟨_, z, hs, _, _, hz⟩ := slice1_spec hT
  refine buildSlice_i (cells := #[]) hs (by omega) (by simp [Instr.fill]) fun b w1 h1 => ?_
  exact hK _ b w1 h1.ext h1.old ⟨0, 0, rfl, Sl.of_row h1.at_ rfl⟩
theorem fill_one (x z : Value) (hx : SL.one x = true) (hz : SL.one z = true) : Instr.fill (fun i => some (i * 1, 1)) ((Array.range (1 * 1)).map (fun i => z.cells[i % z.cells.size]!)) [(0, x)] = some #[x] := by
  have e : ((Array.range (1 * 1)).map (fun i => z.cells[i % z.cells.size]!)) = #[z] := by rw [one_cells hz]; exact range_map_one 1 z
  rw [e]
  unfold Instr.fill
  rw [one_cells hx]
  rfl
theorem sl1_one {T : TypeId} {x : Value} {K : Value → World → Prop} (hT : slice1 P T E = true) (hx : SL.one x = true) (hK : ∀ v b w1, Ext w w1 → w.heap.size ≤ b → Sl1 w1 E v [x] b → K v w1) : eff P (Instr.buildSlice T 1 #[(0, x)]) w K := by
  obtain ⟨_, z, hs, _, _, hz⟩ := slice1_spec hT
  refine buildSlice_i (cells := #[x]) hs (by omega) ?_ fun b w1 h1 => ?_
  · have h0 : ¬ (1 * 1 = 0) := by omega
    simp only [h0, if_false]
    exact fill_one x z hx hz
  · exact hK _ b w1 h1.ext h1.old ⟨0, 1, rfl, Sl.of_row h1.at_ rfl⟩
theorem sl1_app {T ty : TypeId} {x : Value} {K : Value → World → Prop} (hT : slice1 P T E = true) (hx : SL.one x = true) (h : Sl1 w E v xs b) (hn : xs.length < 1000000)
    (hK : ∀ v' w' b', (b' = b ∨ w.heap.size ≤ b') → Mod (· = b) w w' → Sl1 w' E v' (xs ++ [x]) b' → K v' w') :
    eff P (Instr.buildSlice T 1 #[(0, x)]) w fun t w => eff P (Builtin.append_ #[T, T] ty #[v, t]) w K := by
  obtain ⟨_, z, hs, hb0, hb1, hz⟩ := slice1_spec hT
  obtain ⟨o, c, rfl, hsl⟩ := h
  have hxc := one_cells hx
  refine app1_i hs (by rw [one_cells hz]; rfl) (by omega) (by omega) hb0 hb1 hsl (by rw [hxc]; rfl) (by rw [hxc]; exact fill_one x z hx hz) (by rw [hxc]; intro u hu; simp at hu; subst hu; exact hx) hn fun b' o' c' w' hor hm hsl' => ?_
  rw [hxc] at hsl'
  have e : sl b' o' (xs.length + 1) c' = sl b' o' (xs ++ [x]).length c' := by simp
  rw [e]
  exact hK _ w' b' hor hm ⟨o', c', rfl, by simpa using hsl'⟩
theorem sl1_app2 {T ty : TypeId} {v2 : Value} {ys : List Value} {b2 : Nat} {K : Value → World → Prop} (hT : slice1 P T E = true) (h : Sl1 w E v xs b) (h2 : Sl1 w E v2 ys b2) (hone : ∀ y ∈ ys, SL.one y = true) (hn : xs.length + ys.length ≤ 1000000)
    (hK : ∀ v' w' b', (b' = b ∨ w.heap.size ≤ b') → Mod (· = b) w w' → Sl1 w' E v' (xs ++ ys) b' → K v' w') : eff P (Builtin.append_ #[T, T] ty #[v, v2]) w K := by
  obtain ⟨_, z, hs, hb0, hb1, hz⟩ := slice1_spec hT
  obtain ⟨o, c, rfl, hsl⟩ := h
  obtain ⟨o2, c2, rfl, hsl2⟩ := h2
  refine append_i hs (by rw [one_cells hz]; rfl) hb0 hb1 hsl hsl2 hone (by omega) fun b' o' c' w' hor hsl' => ?_
  have e : sl b' o' (xs.length + ys.length) c' = sl b' o' (xs ++ ys).length c' := by simp
  rw [e]
  refine hK _ w' b' (hor.imp (·.1) (·.1)) ?_ ⟨o', c', rfl, by simpa using hsl'⟩
  rcases hor with ⟨_, h⟩ | ⟨_, h⟩
  · exact h
  · exact Ext.mod h
theorem sl1_make {T : TypeId} {n : Nat} {K : Value → World → Prop} (z : Value) (hz' : (sliceT P T).map (·.2.2.2) = some z) (hT : slice1 P T E = true) (hn : n ≤ 1000000000) (hK : ∀ v b w1, Ext w w1 → w.heap.size ≤ b → Sl1 w1 E v (List.replicate n z) b → K v w1) :
    eff P (Instr.makeSlice T (i64 n) (i64 n)) w K := by
  obtain ⟨bytes, z', hs, hb0, hb1, hz⟩ := slice1_spec hT
  have : z' = z := by rw [hs] at hz'; simpa using hz'
  subst this
  refine makeSlice_i hs hz (by omega) hb1 fun b w1 h1 => ?_
  have e : sl b 0 n n = sl b 0 (List.replicate n z').length n := by simp
  rw [e]
  exact hK _ b w1 h1.ext h1.old ⟨0, n, rfl, by simpa using (Sl.of_row (size := 1) (n := n) (xs := List.replicate n z') (by simpa using h1.at_) (by simp))⟩
end
end Go.SL
