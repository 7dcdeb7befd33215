/- Parts of slices between two bounds; appending to nil; a slice of three. -/
import Derived.Test.YtfdmphgbodmkpaaPrim10
set_option linter.unusedVariables false
set_option linter.unusedSimpArgs false
namespace Go.SL
open Go Go.RowKit
theorem sliceSub_i {P : Program} {T e size bytes : Nat} {z : Value} {b o n c : Nat} {lo hi : Nat} {K : Value → Prop} (hT : sliceT P T = some (e, size, bytes, z)) (h1 : lo ≤ hi) (h2 : hi ≤ n) (hnc : n ≤ c)
    (hK : K (sl b (if c = lo then o else o + lo * size) (hi - lo) (c - lo))) : pur P (Instr.sliceAt T (sl b o n c) (some (i64 (lo : Int))) (some (i64 (hi : Int))) none) K := by
  obtain ⟨hu, inf, hin, hs, _, _⟩ := sliceT_spec hT
  refine pur_i (fun w => ?_) hK
  have hle : (hi : Int) ≤ (c : Int) := by omega
  have h0 : (0 : Int) ≤ (lo : Int) := by omega
  have h0' : (0 : Int) ≤ (hi : Int) := by omega
  have h1' : (lo : Int) ≤ (hi : Int) := by omega
  unfold Instr.sliceAt Instr.slice
  by_cases hc : c = lo
  · simp only [underlying, Sem.run_bind, run_program, Result.andThen_ok, hu, Sem.run_pure]
    simp [Instr.sliceBounds, Instr.sliceBound, asIntOf, hle, h1, sizeOf, typeInfo, hin, hc, show hi ≤ lo by omega]
  · simp only [underlying, Sem.run_bind, run_program, Result.andThen_ok, hu, Sem.run_pure]
    simp [Instr.sliceBounds, Instr.sliceBound, asIntOf, h1, sizeOf, typeInfo, hin, hs, hc, addr_add, show hi ≤ c by omega]
section
variable {P : Program} {w w' : World} {E : TypeId} {v : Value} {xs : List Value} {b : Nat}
theorem sl1_sub {T : TypeId} {lo hi : Nat} {K : Value → Prop} (hT : slice1 P T E = true) (h : Sl1 w E v xs b) (hj : lo ≤ hi) (hj2 : hi ≤ xs.length) (hK : ∀ v', Sl1 w E v' ((xs.drop lo).take (hi - lo)) b → K v') : pur P (Instr.sliceAt T v (some (i64 lo)) (some (i64 hi)) none) K := by
  obtain ⟨_, _, hs, _⟩ := slice1_spec hT
  obtain ⟨o, c, rfl, hsl⟩ := h
  refine sliceSub_i hs hj hj2 hsl.le ?_
  obtain ⟨cs, h2, h3, h4⟩ := hsl.cells
  have hle := hsl.le
  rw [Nat.mul_one]
  rw [Nat.mul_one] at h3 h4
  have hlen : ((xs.drop lo).take (hi - lo)).length = hi - lo := by rw [List.length_take, List.length_drop]; omega
  have e : sl b (if c = lo then o else o + lo) (hi - lo) (c - lo) = sl b (if c = lo then o else o + lo) ((xs.drop lo).take (hi - lo)).length (c - lo) := by rw [hlen]
  rw [e]
  refine hK _ ⟨_, _, rfl, ⟨⟨cs, h2, ?_, ?_⟩, by rw [hlen]; omega⟩⟩
  · rw [Nat.mul_one]; split <;> omega
  · rw [hlen, Nat.mul_one]
    split
    · rename_i hc
      have : hi - lo = 0 := by omega
      rw [this, List.take_zero, List.take_zero]
    · rw [← h4, List.drop_take, List.drop_drop, List.take_take, Nat.min_eq_left (by omega)]
/-- Appending to nil. -/
theorem appendNil_i {T E size bytes ty : Nat} {z : Value} {b2 o2 n2 c2 : Nat} {ys : List Value} {K : Value → World → Prop} (hT : sliceT P T = some (E, size, bytes, z)) (hzs : z.cells.size = size) (hb : 0 < bytes) (hb2 : bytes ≤ 1000) (hy : Sl w E size b2 o2 n2 c2 ys) (hn0 : 0 < n2) (hn : n2 ≤ 1000000000)
    (hK : ∀ b' c' w', w.heap.size ≤ b' → Ext w w' → Sl w' E size b' 0 n2 c' ys → K (sl b' 0 n2 c') w') :
    eff P (Builtin.append_ #[T, T] ty #[.slice none 0 0, sl b2 o2 n2 c2]) w K := by
  obtain ⟨hu, inf, hi, hs, hby, hz⟩ := sliceT_spec hT
  subst hs
  have hyl := hy.len
  unfold Builtin.append_
  have hroom : ¬ (0 + n2 ≤ 0) := by omega
  have hnc := nextcap_le (show 0 < 0 + n2 by omega)
  have hsz : Builtin.nextslicecap (0 + n2) 0 * inf.bytes ≤ 16 * 1000000000 * 1000 := Nat.mul_le_mul (by omega) (by omega)
  have h1 : ¬ (Builtin.nextslicecap (0 + n2) 0 * inf.bytes > 2 ^ 48) := by omega
  have h2 : ¬ (((0 + n2 : Nat) : Int) > IntKind.i64.max) := by
    have : IntKind.i64.max = 9223372036854775807 := by decide
    omega
  have hfo : (Question.appendCap (0 + n2) 0 E).forced = false := rfl
  obtain ⟨cap, hcap1, hcap2⟩ : ∃ cap, 0 + n2 ≤ cap ∧ (Question.appendCap (0 + n2) 0 E).cut (w.tape w.drawn (.appendCap (0 + n2) 0 E)) = cap := ⟨_, by simp [Question.cut], rfl⟩
  have hY : Sl w.drew E inf.size b2 o2 n2 c2 ys := hy.keep rfl
  have hldy := hY.load (P := P)
  have hd : ({ w with drawn := w.drawn + 1 } : World) = w.drew := rfl
  refine eff_i (v := sl w.heap.size 0 n2 cap) (w' := w.drew.alloc (row (#[] ++ ys.toArray ++ Builtin.zeroCells z.cells (cap - (0 + n2))) E)) ?_
    (hK _ cap _ (Nat.le_refl _) ((Mod.drew w).trans (Ext.alloc _ _)) ⟨⟨_, at_alloc w.drew _, ?_, ?_⟩, by omega⟩)
  · simp only [List.getElem?_toArray, List.getElem?_cons_zero, List.getElem?_cons_succ, underlying, hu, sizeOf, typeInfo, hi, Sem.run_bind, run_program, Result.andThen_ok, Sem.run_pure, Builtin.lenOf, hroom, if_false, pure_bind]
    simp only [h1, h2, false_and, if_false, Bool.false_eq_true, run_choose, hfo, hcap2, hd, Sem.run_bind, Result.andThen_ok, run_askRoom, Builtin.firstCells, hldy, zeroValue, typeInfo, run_program, hi, hz, Sem.run_pure, newRow, run_newObj, Bool.not_false, if_true]
    simp only [Nat.zero_add]
    rfl
  · have hz0 : (Builtin.zeroCells z.cells (cap - n2)).size = (cap - n2) * inf.size := by simp [Builtin.zeroCells, hzs]
    have hm : (cap - n2) * inf.size + n2 * inf.size = cap * inf.size := by rw [← Nat.add_mul, Nat.sub_add_cancel (by omega)]
    rw [Nat.zero_add (n := n2)]
    simp only [Array.size_append, List.size_toArray, hyl, List.length_nil, hz0]
    omega
  · simp only [List.drop_zero, Array.toList_append]
    rw [List.append_assoc]
    simp [← hyl]
/-- Appending nil. -/
theorem appendNone_i {T E size bytes ty : Nat} {z : Value} {b o n c : Nat} {xs : List Value} {K : Value → World → Prop} (hT : sliceT P T = some (E, size, bytes, z)) (hx : Sl w E size b o n c xs) (hK : K (sl b o n c) w) :
    eff P (Builtin.append_ #[T, T] ty #[sl b o n c, .slice none 0 0]) w K := by
  obtain ⟨hu, inf, hi, hs, hby, hz⟩ := sliceT_spec hT
  have hle := hx.le
  unfold Builtin.append_
  refine eff_i (v := sl b o n c) (w' := w) ?_ hK
  simp [underlying, hu, sizeOf, typeInfo, hi, Builtin.lenOf, hle, Builtin.firstCells, storeCells, addr_add]
theorem fill_three (x y q z : Value) (hx : SL.one x = true) (hy : SL.one y = true) (hq : SL.one q = true) (hz : SL.one z = true) : Instr.fill (fun i => some (i * 1, 1)) ((Array.range (3 * 1)).map (fun i => z.cells[i % z.cells.size]!)) [(0, x), (1, y), (2, q)] = some #[x, y, q] := by
  have e : ((Array.range (3 * 1)).map (fun i => z.cells[i % z.cells.size]!)) = #[z, z, z] := by rw [one_cells hz]; exact range_map_one 3 z
  rw [e]
  simp only [Instr.fill, one_cells hx, one_cells hy, one_cells hq]
  rfl
theorem sl1_three {T : TypeId} {x y q : Value} {K : Value → World → Prop} (hT : slice1 P T E = true) (hx : SL.one x = true) (hy : SL.one y = true) (hq : SL.one q = true) (hK : ∀ v b w1, Ext w w1 → w.heap.size ≤ b → Sl1 w1 E v [x, y, q] b → K v w1) : eff P (Instr.buildSlice T 3 #[(0, x), (1, y), (2, q)]) w K := by
  obtain ⟨_, z, hs, _, _, hz⟩ := slice1_spec hT
  refine buildSlice_i (cells := #[x, y, q]) hs (by omega) ?_ fun b w1 h1 => ?_
  · have h0 : ¬ (3 * 1 = 0) := by omega
    simp only [h0, if_false]
    exact fill_three x y q z hx hy hq hz
  · exact hK _ b w1 h1.ext h1.old (Sl1.of_new h1)
end
end Go.SL
