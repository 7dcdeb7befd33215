/- Parts of slices of one-cell elements. -/
import Derived.Test.YtfdmphgbodmkpaaPrim7
set_option linter.unusedVariables false
set_option linter.unusedSimpArgs false
namespace Go.SL
open Go Go.RowKit

theorem sliceTo_i {P : Program} {T e size bytes : Nat} {z : Value} {b o n c : Nat} {hi : Int} {K : Value → Prop} (hT : sliceT P T = some (e, size, bytes, z)) (h0 : 0 ≤ hi) (h1 : hi ≤ n) (hnc : n ≤ c)
    (hK : K (sl b o hi.toNat c)) : pur P (Instr.sliceAt T (sl b o n c) none (some (i64 hi)) none) K := by
  obtain ⟨hu, inf, hin, hs, _, _⟩ := sliceT_spec hT
  refine pur_i (v := sl b o hi.toNat c) (fun w => ?_) hK
  have hle : hi ≤ (c : Int) := by omega
  have ho : ({ block := b, off := o } : Addr).add 0 = { block := b, off := o } := by simp [Addr.add]
  simp [Instr.sliceAt, Instr.slice, underlying, hu, Instr.sliceBounds, Instr.sliceBound, asIntOf, h0, hle, sizeOf, typeInfo, hin]
  exact fun _ => ho

section
variable {P : Program} {w w' : World} {E : TypeId} {v : Value} {xs : List Value} {b : Nat} {K : Value → Prop}
theorem sl1_to {T : TypeId} {j : Nat} (hT : slice1 P T E = true) (h : Sl1 w E v xs b) (hj : j ≤ xs.length) (hK : ∀ v', Sl1 w E v' (xs.take j) b → K v') : pur P (Instr.sliceAt T v none (some (i64 j)) none) K := by
  obtain ⟨_, _, hs, _⟩ := slice1_spec hT
  obtain ⟨o, c, rfl, hsl⟩ := h
  refine sliceTo_i hs (by omega) (by omega) hsl.le ?_
  obtain ⟨cs, h2, h3, h4⟩ := hsl.cells
  have hle := hsl.le
  refine hK _ ⟨o, c, by rw [List.length_take, Nat.min_eq_left hj]; rfl, ⟨⟨cs, h2, h3, ?_⟩, by rw [List.length_take]; omega⟩⟩
  rw [Nat.mul_one] at h4 ⊢
  rw [List.length_take, Nat.min_eq_left hj]
  calc ((cs.toList.drop o).take j) = ((cs.toList.drop o).take xs.length).take j := by rw [List.take_take, Nat.min_eq_left hj]
    _ = xs.take j := by rw [h4]
theorem sl1_from {T : TypeId} {j : Nat} (hT : slice1 P T E = true) (h : Sl1 w E v xs b) (hj : j ≤ xs.length) (hK : ∀ v', Sl1 w E v' (xs.drop j) b → K v') : pur P (Instr.sliceAt T v (some (i64 j)) none none) K := by
  obtain ⟨_, _, hs, _⟩ := slice1_spec hT
  obtain ⟨o, c, rfl, hsl⟩ := h
  refine slice_i hs (by omega) (by omega) ?_
  obtain ⟨cs, h2, h3, h4⟩ := hsl.cells
  have hle := hsl.le
  rw [Int.toNat_natCast, Nat.mul_one]
  rw [Nat.mul_one] at h3 h4
  have e : sl b (if c = j then o else o + j) (xs.length - j) (c - j) = sl b (if c = j then o else o + j) (xs.drop j).length (c - j) := by rw [List.length_drop]
  rw [e]
  refine hK _ ⟨_, _, rfl, ⟨⟨cs, h2, ?_, ?_⟩, by rw [List.length_drop]; omega⟩⟩
  · rw [Nat.mul_one]; split <;> omega
  · rw [List.length_drop, Nat.mul_one]
    split
    · rename_i hc
      have : xs.length - j = 0 := by omega
      rw [this, List.take_zero, List.drop_of_length_le (by omega)]
    · rw [← List.drop_drop, ← List.drop_take, h4]
end
end Go.SL
