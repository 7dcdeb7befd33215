/- Arithmetic that wraps, shifts, bits, conversions between integer kinds. -/
import Derived.Test.YtfdmphgbodmkpaaPrim11
set_option linter.unusedVariables false
set_option linter.unusedSimpArgs false
namespace Go.SL
open Go Go.RowKit
section
variable {P : Program} {T : TypeId} {k : IntKind} {a b : Int} {K : Value → Prop}
theorem addW_i (hK : K (.int k (k.wrap (a + b)))) : pur P (binOp .add T (.int k a) (.int k b)) K :=
  pur_i (v := .int k (k.wrap (a + b))) (fun w => by simp [binOp, Op.intArith]) hK
theorem mulW_i (hK : K (.int k (k.wrap (a * b)))) : pur P (binOp .mul T (.int k a) (.int k b)) K :=
  pur_i (v := .int k (k.wrap (a * b))) (fun w => by simp [binOp, Op.intArith]) hK
theorem shrW_i {y : Int} (hy : 0 ≤ y) (hK : K (.int k (a.fdiv (2 ^ (min y.toNat k.bits))))) : pur P (binOp .shr T (.int k a) (.int k y)) K :=
  pur_i (v := .int k (a.fdiv (2 ^ (min y.toNat k.bits)))) (fun w => by simp [binOp, Op.shift, show ¬ y < 0 by omega]) hK
theorem andW_i {y : Int} (hy : 0 ≤ y ∧ y ≤ 255) (hK : ∀ n : Int, 0 ≤ n → n ≤ y → K (.int .u64 n)) : pur P (binOp .and T (.int .u64 a) (.int .u64 y)) K := by
  have h : ∃ n : Nat, (n : Int) ≤ y ∧ ∀ w : World, (binOp .and T (.int .u64 a) (.int .u64 y)).run P w = .ok (.int .u64 (n : Int)) w := by
    refine ⟨(BitVec.ofInt 64 a &&& BitVec.ofInt 64 y).toNat, ?_, fun w => ?_⟩
    · rw [BitVec.toNat_and]
      have h1 : (BitVec.ofInt 64 a).toNat &&& (BitVec.ofInt 64 y).toNat ≤ (BitVec.ofInt 64 y).toNat := Nat.and_le_right
      have h2 : (BitVec.ofInt 64 y).toNat = y.toNat := by
        rw [BitVec.toNat_ofInt]
        congr 1
        exact Int.emod_eq_of_lt hy.1 (by have := hy.2; omega)
      omega
    · have hb : (BitVec.ofInt 64 a &&& BitVec.ofInt 64 y).toNat < 2 ^ 64 := BitVec.isLt _
      have hw : IntKind.u64.wrap ((BitVec.ofInt 64 a &&& BitVec.ofInt 64 y).toNat : Int) = ((BitVec.ofInt 64 a &&& BitVec.ofInt 64 y).toNat : Int) := by
        generalize (BitVec.ofInt 64 a &&& BitVec.ofInt 64 y).toNat = n at hb
        unfold IntKind.wrap
        simp [IntKind.bits, IntKind.signed]
        omega
      have : (binOp .and T (.int .u64 a) (.int .u64 y)).run P w = .ok (.int .u64 (IntKind.u64.wrap ((BitVec.ofInt 64 a &&& BitVec.ofInt 64 y).toNat : Int))) w := rfl
      rw [this, hw]
  obtain ⟨n, h1, h2⟩ := h
  exact pur_i h2 (hK n (by omega) h1)
theorem conv_i {w : World} {S D : TypeId} {kd : IntKind} {n : Int} {K : Value → World → Prop} (hS : (P.underlying S).isSome = true) (hD : P.underlying D = some (.int kd)) (hK : K (.int kd (kd.wrap n)) w) : eff P (convert S D (.int k n)) w K := by
  refine eff_i (v := .int kd (kd.wrap n)) (w' := w) ?_ hK
  obtain ⟨t, ht⟩ := Option.isSome_iff_exists.1 hS
  unfold convert
  simp [underlying, ht, hD, Conv.intToInt]
end
end Go.SL
