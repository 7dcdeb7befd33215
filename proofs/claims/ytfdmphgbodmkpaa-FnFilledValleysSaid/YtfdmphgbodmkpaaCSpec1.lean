/- Contracts of the reference's pictures: sizes, pixels, lists. -/
import Derived.Test.YtfdmphgbodmkpaaCSpread
set_option linter.unusedVariables false
set_option linter.unusedSimpArgs false
namespace Go.Proofs.Ytfdmphgbodmkpaa
open Go Go.SL Go.RowKit
set_option maxRecDepth 100000

def byteOf (b : Bool) : UInt8 := if b then 35 else 46
/-- Rows of text as W times H pixels. -/
structure IsPic (rows : List ByteArray) (W H : Nat) (px : List Bool) : Prop where
  rl : rows.length = H
  len : px.length = W * H
  w1 : 1 ≤ W
  h1 : 1 ≤ H
  wb : W ≤ 1000
  hb : H ≤ 1000
  each : ∀ y, y < H → ∃ r, rows[y]? = some r ∧ r.size = W ∧ ∀ x, x < W → r[x]? = some (byteOf (px.getD (y * W + x) false))
theorem l00In_c {a lo hi : Int} {w : World} {K : Value → World → Prop} (hK : K (.bool (decide (lo ≤ a ∧ a ≤ hi))) w) : callS Pg n_l00In #[i64 a, i64 lo, i64 hi] w K := by
  refine call_l00In _ _ _ _ _ ?_
  unfold S_l00In
  by_cases h1 : lo ≤ a <;> by_cases h2 : a ≤ hi <;> simp only [pur_geq, pur_leq, joinS_eq, ifG_eq_t, pickS_eq, nth0, all_fr, h1, h2, decide_true, decide_false, cond_true, cond_false, if_true, if_false, Bool.false_eq_true, and_self, and_true, true_and, and_false] at hK ⊢ <;> exact hK
theorem l01Side_c {a : Int} {w : World} {K : Value → World → Prop} (hK : K (.bool (decide (1 ≤ a ∧ a ≤ 16))) w) : callS Pg n_l01Side #[i64 a] w K := by
  refine call_l01Side _ _ _ ?_
  unfold S_l01Side
  exact l00In_c hK
theorem l00Max_c {a b : Int} {w : World} {K : Value → World → Prop} (hK : K (i64 (max a b)) w) : callS Pg n_l00Max #[i64 a, i64 b] w K := by
  refine call_l00Max _ _ _ _ ?_
  unfold S_l00Max
  refine gtr_i (ifB_i (fun h => ?_) (fun h => ?_))
  · rw [Int.max_eq_left (by omega)] at hK; exact hK
  · rw [Int.max_eq_right (by omega)] at hK; exact hK
theorem byteOf_35 (b : Bool) : (decide (((byteOf b).toNat : Int) = 35)) = b := by cases b <;> rfl
theorem boolv_one (l : List Bool) : ∀ v ∈ l.map Value.bool, one v = true := by intro v hv; obtain ⟨b, _, rfl⟩ := List.mem_map.1 hv; rfl

end Go.Proofs.Ytfdmphgbodmkpaa
