/- Contracts of the reference's invert, spots, steps. -/
import Derived.Test.YtfdmphgbodmkpaaCSpec2
set_option linter.unusedVariables false
set_option linter.unusedSimpArgs false
namespace Go.Proofs.Ytfdmphgbodmkpaa
open Go Go.SL Go.RowKit
set_option maxRecDepth 100000

theorem spotX_i {w : World} {T1 T2 T3 : TypeId} {v : Value} {l : List (Int × Int)} {b : Nat} {j : Int} {p : Int × Int} {K : Value → Prop} (hT : T1 = ty_Simpl_Spot ∧ T2 = ty_impl_Spot ∧ T3 = ty_int64) (h : OwnSpots w v l b) (h0 : 0 ≤ j) (hp : l[j.toNat]? = some p) (hK : K (i64 p.1)) :
    pur Pg (Instr.indexAt T1 v (i64 j)) fun t => pur Pg (Instr.fieldAt T2 t 0) fun t => rd Pg (Instr.loadAt T3 t) w K := by
  obtain ⟨rfl, rfl, rfl⟩ := hT
  refine spots_at_i rfl h h0 hp fun a cs hc1 hc2 hc3 => ?_
  obtain ⟨q1, q2⟩ := cell_of_pair hc2 hc3
  refine fldi_i (by kernel_rfl) ?_
  exact ld_i (by kernel_rfl) hc1 q1 hK
theorem spotY_i {w : World} {T1 T2 T3 : TypeId} {v : Value} {l : List (Int × Int)} {b : Nat} {j : Int} {p : Int × Int} {K : Value → Prop} (hT : T1 = ty_Simpl_Spot ∧ T2 = ty_impl_Spot ∧ T3 = ty_int64) (h : OwnSpots w v l b) (h0 : 0 ≤ j) (hp : l[j.toNat]? = some p) (hK : K (i64 p.2)) :
    pur Pg (Instr.indexAt T1 v (i64 j)) fun t => pur Pg (Instr.fieldAt T2 t 1) fun t => rd Pg (Instr.loadAt T3 t) w K := by
  obtain ⟨rfl, rfl, rfl⟩ := hT
  refine spots_at_i rfl h h0 hp fun a cs hc1 hc2 hc3 => ?_
  obtain ⟨q1, q2⟩ := cell_of_pair hc2 hc3
  refine fldi_i (by kernel_rfl) ?_
  exact ld_i (by kernel_rfl) hc1 q2 hK
theorem spotV_i {w : World} {T1 T2 : TypeId} {v : Value} {l : List (Int × Int)} {b : Nat} {j : Int} {p : Int × Int} {K : Value → Prop} (hT : T1 = ty_Simpl_Spot ∧ T2 = ty_impl_Spot) (h : OwnSpots w v l b) (h0 : 0 ≤ j) (hp : l[j.toNat]? = some p) (hK : K (pairV p)) :
    pur Pg (Instr.indexAt T1 v (i64 j)) fun t => rd Pg (Instr.loadAt T2 t) w K := by
  obtain ⟨rfl, rfl⟩ := hT
  refine spots_at_i rfl h h0 hp fun a cs hc1 hc2 hc3 => ?_
  exact ldn_i (n := 2) (by kernel_rfl) hc1 hc2 hc3 hK

def spotsOf (W : Nat) (px : List Bool) (n : Nat) : List (Int × Int) := ((List.range n).filter fun i => px.getD i false).map fun i => (((i % W : Nat) : Int), ((i / W : Nat) : Int))
theorem spotsOf_le (W : Nat) (px : List Bool) (n : Nat) : (spotsOf W px n).length ≤ n := by
  unfold spotsOf
  rw [List.length_map]
  exact Nat.le_trans (List.length_filter_le _ _) (by simp)
theorem spotsOf_step {W : Nat} (px : List Bool) {x y : Nat} (hx : x < W) : spotsOf W px (y * W + x + 1) = spotsOf W px (y * W + x) ++ (if px.getD (y * W + x) false then [((x : Int), (y : Int))] else []) := by
  unfold spotsOf
  rw [List.range_succ, List.filter_append, List.map_append]
  congr 1
  cases h : px.getD (y * W + x) false
  · rw [List.filter_cons_of_neg (by rw [h]; simp)]; rfl
  · rw [List.filter_cons_of_pos (by rw [h]), List.filter_nil, List.map_cons, List.map_nil, if_pos rfl]
    rw [Nat.add_comm (y * W) x, Nat.add_mul_mod_self_right, Nat.mod_eq_of_lt hx, Nat.add_mul_div_right _ _ (by omega), Nat.div_eq_of_lt hx, Nat.zero_add]

theorem pixel_in {W H x y : Nat} {px : List Bool} (hx : x < W) (hy : y < H) : pixel W H px x y = px.getD (y * W + x) false := by
  unfold pixel
  rw [decide_eq_true (by omega), Bool.true_and]; rfl

def steps (e : Bool) : List (Int × Int) := [(0, -1), (-1, 0), (1, 0), (0, 1)] ++ if e then [(-1, -1), (1, -1), (-1, 1), (1, 1)] else []
theorem l03Steps_c {w : World} {e : Bool} {K : Value → World → Prop} (hK : ∀ v c w', Ext w w' → w.heap.size ≤ c → OwnSpots w' v (steps e) c → K v w') : callS Pg n_l03Steps #[.bool e] w K := by
  refine call_l03Steps _ _ _ ?_
  unfold S_l03Steps
  refine build_i rfl rfl (build_i rfl rfl (build_i rfl rfl (build_i rfl rfl ?_)))
  refine buildSlice_i (size := 2) (cells := #[i64 0, i64 (-1), i64 (-1), i64 0, i64 1, i64 0, i64 0, i64 1]) rfl (by omega) (by kernel_rfl) fun b w1 h1 => ?_
  have hsl : Sl w1 ty_impl_Spot 2 b 0 4 4 (pairCells (steps false)) := Sl.of_row h1.at_ rfl
  rw [joinS_eq, ifB_eq]
  cases e
  · rw [if_neg (by simp)]
    intro g
    exact hK _ b w1 h1.ext h1.old ⟨0, 4, rfl, hsl⟩
  · rw [if_pos rfl]
    refine build_i rfl rfl (build_i rfl rfl (build_i rfl rfl (build_i rfl rfl ?_)))
    refine buildSlice_i (size := 2) (cells := #[i64 (-1), i64 (-1), i64 1, i64 (-1), i64 (-1), i64 1, i64 1, i64 1]) rfl (by omega) (by kernel_rfl) fun b2 w2 h2 => ?_
    have hsl2 : Sl w2 ty_impl_Spot 2 b2 0 4 4 (pairCells [(-1, -1), (1, -1), (-1, 1), (1, 1)]) := Sl.of_row h2.at_ rfl
    refine append_i (size := 2) rfl rfl (by decide) (by decide) (hsl.ext h2.ext) hsl2 (by intro v hv; simp [pairCells, pairV, Value.cells] at hv; rcases hv with rfl | rfl | rfl | rfl | rfl | rfl | rfl | rfl <;> rfl) (by omega) fun b' o' c' w' hor hsl' => ?_
    intro g
    refine hK _ b' w' ?_ ?_ ⟨o', c', rfl, hsl'⟩
    · rcases hor with ⟨_, hm⟩ | ⟨_, he⟩
      · exact (h1.ext.trans h2.ext).own hm h1.old
      · exact (h1.ext.trans h2.ext).trans he
    · have := (h1.ext.trans h2.ext).size
      have := h1.old
      rcases hor with ⟨rfl, _⟩ | ⟨h, _⟩ <;> omega
end Go.Proofs.Ytfdmphgbodmkpaa
