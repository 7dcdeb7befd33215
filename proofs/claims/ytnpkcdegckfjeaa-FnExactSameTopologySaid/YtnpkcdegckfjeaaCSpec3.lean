/- Contracts of the reference's invert, spots, steps. -/
import Derived.Test.YtnpkcdegckfjeaaCSpec2
namespace Go.Proofs.Ytnpkcdegckfjeaa
open Go Go.SL Go.RowKit
set_option maxRecDepth 100000

theorem spotX_i {w : World} {T1 T2 T3 : TypeId} {v : Value} {l : List (Int × Int)} {b : Nat} {j : Int} {p : Int × Int} {K : Value → Prop} (hT : T1 = ty_Simpl_Spot ∧ T2 = ty_impl_Spot ∧ T3 = ty_int64) (h : OwnSpots w v l b) (h0 : 0 ≤ j) (hp : l[j.toNat]? = some p) (hK : K (i64 p.1)) :
    pur Pg (Instr.indexAt T1 v (i64 j)) fun t => pur Pg (Instr.fieldAt T2 t 0) fun t => rd Pg (Instr.loadAt T3 t) w K := by
  obtain ⟨rfl, rfl, rfl⟩ := hT
  refine spots_at_i rfl h h0 hp fun a cs hc1 hc2 hc3 => ?_
  obtain ⟨q1, q2⟩ := cell_of_pair hc2 hc3
  refine fldi_i (by kernel_rfl) ?_
  exact ld_i (by kernel_rfl) hc1 q1 hK
theorem spotY_i {w : World} {T1 T2 T3 : TypeId} {v : Value} {l : List (Int × Int)} {b : Nat} {j : Int} {p : Int × Int} {K : Value → Prop} (hT : T1 = ty_Simpl_Spot ∧ T2 = ty_impl_Spot ∧ T3 = ty_int64) (h : OwnSpots w v l b) (h0 : 0 ≤ j) (hp : l[j.toNat]? = some p) (hK : K (i64 p.2)) :
    pur Pg (Instr.indexAt T1 v (i64 j)) fun t => pur Pg (Instr.fieldAt T2 t 1) fun t => rd Pg (Instr.loadAt T3 t) w K := by
  obtain ⟨rfl, rfl, rfl⟩ := hT
  refine spots_at_i rfl h h0 hp fun a cs hc1 hc2 hc3 => ?_
  obtain ⟨q1, q2⟩ := cell_of_pair hc2 hc3
  refine fldi_i (by kernel_rfl) ?_
  exact ld_i (by kernel_rfl) hc1 q2 hK
theorem spotV_i {w : World} {T1 T2 : TypeId} {v : Value} {l : List (Int × Int)} {b : Nat} {j : Int} {p : Int × Int} {K : Value → Prop} (hT : T1 = ty_Simpl_Spot ∧ T2 = ty_impl_Spot) (h : OwnSpots w v l b) (h0 : 0 ≤ j) (hp : l[j.toNat]? = some p) (hK : K (pairV p)) :
    pur Pg (Instr.indexAt T1 v (i64 j)) fun t => rd Pg (Instr.loadAt T2 t) w K := by
  obtain ⟨rfl, rfl⟩ := hT
  refine spots_at_i rfl h h0 hp fun a cs hc1 hc2 hc3 => ?_
  exact ldn_i (n := 2) (by kernel_rfl) hc1 hc2 hc3 hK

theorem l01Invert_c {w : World} {p b W H : Nat} {px : List Bool} {K : Value → World → Prop} (h : SPic w p b W H px) (hK : ∀ v c w', Ext w w' → w.heap.size ≤ c → VPic w' v c W H (px.map not) → K v w') : callS Pg n_l01Invert #[ptr p 0] w K := by
  refine call_l01Invert _ _ _ ?_
  unfold S_l01Invert
  have hb := h.bounds
  have hmb := mul_bound hb.2.1 hb.2.2.2.1
  refine alloc_i rfl fun rb w1 hr => ?_
  refine l01List_c (h.ext hr.ext) fun lv lc w2 he2 hlc hl => ?_
  refine sl1_len (by kernel_rfl) hl ?_
  rw [List.length_map, hb.2.2.2.2]
  have hrl := lt_of_at hr.at_
  have hro := hr.old
  have hE2 : Ext w w2 := hr.ext.trans he2
  have hs1 := hr.ext.size
  have hr2 := he2.at_ hr.at_
  refine loopS_i (fun s w' => ∃ i : Nat, s = [i64 i] ∧ i ≤ W * H ∧ Ext w w' ∧ w'.heap[rb]? = w2.heap[rb]? ∧ Sl1 w' ty_bool lv (((px.map not).take i ++ px.drop i).map Value.bool) lc) (fun s _ => W * H - (intOf (nth s 0)).toNat) ⟨0, rfl, by omega, hE2, rfl, by simpa using hl⟩ ?_
  rintro g s w3 ⟨i, rfl, hi, hE3, hrb, hl3⟩
  rw [nth0]
  refine lss_i (ifB_i (fun hlt => ?_) (fun hlt => ?_))
  · have hil : i < px.length := by omega
    have hlen : ((px.map not).take i).length = i := by simp; omega
    refine sl1_get (x := .bool px[i]) (by kernel_rfl) (by kernel_rfl) hl3 (by omega) ?_ ?_
    · rw [Int.toNat_natCast, List.getElem?_map, List.getElem?_append_right (by omega), hlen, Nat.sub_self, List.getElem?_drop, Nat.add_zero, List.getElem?_eq_getElem hil]; rfl
    refine not_i ?_
    refine sl1_addr (by kernel_rfl) hl3 (by omega) (by simp; omega) fun a hst => ?_
    refine hst _ _ _ (by kernel_rfl) rfl fun w4 hm hl4 => ?_
    refine add_i (.of (by omega) (by omega)) ?_
    refine ⟨⟨i + 1, by simp, by omega, hE3.own hm (by omega), ?_, ?_⟩, ?_⟩
    · rw [← hrb]; exact hm.block rb (by have := hE3.size; rw [hr2] at hrb; exact lt_of_at hrb) (by omega)
    · have e : (((px.map not).take i ++ px.drop i).map Value.bool).set i (.bool (!px[i])) = (((px.map not).take (i + 1) ++ px.drop (i + 1)).map Value.bool) := by
        rw [← List.map_set]
        congr 1
        rw [List.set_append_right _ _ (by omega), hlen, Nat.sub_self, List.drop_eq_getElem_cons hil, List.set_cons_zero]
        rw [List.take_succ_eq_append_getElem (by simpa using hil)]
        simp
      rw [← e]
      simpa using hl4
    · simp only [nth0, intOf]; omega
  · have : i = W * H := by omega
    subst this
    rw [List.take_of_length_le (by simp [hb.2.2.2.2]), List.drop_of_length_le (by rw [hb.2.2.2.2]; exact Nat.le_refl _), List.append_nil] at hl3
    refine l01Width_c (h.ext hE3) ?_
    refine l01Make_c hl3 (by simp [hb.2.2.2.2]) hb.1 hb.2.2.1 hb.2.1 hb.2.2.2.1 fun v c w4 he4 hc hP => ?_
    have hs3 := hE3.size
    have hrlt : rb < w3.heap.size := by rw [hr2] at hrb; exact lt_of_at hrb
    refine outP_i rfl (he4.at_ (hrb.trans hr2)) hP (by omega) fun w5 hm hP5 => ?_
    exact hK _ c w5 ((hE3.trans he4).own hm hro) (by omega) hP5

def spotsOf (W : Nat) (px : List Bool) (n : Nat) : List (Int × Int) := ((List.range n).filter fun i => px.getD i false).map fun i => (((i % W : Nat) : Int), ((i / W : Nat) : Int))
theorem spotsOf_le (W : Nat) (px : List Bool) (n : Nat) : (spotsOf W px n).length ≤ n := by
  unfold spotsOf
  rw [List.length_map]
  exact Nat.le_trans (List.length_filter_le _ _) (by simp)
theorem spotsOf_step {W : Nat} (px : List Bool) {x y : Nat} (hx : x < W) : spotsOf W px (y * W + x + 1) = spotsOf W px (y * W + x) ++ (if px.getD (y * W + x) false then [((x : Int), (y : Int))] else []) := by
  unfold spotsOf
  rw [List.range_succ, List.filter_append, List.map_append]
  congr 1
  cases h : px.getD (y * W + x) false
  · rw [List.filter_cons_of_neg (by rw [h]; simp)]; rfl
  · rw [List.filter_cons_of_pos (by rw [h]), List.filter_nil, List.map_cons, List.map_nil, if_pos rfl]
    rw [Nat.add_comm (y * W) x, Nat.add_mul_mod_self_right, Nat.mod_eq_of_lt hx, Nat.add_mul_div_right _ _ (by omega), Nat.div_eq_of_lt hx, Nat.zero_add]

theorem pixel_in {W H x y : Nat} {px : List Bool} (hx : x < W) (hy : y < H) : pixel W H px x y = px.getD (y * W + x) false := by
  unfold pixel
  rw [decide_eq_true (by omega), Bool.true_and]; rfl

theorem l01Spots_c {w : World} {p b W H : Nat} {px : List Bool} {K : Value → World → Prop} (h : SPic w p b W H px) (hK : ∀ v c w', Ext w w' → w.heap.size ≤ c → OwnSpots w' v (spotsOf W px (W * H)) c → K v w') : callS Pg n_l01Spots #[ptr p 0] w K := by
  refine call_l01Spots _ _ _ ?_
  unfold S_l01Spots
  have hb := h.bounds
  have hmb := mul_bound hb.2.1 hb.2.2.2.1
  refine spots_nil_i rfl fun v0 c0 w1 he1 hc1 hv1 => ?_
  refine loopS_i (fun s w' => ∃ (v : Value) (y : Nat) (c : Nat), s = [v, i64 y] ∧ y ≤ H ∧ Ext w w' ∧ w.heap.size ≤ c ∧ OwnSpots w' v (spotsOf W px (y * W)) c) (fun s _ => H - (intOf (nth s 1)).toNat) ⟨v0, 0, c0, rfl, by omega, he1, hc1, by rw [Nat.zero_mul]; exact hv1⟩ ?_
  rintro g s w2 ⟨v, y, c, rfl, hy, hE, hc, hv⟩
  rw [nth1, nth0]
  refine l01Height_c (h.ext hE) ?_
  refine lss_i (ifB_i (fun hlt => ?_) (fun hlt => ?_))
  · have hyH : y + 1 ≤ H := by omega
    have hmul := Nat.mul_le_mul_right W hyH
    rw [Nat.add_mul, Nat.one_mul, Nat.mul_comm H W] at hmul
    refine loopS_i (fun s w' => ∃ (v : Value) (x : Nat) (c : Nat), s = [v, i64 x] ∧ x ≤ W ∧ Ext w w' ∧ w.heap.size ≤ c ∧ OwnSpots w' v (spotsOf W px (y * W + x)) c) (fun s _ => W - (intOf (nth s 1)).toNat) ⟨v, 0, c, rfl, by omega, hE, hc, by simpa using hv⟩ ?_
    rintro g' s' w3 ⟨v, x, c, rfl, hx, hE3, hc3, hv3⟩
    rw [nth1, nth0]
    refine l01Width_c (h.ext hE3) ?_
    refine lss_i (ifB_i (fun hlt2 => ?_) (fun hlt2 => ?_))
    · have hxW : x < W := by omega
      have hstep := spotsOf_step px (y := y) hxW
      refine joinS_k fun J hJ => ?_
      have fin : ∀ v' w' c', Ext w w' → w.heap.size ≤ c' → OwnSpots w' v' (spotsOf W px (y * W + x + 1)) c' → J [v'] w' := by
        intro v' w' c' h1 h2 h3
        refine hJ _ _ fun _ => ?_
        refine add_i (.of (by omega) (by omega)) ?_
        rw [nth0]
        refine ⟨⟨v', x + 1, c', rfl, by omega, h1, h2, by rw [← Nat.add_assoc]; exact h3⟩, ?_⟩
        simp only [nth1, intOf]; omega
      refine l01Black_c (h.ext hE3) ?_
      rw [pixel_in hxW (by omega)]
      have hle := spotsOf_le W px (y * W + x)
      rw [ifB_eq]
      cases hpx : px.getD (y * W + x) false <;> rw [hpx] at hstep
      · rw [if_neg (by simp)]
        rw [if_neg (by simp), List.append_nil] at hstep
        exact fin v w3 c hE3 hc3 (by rw [hstep]; exact hv3)
      · rw [if_pos rfl]
        rw [if_pos rfl] at hstep
        refine build_i rfl rfl ?_
        refine spots_app_i (p := ((x : Int), (y : Int))) ⟨rfl, rfl, rfl⟩ hv3 (by omega) fun v' w' b' hor hm hv' => ?_
        exact fin v' w' b' (hE3.own hm hc3) (by have := hE3.size; rcases hor with rfl | h' <;> omega) (by rw [hstep]; exact hv')
    · have : x = W := by omega
      subst this
      refine add_i (.of (by omega) (by omega)) ?_
      refine ⟨⟨v, y + 1, c, rfl, by omega, hE3, hc3, by rw [Nat.add_mul, Nat.one_mul]; exact hv3⟩, ?_⟩
      simp only [nth1, intOf]; omega
  · have : y = H := by omega
    subst this
    rw [Nat.mul_comm] at hv
    exact hK v c w2 hE hc hv

def steps (e : Bool) : List (Int × Int) := [(0, -1), (-1, 0), (1, 0), (0, 1)] ++ if e then [(-1, -1), (1, -1), (-1, 1), (1, 1)] else []
theorem l03Steps_c {w : World} {e : Bool} {K : Value → World → Prop} (hK : ∀ v c w', Ext w w' → w.heap.size ≤ c → OwnSpots w' v (steps e) c → K v w') : callS Pg n_l03Steps #[.bool e] w K := by
  refine call_l03Steps _ _ _ ?_
  unfold S_l03Steps
  refine build_i rfl rfl (build_i rfl rfl (build_i rfl rfl (build_i rfl rfl ?_)))
  refine buildSlice_i (size := 2) (cells := #[i64 0, i64 (-1), i64 (-1), i64 0, i64 1, i64 0, i64 0, i64 1]) rfl (by omega) (by kernel_rfl) fun b w1 h1 => ?_
  have hsl : Sl w1 ty_impl_Spot 2 b 0 4 4 (pairCells (steps false)) := Sl.of_row h1.at_ rfl
  rw [joinS_eq, ifB_eq]
  cases e
  · rw [if_neg (by simp)]
    intro g
    exact hK _ b w1 h1.ext h1.old ⟨0, 4, rfl, hsl⟩
  · rw [if_pos rfl]
    refine build_i rfl rfl (build_i rfl rfl (build_i rfl rfl (build_i rfl rfl ?_)))
    refine buildSlice_i (size := 2) (cells := #[i64 (-1), i64 (-1), i64 1, i64 (-1), i64 (-1), i64 1, i64 1, i64 1]) rfl (by omega) (by kernel_rfl) fun b2 w2 h2 => ?_
    have hsl2 : Sl w2 ty_impl_Spot 2 b2 0 4 4 (pairCells [(-1, -1), (1, -1), (-1, 1), (1, 1)]) := Sl.of_row h2.at_ rfl
    refine append_i (size := 2) rfl rfl (by decide) (by decide) (hsl.ext h2.ext) hsl2 (by intro v hv; simp [pairCells, pairV, Value.cells] at hv; rcases hv with rfl | rfl | rfl | rfl | rfl | rfl | rfl | rfl <;> rfl) (by omega) fun b' o' c' w' hor hsl' => ?_
    intro g
    refine hK _ b' w' ?_ ?_ ⟨o', c', rfl, hsl'⟩
    · rcases hor with ⟨_, hm⟩ | ⟨_, he⟩
      · exact (h1.ext.trans h2.ext).own hm h1.old
      · exact (h1.ext.trans h2.ext).trans he
    · have := (h1.ext.trans h2.ext).size
      have := h1.old
      rcases hor with ⟨rfl, _⟩ | ⟨h, _⟩ <;> omega
end Go.Proofs.Ytnpkcdegckfjeaa
