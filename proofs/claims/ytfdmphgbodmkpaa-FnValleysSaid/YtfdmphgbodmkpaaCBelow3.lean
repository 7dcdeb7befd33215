/- Contracts of below, LevelCounts, CountBelow. -/
import Derived.Test.YtfdmphgbodmkpaaCBelow2
set_option linter.unusedVariables false
set_option linter.unusedSimpArgs false
namespace Go.Proofs.Ytfdmphgbodmkpaa
open Go Go.SL Go.RowKit
set_option maxRecDepth 100000

theorem comps_congr {nr : Nat → List Nat} {N : Nat} {A B : Nat → Prop} (h : ∀ q, A q ↔ B q) : comps nr N A = comps nr N B := by
  have : A = B := funext fun q => propext (h q)
  rw [this]
/-- How many sets there are of places up to a level. -/
noncomputable def belowN (W H : Nat) (num : Nat → Int) (lv : Int) : Nat := comps (near W H) (W * H) fun q => q < W * H ∧ num q ≤ lv
theorem belowN_le {W H : Nat} {num : Nat → Int} {lv : Int} : belowN W H num lv ≤ W * H := by
  unfold belowN comps
  refine Nat.le_trans (List.length_filter_le _ _) ?_
  rw [List.length_range]; exact Nat.le_refl _
theorem mk_get {W H q : Nat} {f : Nat → Nat → Bool} (h : q < W * H) : (mk W H f).getD q false = f (q % W) (q / W) := by
  unfold mk
  rw [List.getD_eq_getElem?_getD, List.getElem?_map, List.getElem?_range h]; rfl

theorem below_c {w : World} {gp W H b0 : Nat} {rb : Nat → Nat} {num : Nat → Int} {lv : Int} {K : Value → World → Prop} (hg : GP w gp W H num b0 rb) (hK : ∀ w', Ext w w' → K (i64 (belowN W H num lv)) w') : callS Pg n_Grey_below #[ptr gp 0, i64 lv] w K := by
  refine call_Grey_below _ _ _ _ ?_
  unfold S_Grey_below
  have hW := hg.w1; have hW2 := hg.w2; have hH := hg.h1; have hH2 := hg.h2
  refine box_i fun gc w1 g1 => ?_
  refine box_i fun lc w2 g2 => ?_
  have hgc2 : w2.heap[gc]? = some (row #[ptr gp 0] ty_Pimpl_Grey) := g2.ext.at_ g1.at_
  have hlc2 : w2.heap[lc]? = some (row #[i64 lv] ty_int64) := g2.at_
  have hE2 := g1.ext.trans g2.ext
  refine ld_i (by kernel_rfl) hgc2 rfl ?_
  refine sizes_c (hg.ext hE2) fun w3 he3 => ?_
  refine ext_i rfl (ext_i rfl ?_)
  have hE3 := hE2.trans he3
  refine made_c (fun x y => decide (num (y * W + x) ≤ lv)) (by omega) (by omega) rfl (fun x y w4 he4 hx hy K' hK' => ?_) fun b c w4 he4 hb hc hi => ?_
  · refine callV_i ?_
    refine call_Grey_below_1 _ _ _ _ _ _ ?_
    unfold S_Grey_below_1
    refine drawS_i ?_
    have hd := (Same.drew w4).ext
    have he24 := he3.trans (he4.trans hd)
    have hE4 := hE2.trans he24
    refine ld_i (by kernel_rfl) (he24.at_ hgc2) rfl ?_
    refine nilS_i ?_
    refine gp_rows ⟨rfl, rfl, rfl⟩ (hg.ext hE4) fun v hv => ?_
    refine rr_row ⟨rfl, rfl⟩ hv (by omega) (by rw [Int.toNat_natCast]; exact rect_get hy) fun u hu => ?_
    refine int_get ⟨rfl, rfl⟩ hu (by omega) (n := num (y * W + x)) (by rw [Int.toNat_natCast]; exact tab_get hx) ?_
    refine ld_i (by kernel_rfl) (he24.at_ hlc2) rfl ?_
    refine leq_i ?_
    exact hK' _ hd
  · refine labels_c hi hW hg.area hW2 hH2 fun r w5 he5 => ?_
    refine ext_i rfl (ext_i rfl ?_)
    have e : comps (near W H) (W * H) (Blk W H (mk W H fun x y => decide (num (y * W + x) ≤ lv))) = belowN W H num lv := by
      refine comps_congr fun q => ?_
      unfold Blk
      constructor
      · rintro ⟨h1, h2⟩
        rw [mk_get h1, decide_eq_true_eq, Nat.mul_comm, Nat.div_add_mod] at h2
        exact ⟨h1, h2⟩
      · rintro ⟨h1, h2⟩
        refine ⟨h1, ?_⟩
        rw [mk_get h1, decide_eq_true_eq, Nat.mul_comm, Nat.div_add_mod]
        exact h2
    rw [e]
    exact hK w5 (hE3.trans (he4.trans he5))

theorem levelCounts_c {w : World} {v : Value} {L : List (List Int)} {b0 : Nat} {rb : Nat → Nat} {K : Value → World → Prop} (h : RR w v L b0 rb) (hL : L.length ≤ 1000000000) (hl : ∀ l ∈ L, l.length ≤ 1000000000) (ht : TableOk 99 L)
    (hK : ∀ r b w', Ext w w' → Sl1 w' ty_int64 r ((tab 100 fun lv => (belowN (VW L) L.length (numL L) (lv : Int) : Int)).map i64) b → K (.tuple #[r, .bool true]) w') : callS Pg n_impl_LevelCounts #[.agg #[v]] w K := by
  refine call_impl_LevelCounts _ _ _ ?_
  unfold S_impl_LevelCounts
  refine box_i fun p w1 h1 => ?_
  have hp : w1.heap[p]? = some (row #[v] ty_impl_Grey) := h1.at_
  refine grey_ld hp ?_
  refine validGrey_c (h.ext h1.ext) hL hl fun w2 he2 => ?_
  refine not_i ?_
  rw [decide_eq_true ht, Bool.not_true, ifB_eq, if_neg (by simp)]
  have hE2 := h1.ext.trans he2
  refine sl1_nil (E := ty_int64) (by kernel_rfl) fun r0 b0' w3 he3 hb0 hr0 => ?_
  have hg := gp_of ht (he2.at_ hp) (h.ext hE2)
  have ha := hg.area
  refine loopS_i (fun s w' => ∃ (r : Value) (k b : Nat), s = [r, i64 k] ∧ k ≤ 100 ∧ Ext w2 w' ∧ w2.heap.size ≤ b ∧ Sl1 w' ty_int64 r ((tab k fun lv => (belowN (VW L) L.length (numL L) (lv : Int) : Int)).map i64) b) (fun s _ => 100 - (intOf (nth s 1)).toNat)
    ⟨r0, 0, b0', rfl, by omega, he3, hb0, hr0⟩ ?_
  rintro g s w4 ⟨r, k, b, rfl, hk, hE, hb, hr⟩
  rw [nth0, nth1]
  refine lss_i (ifB_i (fun hlt => ?_) (fun hlt => ?_))
  · refine below_c (hg.ext hE) fun w5 he5 => ?_
    refine sl1_app (E := ty_int64) (by kernel_rfl) rfl (hr.ext he5) (by rw [List.length_map, tab_len]; omega) fun r' w6 b' hor hm6 hr' => ?_
    refine add_i (.of (by omega) (by omega)) ?_
    have z4 := hE.size; have z5 := he5.size
    refine ⟨⟨r', k + 1, b', by simp, by omega, (hE.trans he5).own hm6 hb, by rcases hor with rfl | h' <;> omega, ?_⟩, by simp only [nth1, intOf]; omega⟩
    rw [tab_succ, List.map_append]
    exact hr'
  · have : k = 100 := by omega
    subst this
    exact hK r b w4 (hE2.trans hE) hr
theorem countBelow_c {w : World} {v : Value} {L : List (List Int)} {b0 : Nat} {rb : Nat → Nat} {lv : Int} {K : Value → World → Prop} (h : RR w v L b0 rb) (hL : L.length ≤ 1000000000) (hl : ∀ l ∈ L, l.length ≤ 1000000000) (ht : TableOk 99 L) (hlv : 0 ≤ lv ∧ lv ≤ 99)
    (hK : ∀ w', Ext w w' → K (.tuple #[i64 (belowN (VW L) L.length (numL L) lv), .bool true]) w') : callS Pg n_impl_CountBelow #[.agg #[v], i64 lv] w K := by
  refine call_impl_CountBelow _ _ _ _ ?_
  unfold S_impl_CountBelow
  refine box_i fun p w1 h1 => ?_
  have hp : w1.heap[p]? = some (row #[v] ty_impl_Grey) := h1.at_
  refine grey_ld hp ?_
  refine validGrey_c (h.ext h1.ext) hL hl fun w2 he2 => ?_
  refine not_i ?_
  rw [decide_eq_true ht, Bool.not_true, joinS_eq, ifG_eq_f, if_neg (by simp)]
  refine in_c ?_
  refine not_i ?_
  intro g
  rw [pickS_eq, cond_false, nth0, decide_eq_true hlv, Bool.not_true, ifB_eq, if_neg (by simp)]
  have hE2 := h1.ext.trans he2
  exact below_c (gp_of ht (he2.at_ hp) (h.ext hE2)) fun w3 he3 => hK w3 (hE2.trans he3)
end Go.Proofs.Ytfdmphgbodmkpaa
