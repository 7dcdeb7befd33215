/- Contracts: a grid of numbers is made; a grey picture is remade; rows are written. -/
import Derived.Test.YtfdmphgbodmkpaaCLawV
import Derived.Test.YtfdmphgbodmkpaaPFill
set_option linter.unusedVariables false
set_option linter.unusedSimpArgs false
namespace Go.Proofs.Ytfdmphgbodmkpaa
open Go Go.SL Go.RowKit
set_option maxRecDepth 100000

theorem sl1_getF {P : Program} {w : World} {E v : _} {xs : List Value} {b T U : Nat} {j : Int} {x : Value} {K : Value → Prop} (hT : slice1 P T E = true) (hU : plainT P U = true) (h : Sl1 w E v xs b) (h0 : 0 ≤ j) (hx : xs[j.toNat]? = some x) (hK : K x) :
    pur P (Instr.indexAt T v (i64 j)) fun t => rdF P (fun w' => Ext w w') (Instr.loadAt U t) K := by
  obtain ⟨_, _, hs, _⟩ := slice1_spec hT
  obtain ⟨o, c, rfl, hsl⟩ := h
  have hlt : j.toNat < xs.length := (List.getElem?_eq_some_iff.1 hx).1
  refine idx_i hs h0 (by omega) ?_
  obtain ⟨cs, h1, h2⟩ := hsl.cell hx
  rw [Nat.mul_one]
  exact rdF_i (fun w' hw' => ld_run hU (hw'.at_ h1) h2) hK

/-- One number of the rows is written. -/
theorem rr_at {w : World} {v : Value} {W H c : Nat} {rc : Nat → Nat} {f : Nat → Int} (h : RR w v (rect W H f) c rc) (hinj : ∀ y z, y < H → z < H → rc y = rc z → y = z) {x y : Nat} (hx : x < W) (hy : y < H) :
    ∃ us u, Sl1 w ty_Sint64 v us c ∧ us[y]? = some u ∧ Sl1 w ty_int64 u ((tab W fun x => f (y * W + x)).map i64) (rc y) ∧ ∀ n w', Mod (· = rc y) w w' → Sl1 w' ty_int64 u (((tab W fun x => f (y * W + x)).set x n).map i64) (rc y) → RR w' v (rect W H (upd f (y * W + x) n)) c rc := by
  have hne : c ≠ rc y := h.ne (by rw [rect_len]; exact hy)
  obtain ⟨us, h1, h2, h3⟩ := h
  obtain ⟨u, k1, k2⟩ := h3 y _ (rect_get hy)
  refine ⟨us, u, h1, k1, k2, fun n w' hm hu => ⟨us, h1.mod hm hne, by rw [h2, rect_len, rect_len], fun z l hz => ?_⟩⟩
  have hzH : z < H := by
    have := (List.getElem?_eq_some_iff.1 hz).1
    rwa [rect_len] at this
  rw [rect_get hzH, Option.some.injEq] at hz
  subst hz
  by_cases e : z = y
  · subst e
    refine ⟨u, k1, ?_⟩
    rw [tab_set] at hu
    have e : tab W (upd (fun x => f (z * W + x)) x n) = tab W fun x' => upd f (z * W + x) n (z * W + x') := tab_congr fun q _ => by
      unfold upd
      by_cases e : q = x
      · rw [if_pos e, if_pos (by omega)]
      · rw [if_neg e, if_neg (by omega)]
    rw [← e]; exact hu
  · obtain ⟨u', j1, j2⟩ := h3 z _ (rect_get hzH)
    refine ⟨u', j1, ?_⟩
    have e2 : (tab W fun x' => upd f (y * W + x) n (z * W + x')) = tab W fun x' => f (z * W + x') := tab_congr fun q hq => by
      unfold upd
      rw [if_neg]
      intro e3
      rcases Nat.lt_or_gt_of_ne e with hlt | hlt
      · have := Nat.mul_le_mul_right W (show z + 1 ≤ y from hlt)
        rw [Nat.add_mul, Nat.one_mul] at this; omega
      · have := Nat.mul_le_mul_right W (show y + 1 ≤ z from hlt)
        rw [Nat.add_mul, Nat.one_mul] at this; omega
    rw [e2]
    exact j2.mod hm fun e3 => e (hinj z y hzH hy e3)

theorem grid_c {w : World} {b c W H : Nat} {px : List Bool} {fv : Value} {num : Nat → Int} {K : Value → World → Prop} (hi : Img w b c W H px) (hW : W ≤ 1000) (hH : H ≤ 1000)
    (hf : ∀ (x y : Nat) w1, Ext w w1 → x < W → y < H → ∀ K' : Value → World → Prop, (∀ w2, Ext w1 w2 → K' (i64 (num (y * W + x))) w2) → callV Pg fv #[i64 x, i64 y] w1 K')
    (hK : ∀ v b0 rb w', Ext w w' → Fresh w.heap.size b0 rb H → RR w' v (rect W H num) b0 rb → K v w') : callS Pg n_image_grid #[ptr b 0, fv] w K := by
  refine call_image_grid _ _ _ _ ?_
  unfold S_image_grid
  refine rr_nil rfl fun v0 c0 w1 he1 hc1 hv1 => ?_
  have hb1 := he1.at_ hi.hd
  refine nilS_i (fldi_i (by kernel_rfl) (ld_i (by kernel_rfl) hb1 rfl ?_))
  refine loopS_i (fun s w' => ∃ (v : Value) (y c : Nat) (rb : Nat → Nat), s = [v, i64 y] ∧ y ≤ H ∧ Ext w w' ∧ Fresh w.heap.size c rb y ∧ RR w' v (tab y fun j => tab W fun x => num (j * W + x)) c rb) (fun s _ => H - (intOf (nth s 1)).toNat) ⟨v0, 0, c0, fun _ => 0, by simp, by omega, he1, ⟨hc1, fun y z => by omega, fun y z p => by omega⟩, hv1 _⟩ ?_
  rintro g s w2 ⟨v, y, c, rb, rfl, hy, hE, hF, hv⟩
  rw [nth0, nth1]
  refine lss_i (ifB_i (fun hlt => ?_) (fun hlt => ?_))
  · have hyH : y < H := by omega
    refine sl1_nil (E := ty_int64) (by kernel_rfl) fun u0 r0 w3 he3 hr0 hu0 => ?_
    have hE3 := hE.trans he3
    refine nilS_i (fldi_i (by kernel_rfl) (ld_i (by kernel_rfl) (hE3.at_ hi.hd) rfl ?_))
    refine loopS_i (fun s w' => ∃ (u : Value) (x r : Nat), s = [u, i64 x] ∧ x ≤ W ∧ Ext w2 w' ∧ w2.heap.size ≤ r ∧ Sl1 w' ty_int64 u ((tab x fun x => num (y * W + x)).map i64) r) (fun s _ => W - (intOf (nth s 1)).toNat) ⟨u0, 0, r0, by simp, by omega, he3, hr0, hu0⟩ ?_
    rintro g2 s2 w4 ⟨u, x, r, rfl, hx, hE4, hr, hu⟩
    rw [nth0, nth1]
    refine lss_i (ifB_i (fun hlt2 => ?_) (fun hlt2 => ?_))
    · have hxW : x < W := by omega
      refine hf x y w4 (hE.trans hE4) hxW hyH _ fun w5 he5 => ?_
      refine sl1_app (E := ty_int64) (by kernel_rfl) rfl (hu.ext he5) (by rw [List.length_map, tab_len]; omega) fun u' w6 r' hor hm hu' => ?_
      refine add_i (.of (by omega) (by omega)) ?_
      have z4 := hE4.size; have z5 := he5.size
      refine ⟨⟨u', x + 1, r', by simp, by omega, (hE4.trans he5).own hm hr, by rcases hor with rfl | h' <;> omega, ?_⟩, by simp only [nth1, intOf]; omega⟩
      rw [tab_succ, List.map_append]
      exact hu'
    · have : x = W := by omega
      subst this
      refine rr_app ⟨rfl, rfl, rfl⟩ (hv.ext hE4) hu (by rw [tab_len]; omega) fun v' w5 c' hor hm hv' => ?_
      rw [tab_len] at hv'
      rw [← tab_succ y (fun j => tab x fun x' => num (j * x + x'))] at hv'
      refine add_i (.of (by omega) (by omega)) ?_
      have z2 := hE.size; have z4 := hE4.size
      refine ⟨⟨v', y + 1, c', upd rb y r, by simp, by omega, (hE.trans hE4).own hm hF.b, hF.app hor (by omega) (by omega) fun z hz e => ?_, hv'⟩, by simp only [nth1, intOf]; omega⟩
      have := hv.lt (y := z) (by rw [tab_len]; exact hz); omega
  · have : y = H := by omega
    subst this
    exact hK v c rb w2 hE hF hv

theorem remade_c {w : World} {gp W H b0 : Nat} {rb : Nat → Nat} {num num' : Nat → Int} {fv : Value} {K : Value → World → Prop} (hg : GP w gp W H num b0 rb) (h1 : one fv = true)
    (hf : ∀ (q : Nat) w1, Ext w w1 → q < W * H → ∀ K' : Value → World → Prop, (∀ w2, Ext w1 w2 → K' (i64 (num' q)) w2) → callV Pg fv #[pairV (sp W q)] w1 K')
    (hK : ∀ v c rc w', Ext w w' → Fresh w.heap.size c rc H → RR w' v (rect W H num') c rc → K (.agg #[v]) w') : callS Pg n_Grey_remade #[ptr gp 0, fv] w K := by
  refine call_Grey_remade _ _ _ _ ?_
  unfold S_Grey_remade
  have hW := hg.w1; have hW2 := hg.w2; have hH := hg.h1; have hH2 := hg.h2
  refine box_i fun fb w1 g1 => ?_
  rw [one_cells h1] at g1
  refine alloc_i rfl fun ob w2 g2 => ?_
  have hE2 := g1.ext.trans g2.ext
  refine sizes_c (hg.ext hE2) fun w3 he3 => ?_
  refine ext_i rfl (ext_i rfl ?_)
  refine blank_c (by omega) (by omega) fun ib ic w4 he4 hib hic hi => ?_
  have he24 := he3.trans he4
  have hE4 := hE2.trans he24
  have hfb : w4.heap[fb]? = _ := (g2.ext.trans he24).at_ g1.at_
  refine grid_c (num := num') hi (by omega) (by omega) (fun x y w5 he5 hx hy K' hK' => ?_) fun v c rc w5 he5 hF hv => ?_
  · refine callV_i ?_
    refine call_Grey_remade_1 _ _ _ _ _ ?_
    unfold S_Grey_remade_1
    refine ld_i (by kernel_rfl) (he5.at_ hfb) rfl ?_
    refine build_i rfl rfl ?_
    have e : pairV ((x : Int), (y : Int)) = pairV (sp W (y * W + x)) := by rw [sp_sq hx]
    have := hf (y * W + x) w5 (hE4.trans he5) (sq_lt hx hy) K' fun w6 he6 => hK' w6 he6
    rw [← e] at this
    exact this
  · have hv1 := hv.one
    obtain ⟨o, n, cp, hve⟩ : ∃ o n cp, v = sl c o n cp := by
      obtain ⟨us, ⟨o, cp, e, _⟩, _⟩ := hv
      exact ⟨o, _, cp, e⟩
    subst hve
    refine build_i (cells := #[sl c o n cp]) rfl rfl ?_
    have hob := (he24.trans he5).at_ g2.at_
    refine stn_i (n := 1) (by kernel_rfl) (by intro x hx; simp at hx; subst hx; exact hv1) rfl hob (Nat.le_refl 1) ?_
    have hm := setAt_mod w5 ob (row (wr (Value.agg #[.slice none 0 0]).cells 0 [sl c o n cp]) ty_impl_Grey)
    refine resn_i (n := 1) (by kernel_rfl) (setAt_at _ (lt_of_at hob) _) (Nat.le_refl 1) rfl ?_
    have z1 := g1.ext.size; have o2 := g2.old; have l2 := lt_of_at g2.at_; have z24 := he24.size
    have hb0 := hF.b
    have z4 := hE4.size
    refine hK _ c rc _ ((hE4.trans he5).own hm (by omega)) ⟨by omega, fun y hy => by have := hF.r y hy; omega, hF.inj⟩ (hv.mod hm (by omega) fun y hy => by rw [rect_len] at hy; have := hF.r y hy; omega)
end Go.Proofs.Ytfdmphgbodmkpaa
