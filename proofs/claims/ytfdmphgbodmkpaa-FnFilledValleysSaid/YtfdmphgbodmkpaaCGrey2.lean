/- Contracts of grey pictures, continued: the picture behind a pointer, its sizes, numbers, places, lists; neighbours. -/
import Derived.Test.YtfdmphgbodmkpaaCGrey
import Derived.Test.YtfdmphgbodmkpaaCSpec3
set_option linter.unusedVariables false
set_option linter.unusedSimpArgs false
namespace Go.Proofs.Ytfdmphgbodmkpaa
open Go Go.SL Go.RowKit
set_option maxRecDepth 100000

def rect (W H : Nat) (num : Nat → Int) : List (List Int) := tab H fun y => tab W fun x => num (y * W + x)
theorem rect_len (W H : Nat) (num : Nat → Int) : (rect W H num).length = H := tab_len _ _
theorem rect_get {W H y : Nat} {num : Nat → Int} (h : y < H) : (rect W H num)[y]? = some (tab W fun x => num (y * W + x)) := tab_get h
theorem rect_congr {W H : Nat} {f g : Nat → Int} (h : ∀ i, i < W * H → f i = g i) : rect W H f = rect W H g := tab_congr fun y hy => tab_congr fun x hx => h _ (by
  have := Nat.mul_le_mul_right W (show y + 1 ≤ H from hy)
  rw [Nat.add_mul, Nat.one_mul, Nat.mul_comm H W] at this
  omega)
/-- The width of rows. -/
def VW (L : List (List Int)) : Nat := (L.getD 0 []).length
/-- The numbers of rows, by place. -/
def numL (L : List (List Int)) (i : Nat) : Int := (L.getD (i / VW L) []).getD (i % VW L) 0
/-- A right table is a rectangle. -/
theorem rect_num {L : List (List Int)} (h : TableOk 99 L) : L = rect (VW L) L.length (numL L) ∧ 1 ≤ VW L ∧ VW L ≤ 16 ∧ 1 ≤ L.length ∧ L.length ≤ 16 ∧ ∀ i, 0 ≤ numL L i ∧ numL L i ≤ 99 := by
  obtain ⟨⟨h1, h2⟩, ⟨h3, h4⟩, h5⟩ := h
  unfold numL VW
  refine ⟨?_, h3, h4, h1, h2, fun i => ?_⟩
  · generalize hW : (L.getD 0 []).length = W at h3 h5 ⊢
    apply List.ext_getElem?
    intro y
    by_cases hy : y < L.length
    · rw [rect_get hy, List.getElem?_eq_getElem hy]
      congr 1
      have hl := h5 _ (List.getElem_mem hy)
      apply List.ext_getElem?
      intro x
      by_cases hx : x < W
      · rw [tab_get hx, List.getElem?_eq_getElem (by omega)]
        have e1 : (y * W + x) / W = y := by rw [Nat.add_comm, Nat.add_mul_div_right _ _ (by omega), Nat.div_eq_of_lt hx, Nat.zero_add]
        have e2 : (y * W + x) % W = x := by rw [Nat.add_comm, Nat.add_mul_mod_self_right, Nat.mod_eq_of_lt hx]
        rw [e1, e2, List.getD_eq_getElem?_getD (l := L), List.getElem?_eq_getElem hy]
        simp only [Option.getD_some]
        rw [List.getD_eq_getElem?_getD, List.getElem?_eq_getElem (by omega)]; rfl
      · rw [List.getElem?_eq_none (by omega), List.getElem?_eq_none (by rw [tab_len]; omega)]
    · rw [List.getElem?_eq_none (by omega), List.getElem?_eq_none (by rw [rect_len]; omega)]
  · generalize hW : (L.getD 0 []).length = W at h3 h5 ⊢
    rw [List.getD_eq_getElem?_getD]
    cases hq : (L.getD (i / W) [])[i % W]? with
    | none => simp
    | some n =>
      simp only [Option.getD_some]
      have hm := List.mem_of_getElem? hq
      have : L.getD (i / W) [] ∈ L := by
        rw [List.getD_eq_getElem?_getD] at hm ⊢
        cases hq2 : L[i / W]? with
        | none => rw [hq2] at hm; simp at hm
        | some l => exact List.mem_of_getElem? hq2
      exact (h5 _ this).2 n hm
theorem rect_ok {W H : Nat} {num : Nat → Int} (h1 : 1 ≤ W) (h2 : W ≤ 16) (h3 : 1 ≤ H) (h4 : H ≤ 16) (h : ∀ i, i < W * H → 0 ≤ num i ∧ num i ≤ 99) : TableOk 99 (rect W H num) := by
  have e0 : (rect W H num).getD 0 [] = tab W fun x => num (0 * W + x) := by rw [List.getD_eq_getElem?_getD, rect_get (by omega)]; rfl
  refine ⟨by rw [rect_len]; omega, by rw [e0, tab_len]; omega, fun l hl => ?_⟩
  rw [e0, tab_len]
  obtain ⟨y, hy, rfl⟩ := mem_tab.1 hl
  refine ⟨tab_len _ _, fun n hn => ?_⟩
  obtain ⟨x, hx, rfl⟩ := mem_tab.1 hn
  refine h _ ?_
  have := Nat.mul_le_mul_right W (show y + 1 ≤ H from hy)
  rw [Nat.add_mul, Nat.one_mul, Nat.mul_comm H W] at this
  omega

/-- The grey picture at block p: its sizes, and its numbers in reading order. -/
structure GP (w : World) (p W H : Nat) (num : Nat → Int) (b0 : Nat) (rb : Nat → Nat) : Prop where
  ex : ∃ v, w.heap[p]? = some (row #[v] ty_impl_Grey) ∧ RR w v (rect W H num) b0 rb
  w1 : 1 ≤ W
  w2 : W ≤ 16
  h1 : 1 ≤ H
  h2 : H ≤ 16
section
variable {w : World} {p W H : Nat} {num : Nat → Int} {b0 : Nat} {rb : Nat → Nat}
theorem GP.mod {S : Nat → Prop} {w' : World} (h : GP w p W H num b0 rb) (hm : Mod S w w') (hp : ¬ S p) (h0 : ¬ S b0) (hr : ∀ y, y < H → ¬ S (rb y)) : GP w' p W H num b0 rb := by
  obtain ⟨⟨v, k1, k2⟩, a, b, c, d⟩ := h
  exact ⟨⟨v, hm.at_ k1 hp, k2.mod hm h0 (by rw [rect_len]; exact hr)⟩, a, b, c, d⟩
theorem GP.ext {w' : World} (h : GP w p W H num b0 rb) (hm : Ext w w') : GP w' p W H num b0 rb := h.mod hm id id fun _ _ => id
theorem GP.area (h : GP w p W H num b0 rb) : W * H ≤ 256 := Nat.mul_le_mul h.w2 h.h2
theorem sq_lt {x y : Nat} (hx : x < W) (hy : y < H) : y * W + x < W * H := by
  have := Nat.mul_le_mul_right W (show y + 1 ≤ H from hy)
  rw [Nat.add_mul, Nat.one_mul, Nat.mul_comm H W] at this
  omega

theorem gp_rows {T1 T2 : TypeId} {f : Nat} {K : Value → Prop} (hT : T1 = ty_impl_Grey ∧ T2 = ty_SSint64 ∧ f = 0) (h : GP w p W H num b0 rb) (hK : ∀ v, RR w v (rect W H num) b0 rb → K v) :
    pur Pg (Instr.fieldAt T1 (ptr p 0) f) fun t => rd Pg (Instr.loadAt T2 t) w K := by
  obtain ⟨rfl, rfl, rfl⟩ := hT
  obtain ⟨⟨v, k1, k2⟩, _⟩ := h
  refine fldi_i (by kernel_rfl) ?_
  exact ld_i (by kernel_rfl) k1 rfl (hK v k2)
theorem gp_rowsE {w1 : World} {T1 T2 : TypeId} {f : Nat} {K : Value → Prop} (hT : T1 = ty_impl_Grey ∧ T2 = ty_SSint64 ∧ f = 0) (h : GP w p W H num b0 rb) (he : Ext w w1) (hK : ∀ v, RR w v (rect W H num) b0 rb → K v) :
    pur Pg (Instr.fieldAt T1 (ptr p 0) f) fun t => rd Pg (Instr.loadAt T2 t) w1 K := by
  obtain ⟨rfl, rfl, rfl⟩ := hT
  obtain ⟨⟨v, k1, k2⟩, _⟩ := h
  refine fldi_i (by kernel_rfl) ?_
  exact ld_i (by kernel_rfl) (he.at_ k1) rfl (hK v k2)
theorem sizes_c {K : Value → World → Prop} (h : GP w p W H num b0 rb) (hK : ∀ w', Ext w w' → K (.tuple #[i64 W, i64 H]) w') : callS Pg n_Grey_sizes #[ptr p 0] w K := by
  refine call_Grey_sizes _ _ _ ?_
  unfold S_Grey_sizes
  refine drawS_i ?_
  have hd := (Same.drew w).ext
  have := h.h1
  refine nilS_i ?_
  refine gp_rows ⟨rfl, rfl, rfl⟩ (h.ext hd) fun v hv => ?_
  refine rr_row ⟨rfl, rfl⟩ hv (by omega) (rect_get (by omega)) fun u hu => ?_
  refine int_len rfl hu ?_
  rw [tab_len]
  refine nilS_i ?_
  refine gp_rows ⟨rfl, rfl, rfl⟩ (h.ext hd) fun v hv => ?_
  refine rr_len rfl hv ?_
  rw [rect_len]
  exact hK _ hd
theorem spot_box {T : TypeId} {q : Int × Int} {K : Value → World → Prop} (hT : T = ty_impl_Spot) (hK : ∀ b w1, New w w1 b (row #[i64 q.1, i64 q.2] ty_impl_Spot) → K (ptr b 0) w1) : eff Pg (Instr.box T (pairV q)) w K := by
  subst hT
  exact box_i fun b w1 h1 => hK b w1 h1
/-- A number by its spot. -/
theorem at_c {x y : Nat} {K : Value → World → Prop} (h : GP w p W H num b0 rb) (hx : x < W) (hy : y < H) (hK : ∀ w', Ext w w' → K (i64 (num (y * W + x))) w') : callS Pg n_Grey_at #[ptr p 0, pairV ((x : Int), (y : Int))] w K := by
  refine call_Grey_at _ _ _ _ ?_
  unfold S_Grey_at
  refine spot_box rfl fun sb w1 h1 => ?_
  refine drawS_i ?_
  have hd : Ext w w1.drew := h1.ext.trans (Same.drew w1).ext
  have hs : w1.drew.heap[sb]? = _ := h1.at_
  generalize w1.drew = w2 at hd hs ⊢
  refine nilS_i ?_
  refine gp_rows ⟨rfl, rfl, rfl⟩ (h.ext hd) fun v hv => ?_
  refine fldi_i (by kernel_rfl) (ld_i (by kernel_rfl) hs rfl ?_)
  refine rr_row ⟨rfl, rfl⟩ hv (by omega) (rect_get (y := y) hy) fun u hu => ?_
  refine fldi_i (by kernel_rfl) (ld_i (by kernel_rfl) hs rfl ?_)
  refine int_get ⟨rfl, rfl⟩ hu (by omega) (tab_get (i := x) hx) ?_
  exact hK w2 hd
theorem place_c {x y : Nat} {K : Value → World → Prop} (h : GP w p W H num b0 rb) (hx : x < W) (hy : y < H) (hK : ∀ w', Ext w w' → K (i64 ((y * W + x : Nat) : Int)) w') : callS Pg n_Grey_place #[ptr p 0, pairV ((x : Int), (y : Int))] w K := by
  refine call_Grey_place _ _ _ _ ?_
  unfold S_Grey_place
  refine spot_box rfl fun sb w1 h1 => ?_
  refine sizes_c (h.ext h1.ext) fun w2 he2 => ?_
  have hs : w2.heap[sb]? = some (row #[i64 (x : Int), i64 (y : Int)] ty_impl_Spot) := he2.at_ h1.at_
  have ha := sq_lt hx hy
  have := h.area
  refine ext_i rfl (ext_i rfl ?_)
  refine fldi_i (by kernel_rfl) (ld_i (by kernel_rfl) hs rfl ?_)
  have e : ((y : Int)) * (W : Int) = ((y * W : Nat) : Int) := (Int.natCast_mul y W).symm
  refine mul_i (.of (by omega) (by omega)) ?_
  refine fldi_i (by kernel_rfl) (ld_i (by kernel_rfl) hs rfl ?_)
  refine add_i (.of (by omega) (by omega)) ?_
  rw [e, show ((y * W : Nat) : Int) + x = ((y * W + x : Nat) : Int) by omega]
  exact hK w2 (h1.ext.trans he2)
theorem hasG_c {q : Int × Int} {K : Value → World → Prop} (h : GP w p W H num b0 rb) (hK : ∀ w', Ext w w' → K (.bool (decide (0 ≤ q.1 ∧ q.1 < W ∧ 0 ≤ q.2 ∧ q.2 < H))) w') : callS Pg n_Grey_has #[ptr p 0, pairV q] w K := by
  refine call_Grey_has _ _ _ _ ?_
  unfold S_Grey_has
  refine spot_box rfl fun sb w1 h1 => ?_
  refine sizes_c (h.ext h1.ext) fun w2 he2 => ?_
  have hs := he2.at_ h1.at_
  have := h.w2; have := h.h2
  have hE := h1.ext.trans he2
  refine ext_i rfl (ext_i rfl ?_)
  refine fldi_i (by kernel_rfl) (ld_i (by kernel_rfl) hs rfl ?_)
  refine sub_i (.of (by omega) (by omega)) ?_
  refine in_c ?_
  rw [joinS_eq]
  refine ifG_t (fun hb => ?_) (fun hb => ?_)
  · refine fldi_i (by kernel_rfl) (ld_i (by kernel_rfl) hs rfl ?_)
    refine sub_i (.of (by omega) (by omega)) ?_
    refine in_c ?_
    intro g
    rw [hb, pickS_eq, nth0, cond_true]
    have hb := of_decide_eq_true hb
    have e : decide (0 ≤ q.1 ∧ q.1 < (W : Int) ∧ 0 ≤ q.2 ∧ q.2 < (H : Int)) = decide (0 ≤ q.2 ∧ q.2 ≤ (H : Int) - 1) := decide_eq_decide.2 (by omega)
    rw [← e]; exact hK w2 hE
  · intro g
    rw [hb, pickS_eq, cond_false]
    have hb := of_decide_eq_false hb
    have e : decide (0 ≤ q.1 ∧ q.1 < (W : Int) ∧ 0 ≤ q.2 ∧ q.2 < (H : Int)) = false := decide_eq_false (by omega)
    rw [← e]; exact hK w2 hE

/-- The spot of a place. -/
def sp (W i : Nat) : Int × Int := (((i % W : Nat) : Int), ((i / W : Nat) : Int))
theorem sp_sq {x y : Nat} (hx : x < W) : sp W (y * W + x) = ((x : Int), (y : Int)) := by
  unfold sp
  rw [Nat.add_comm, Nat.add_mul_mod_self_right, Nat.mod_eq_of_lt hx, Nat.add_mul_div_right _ _ (by omega), Nat.div_eq_of_lt hx, Nat.zero_add]
theorem tab_add {α : Type} (a b : Nat) (f : Nat → α) : tab (a + b) f = tab a f ++ tab b (fun x => f (a + x)) := by
  unfold tab
  rw [List.range_add, List.map_append, List.map_map]; rfl
theorem tab_succ {α : Type} (a : Nat) (f : Nat → α) : tab (a + 1) f = tab a f ++ [f a] := by rw [tab_add]; rfl

theorem spotsG_c {K : Value → World → Prop} (h : GP w p W H num b0 rb) (hK : ∀ v c w', Ext w w' → w.heap.size ≤ c → OwnSpots w' v (tab (W * H) (sp W)) c → K v w') : callS Pg n_Grey_spots #[ptr p 0] w K := by
  refine call_Grey_spots _ _ _ ?_
  unfold S_Grey_spots
  have hwl := h.w2; have hhl := h.h2; have ha := h.area
  refine spots_nil_i rfl fun v0 c0 w1 he1 hc1 hv1 => ?_
  refine nilS_i ?_
  refine gp_rowsE ⟨rfl, rfl, rfl⟩ h he1 fun rv hrv => ?_
  refine rr_len rfl (hrv.ext he1) ?_
  rw [rect_len]
  refine loopS_i (fun s w' => ∃ (v : Value) (y : Nat) (c : Nat), s = [v, i64 y] ∧ y ≤ H ∧ w.heap.size ≤ c ∧ OwnSpots w' v (tab (y * W) (sp W)) c ∧ Ext w w') (fun s _ => H - (intOf (nth s 1)).toNat) ⟨v0, 0, c0, rfl, by omega, hc1, by rw [Nat.zero_mul]; exact hv1, he1⟩ ?_
  rintro g s w2 ⟨v, y, c, rfl, hy, hc, hv, hE⟩
  rw [nth0, nth1]
  refine lss_i (ifB_i (fun hlt => ?_) (fun hlt => ?_))
  · have hyH : y < H := by omega
    refine rr_row ⟨rfl, rfl⟩ (hrv.ext hE) (by omega) (rect_get (y := y) hyH) fun u hu => ?_
    refine int_len rfl hu ?_
    rw [tab_len]
    clear hu
    refine loopS_i (fun s w' => ∃ (v : Value) (x : Nat) (c : Nat), s = [v, i64 x] ∧ x ≤ W ∧ w.heap.size ≤ c ∧ OwnSpots w' v (tab (y * W + x) (sp W)) c ∧ Ext w w') (fun s _ => W - (intOf (nth s 1)).toNat) ⟨v, 0, c, rfl, by omega, hc, hv, hE⟩ ?_
    rintro g2 s2 w3 ⟨v, x, c, rfl, hx, hc, hv, hE⟩
    rw [nth0, nth1]
    refine lss_i (ifB_i (fun hlt2 => ?_) (fun hlt2 => ?_))
    · have hxW : x < W := by omega
      have hsq := sq_lt hxW hyH
      refine build_i rfl rfl ?_
      refine spots_app_i (p := ((x : Int), (y : Int))) ⟨rfl, rfl, rfl⟩ hv (by rw [tab_len]; omega) fun v' w4 c' hor hm hv' => ?_
      refine add_i (.of (by omega) (by omega)) ?_
      refine ⟨⟨v', x + 1, c', rfl, by omega, by have := hE.size; rcases hor with rfl | h' <;> omega, ?_, hE.own hm hc⟩, by simp only [nth1, intOf]; omega⟩
      rw [← Nat.add_assoc, tab_succ, sp_sq hxW]
      exact hv'
    · have : x = W := by omega
      subst this
      refine add_i (.of (by omega) (by omega)) ?_
      refine ⟨⟨v, y + 1, c, rfl, by omega, hc, ?_, hE⟩, by simp only [nth1, intOf]; omega⟩
      rw [Nat.add_mul, Nat.one_mul]; exact hv
  · have : y = H := by omega
    subst this
    rw [Nat.mul_comm] at hv
    exact hK v c w2 hE hc hv
theorem l07Is_c {v : Value} {L : List (List Int)} {K : Value → World → Prop} (hp : w.heap[p]? = some (row #[v] ty_impl_Grey)) (h : RR w v L b0 rb) (hL : L.length ≤ 1000000000) (hl : ∀ l ∈ L, l.length ≤ 1000000000) (hK : ∀ w', Ext w w' → K (.bool (decide (TableOk 99 L))) w') : callS Pg n_l07Is #[ptr p 0] w K := by
  refine call_l07Is _ _ _ ?_
  unfold S_l07Is
  refine nilS_i (fldi_i (by kernel_rfl) (ld_i (by kernel_rfl) hp rfl ?_))
  exact l07Table_c h hL hl hK
theorem validGrey_c {v : Value} {L : List (List Int)} {K : Value → World → Prop} (h : RR w v L b0 rb) (hL : L.length ≤ 1000000000) (hl : ∀ l ∈ L, l.length ≤ 1000000000) (hK : ∀ w', Ext w w' → K (.bool (decide (TableOk 99 L))) w') : callS Pg n_impl_ValidGrey #[.agg #[v]] w K := by
  refine call_impl_ValidGrey _ _ _ ?_
  unfold S_impl_ValidGrey
  refine box_i fun q w1 h1 => ?_
  refine fldi_i (by kernel_rfl) (ld_i (by kernel_rfl) h1.at_ rfl ?_)
  exact rowsOk_c (h.ext h1.ext) hL hl fun w2 he2 => hK w2 (h1.ext.trans he2)
theorem l07Width_c {K : Value → World → Prop} (h : GP w p W H num b0 rb) (hK : K (i64 W) w) : callS Pg n_l07Width #[ptr p 0] w K := by
  refine call_l07Width _ _ _ ?_
  unfold S_l07Width
  have := h.h1
  refine nilS_i ?_
  refine gp_rows ⟨rfl, rfl, rfl⟩ h fun v hv => ?_
  refine rr_row ⟨rfl, rfl⟩ hv (by omega) (rect_get (by omega)) fun u hu => ?_
  refine int_len rfl hu ?_
  rw [tab_len]; exact hK
theorem ints_one (l : List Int) : ∀ v ∈ l.map i64, one v = true := by intro v hv; obtain ⟨n, _, rfl⟩ := List.mem_map.1 hv; rfl
theorem l07List_c {v : Value} {K : Value → World → Prop} (h : RR w v (rect W H num) b0 rb) (h1 : W ≤ 16) (h2 : H ≤ 16) (hK : ∀ v' c w', Ext w w' → w.heap.size ≤ c → Sl1 w' ty_int64 v' ((tab (W * H) num).map i64) c → K v' w') : callS Pg n_l07List #[v] w K := by
  refine call_l07List _ _ _ ?_
  unfold S_l07List
  have ha : W * H ≤ 256 := Nat.mul_le_mul h1 h2
  refine sl1_nil (E := ty_int64) (by kernel_rfl) fun v0 c0 w1 he1 hc1 hv1 => ?_
  refine loopS_i (fun s w' => ∃ (u : Value) (y : Nat) (c : Nat), s = [u, i64 y] ∧ y ≤ H ∧ w.heap.size ≤ c ∧ Sl1 w' ty_int64 u ((tab (y * W) num).map i64) c ∧ Ext w w') (fun s _ => H - (intOf (nth s 1)).toNat) ⟨v0, 0, c0, rfl, by omega, hc1, by rw [Nat.zero_mul]; exact hv1, he1⟩ ?_
  rintro g s w2 ⟨u, y, c, rfl, hy, hc, hu, hE⟩
  rw [nth0, nth1]
  refine rr_len rfl (h.ext hE) ?_
  rw [rect_len]
  refine lss_i (ifB_i (fun hlt => ?_) (fun hlt => ?_))
  · have hyH : y < H := by omega
    have hmul := Nat.mul_le_mul_right W (show y + 1 ≤ H from hyH)
    rw [Nat.add_mul, Nat.one_mul, Nat.mul_comm H W] at hmul
    refine rr_row ⟨rfl, rfl⟩ (h.ext hE) (by omega) (rect_get (y := y) hyH) fun r hr => ?_
    refine sl1_app2 (E := ty_int64) (by kernel_rfl) hu hr (ints_one _) (by rw [List.length_map, List.length_map, tab_len, tab_len]; omega) fun v' w3 c' hor hm hv' => ?_
    refine add_i (.of (by omega) (by omega)) ?_
    refine ⟨⟨v', y + 1, c', rfl, by omega, by have := hE.size; rcases hor with rfl | h' <;> omega, ?_, hE.own hm hc⟩, by simp only [nth1, intOf]; omega⟩
    rw [Nat.add_mul, Nat.one_mul, tab_add, List.map_append]
    exact hv'
  · have : y = H := by omega
    subst this
    rw [Nat.mul_comm] at hu
    exact hK u c w2 hE hc hu
theorem l00Own_c {u : Value} {l : List Int} {b : Nat} {K : Value → World → Prop} (h : Sl1 w ty_int64 u (l.map i64) b) (hl : l.length ≤ 100000) (hK : ∀ v' c w', Ext w w' → w.heap.size ≤ c → Sl1 w' ty_int64 v' (l.map i64) c → K v' w') : callS Pg n_l00Own #[u] w K := by
  refine call_l00Own _ _ _ ?_
  unfold S_l00Own
  refine sl1_nil (E := ty_int64) (by kernel_rfl) fun v0 c0 w1 he1 hc1 hv1 => ?_
  refine sl1_app2 (E := ty_int64) (by kernel_rfl) hv1 (h.ext he1) (ints_one _) (by rw [List.length_map]; simp; omega) fun v' w3 c' hor hm hv' => ?_
  exact hK v' c' w3 (he1.own hm hc1) (by have := he1.size; rcases hor with rfl | h' <;> omega) hv'
end
end Go.Proofs.Ytfdmphgbodmkpaa
