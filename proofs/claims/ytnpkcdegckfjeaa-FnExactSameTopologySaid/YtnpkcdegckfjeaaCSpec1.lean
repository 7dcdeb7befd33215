/- Contracts of the reference's pictures: sizes, pixels, lists. -/
import Derived.Test.YtnpkcdegckfjeaaCSpread
namespace Go.Proofs.Ytnpkcdegckfjeaa
open Go Go.SL Go.RowKit
set_option maxRecDepth 100000

def byteOf (b : Bool) : UInt8 := if b then 35 else 46
/-- Rows of text as W times H pixels. -/
structure IsPic (rows : List ByteArray) (W H : Nat) (px : List Bool) : Prop where
  rl : rows.length = H
  len : px.length = W * H
  w1 : 1 ≤ W
  h1 : 1 ≤ H
  wb : W ≤ 1000
  hb : H ≤ 1000
  each : ∀ y, y < H → ∃ r, rows[y]? = some r ∧ r.size = W ∧ ∀ x, x < W → r[x]? = some (byteOf (px.getD (y * W + x) false))
/-- The picture in block p, its rows in block b. -/
structure SPic (w : World) (p b W H : Nat) (px : List Bool) : Prop where
  ex : ∃ v rows, w.heap[p]? = some (row #[v] ty_impl_Picture) ∧ Sl1 w ty_string v (rows.map Value.string) b ∧ IsPic rows W H px
theorem SPic.mod {S : Nat → Prop} {w w' : World} {p b W H : Nat} {px : List Bool} (h : SPic w p b W H px) (hm : Mod S w w') (h1 : ¬ S p) (h2 : ¬ S b) : SPic w' p b W H px := by
  obtain ⟨v, rows, a1, a2, a3⟩ := h
  exact ⟨v, rows, hm.at_ a1 h1, a2.mod hm h2, a3⟩
theorem SPic.ext {w w' : World} {p b W H : Nat} {px : List Bool} (h : SPic w p b W H px) (hm : Ext w w') : SPic w' p b W H px := h.mod hm id id
theorem SPic.bounds {w : World} {p b W H : Nat} {px : List Bool} (h : SPic w p b W H px) : 1 ≤ W ∧ W ≤ 1000 ∧ 1 ≤ H ∧ H ≤ 1000 ∧ px.length = W * H := by
  obtain ⟨v, rows, _, _, a⟩ := h; exact ⟨a.w1, a.wb, a.h1, a.hb, a.len⟩
theorem SPic.lt {w : World} {p b W H : Nat} {px : List Bool} (h : SPic w p b W H px) : p < w.heap.size ∧ b < w.heap.size := by
  obtain ⟨v, rows, a1, a2, _⟩ := h; exact ⟨lt_of_at a1, a2.lt⟩

/-- p.Rows -/
theorem rows_i {w : World} {p b W H : Nat} {px : List Bool} {K : Value → Prop} (h : SPic w p b W H px) (hK : ∀ v rows, Sl1 w ty_string v (rows.map Value.string) b → IsPic rows W H px → K v) :
    pur Pg (Instr.fieldAt ty_impl_Picture (ptr p 0) 0) fun t => rd Pg (Instr.loadAt ty_Sstring t) w K := by
  obtain ⟨v, rows, a1, a2, a3⟩ := h
  refine fldi_i (by kernel_rfl) ?_
  exact ld_i (by kernel_rfl) a1 rfl (hK v rows a2 a3)
/-- p.Rows[y] -/
theorem rowAt_i {w : World} {v : Value} {rows : List ByteArray} {b W H : Nat} {px : List Bool} {y : Int} {K : Value → Prop} (hs : Sl1 w ty_string v (rows.map Value.string) b) (hp : IsPic rows W H px) (h0 : 0 ≤ y) (h1 : y < H)
    (hK : ∀ r : ByteArray, r.size = W → (∀ x, x < W → r[x]? = some (byteOf (px.getD (y.toNat * W + x) false))) → K (.string r)) :
    pur Pg (Instr.indexAt ty_Sstring v (i64 y)) fun t => rd Pg (Instr.loadAt ty_string t) w K := by
  obtain ⟨r, h2, h3, h4⟩ := hp.each y.toNat (by omega)
  exact sl1_get (x := .string r) (by kernel_rfl) (by kernel_rfl) hs h0 (by simp [h2]) (hK r h3 h4)

theorem l00In_c {a lo hi : Int} {w : World} {K : Value → World → Prop} (hK : K (.bool (decide (lo ≤ a ∧ a ≤ hi))) w) : callS Pg n_l00In #[i64 a, i64 lo, i64 hi] w K := by
  refine call_l00In _ _ _ _ _ ?_
  unfold S_l00In
  by_cases h1 : lo ≤ a <;> by_cases h2 : a ≤ hi <;> simp only [pur_geq, pur_leq, joinS_eq, ifG_eq_t, pickS_eq, nth0, all_fr, h1, h2, decide_true, decide_false, cond_true, cond_false, if_true, if_false, Bool.false_eq_true, and_self, and_true, true_and, and_false] at hK ⊢ <;> exact hK
theorem l01Side_c {a : Int} {w : World} {K : Value → World → Prop} (hK : K (.bool (decide (1 ≤ a ∧ a ≤ 16))) w) : callS Pg n_l01Side #[i64 a] w K := by
  refine call_l01Side _ _ _ ?_
  unfold S_l01Side
  exact l00In_c hK
theorem l00Max_c {a b : Int} {w : World} {K : Value → World → Prop} (hK : K (i64 (max a b)) w) : callS Pg n_l00Max #[i64 a, i64 b] w K := by
  refine call_l00Max _ _ _ _ ?_
  unfold S_l00Max
  refine gtr_i (ifB_i (fun h => ?_) (fun h => ?_))
  · rw [Int.max_eq_left (by omega)] at hK; exact hK
  · rw [Int.max_eq_right (by omega)] at hK; exact hK
theorem l01Width_c {w : World} {p b W H : Nat} {px : List Bool} {K : Value → World → Prop} (h : SPic w p b W H px) (hK : K (i64 W) w) : callS Pg n_l01Width #[ptr p 0] w K := by
  refine call_l01Width _ _ _ ?_
  unfold S_l01Width
  refine nilS_i ?_
  have hb := h.bounds
  refine rows_i h fun v rows hs hp => ?_
  refine rowAt_i hs hp (by omega) (by omega) fun r hr _ => ?_
  refine lenStr_i (by kernel_rfl) ?_
  rw [hr]; exact hK
theorem l01Height_c {w : World} {p b W H : Nat} {px : List Bool} {K : Value → World → Prop} (h : SPic w p b W H px) (hK : K (i64 H) w) : callS Pg n_l01Height #[ptr p 0] w K := by
  refine call_l01Height _ _ _ ?_
  unfold S_l01Height
  refine nilS_i ?_
  refine rows_i h fun v rows hs hp => ?_
  refine sl1_len (by kernel_rfl) hs ?_
  rw [List.length_map, hp.rl]; exact hK
theorem l01Has_c {w : World} {p b W H : Nat} {px : List Bool} {x y : Int} {K : Value → World → Prop} (h : SPic w p b W H px) (hK : K (.bool (decide (0 ≤ x ∧ x < W ∧ 0 ≤ y ∧ y < H))) w) : callS Pg n_l01Has #[ptr p 0, i64 x, i64 y] w K := by
  refine call_l01Has _ _ _ _ _ ?_
  unfold S_l01Has
  have hb := h.bounds
  refine l01Width_c h ?_
  refine sub_i (.of (by omega) (by omega)) ?_
  refine l00In_c ?_
  rw [joinS_eq]
  refine ifG_t (fun h1 => ?_) (fun h1 => ?_)
  · refine l01Height_c h ?_
    refine sub_i (.of (by omega) (by omega)) ?_
    refine l00In_c ?_
    intro g
    rw [pickS_eq, nth0, h1, cond_true]
    simp only [decide_eq_true_eq] at h1
    have : decide (0 ≤ x ∧ x < (W : Int) ∧ 0 ≤ y ∧ y < (H : Int)) = decide (0 ≤ y ∧ y ≤ (H : Int) - 1) := decide_eq_decide.2 (by omega)
    rw [← this]; exact hK
  · intro g
    rw [pickS_eq, h1, cond_false]
    simp only [decide_eq_false_iff_not] at h1
    have : decide (0 ≤ x ∧ x < (W : Int) ∧ 0 ≤ y ∧ y < (H : Int)) = false := decide_eq_false (by omega)
    rw [← this]; exact hK
theorem byteOf_35 (b : Bool) : (decide (((byteOf b).toNat : Int) = 35)) = b := by cases b <;> rfl
theorem l01Black_c {w : World} {p b W H : Nat} {px : List Bool} {x y : Int} {K : Value → World → Prop} (h : SPic w p b W H px) (hK : K (.bool (pixel W H px x y)) w) : callS Pg n_l01Black #[ptr p 0, i64 x, i64 y] w K := by
  refine call_l01Black _ _ _ _ _ ?_
  unfold S_l01Black
  refine l01Has_c h ?_
  rw [joinS_eq]
  refine ifG_t (fun h1 => ?_) (fun h1 => ?_)
  · have hin := of_decide_eq_true h1
    refine nilS_i ?_
    refine rows_i h fun v rows hs hp => ?_
    refine rowAt_i hs hp (by omega) (by omega) fun r hr hrx => ?_
    refine idxStr_i (by kernel_rfl) hin.1 (hrx x.toNat (by omega)) ?_
    refine eql_i ?_
    intro g
    rw [pickS_eq, nth0, h1, cond_true, byteOf_35]
    have : pixel W H px x y = px.getD (y.toNat * W + x.toNat) false := by unfold pixel; rw [h1, Bool.true_and]
    rw [← this]; exact hK
  · intro g
    rw [pickS_eq, h1, cond_false]
    have : pixel W H px x y = false := by unfold pixel; rw [h1, Bool.false_and]
    rw [← this]; exact hK

theorem boolv_one (l : List Bool) : ∀ v ∈ l.map Value.bool, one v = true := by intro v hv; obtain ⟨b, _, rfl⟩ := List.mem_map.1 hv; rfl

theorem l01List_c {w : World} {p b W H : Nat} {px : List Bool} {K : Value → World → Prop} (h : SPic w p b W H px) (hK : ∀ v c w', Ext w w' → w.heap.size ≤ c → Sl1 w' ty_bool v (px.map Value.bool) c → K v w') : callS Pg n_l01List #[ptr p 0] w K := by
  refine call_l01List _ _ _ ?_
  unfold S_l01List
  have hb := h.bounds
  have hmb := mul_bound hb.2.1 hb.2.2.2.1
  refine sl1_nil (E := ty_bool) (by kernel_rfl) fun v0 c0 w0 he0 hc0 hv0 => ?_
  refine loopS_i (fun s w' => ∃ (v : Value) (y : Nat) (c : Nat), s = [v, i64 y] ∧ y ≤ H ∧ Ext w w' ∧ w.heap.size ≤ c ∧ Sl1 w' ty_bool v ((px.take (y * W)).map Value.bool) c) (fun s _ => H - (intOf (nth s 1)).toNat) ⟨v0, 0, c0, rfl, by omega, he0, hc0, by simpa using hv0⟩ ?_
  rintro g s w1 ⟨v, y, c, rfl, hy, hE, hc, hv⟩
  rw [nth1, nth0]
  refine nilS_i ?_
  refine rows_i (h.ext hE) fun vr rows hs hp => ?_
  refine sl1_len (by kernel_rfl) hs ?_
  rw [List.length_map, hp.rl]
  refine lss_i (ifB_i (fun hlt => ?_) (fun hlt => ?_))
  · have hyH : y + 1 ≤ H := by omega
    have hmul := Nat.mul_le_mul_right W hyH
    rw [Nat.add_mul, Nat.one_mul, Nat.mul_comm H W] at hmul
    refine loopS_i (fun s w' => ∃ (v : Value) (x : Nat) (c : Nat), s = [v, i64 x] ∧ x ≤ W ∧ Ext w w' ∧ w.heap.size ≤ c ∧ Sl1 w' ty_bool v ((px.take (y * W + x)).map Value.bool) c) (fun s _ => W - (intOf (nth s 1)).toNat) ⟨v, 0, c, rfl, by omega, hE, hc, by simpa using hv⟩ ?_
    clear hs hp
    rintro g' s' w2 ⟨v, x, c, rfl, hx, hE2, hc, hv2⟩
    rw [nth1, nth0]
    refine nilS_i ?_
    refine rows_i (h.ext hE2) fun vr rows hs hp => ?_
    refine rowAt_i hs hp (by omega) (by omega) fun r hr hrx => ?_
    refine lenStr_i (by kernel_rfl) ?_
    rw [hr]
    refine lss_i (ifB_i (fun hlt2 => ?_) (fun hlt2 => ?_))
    · refine nilS_i ?_
      refine rows_i (h.ext hE2) fun vr rows hs hp => ?_
      refine rowAt_i hs hp (by omega) (by omega) fun r hr hrx => ?_
      refine idxStr_i (by kernel_rfl) (by omega) (hrx x (by omega)) ?_
      refine eql_i ?_
      rw [byteOf_35]
      have hlen : ((px.take (y * W + x)).map Value.bool).length = y * W + x := by rw [List.length_map, List.length_take, hb.2.2.2.2]; omega
      refine sl1_app (E := ty_bool) (by kernel_rfl) rfl hv2 (by rw [hlen]; omega) fun v' w3 c' hor hm hv3 => ?_
      refine add_i (.of (by omega) (by omega)) ?_
      refine ⟨⟨v', x + 1, c', rfl, by omega, hE2.own hm hc, by have := hE2.size; rcases hor with rfl | h' <;> omega, ?_⟩, ?_⟩
      · have e : px.take (y * W + (x + 1)) = px.take (y * W + x) ++ [px.getD (y * W + x) false] := by
          rw [← Nat.add_assoc, List.take_succ_eq_append_getElem (by rw [hb.2.2.2.2]; omega)]
          congr 2
          rw [List.getD_eq_getElem?_getD, List.getElem?_eq_getElem (by rw [hb.2.2.2.2]; omega)]; rfl
        rw [e, List.map_append]
        simpa using hv3
      · simp only [nth1, intOf]; omega
    · have : x = W := by omega
      subst this
      refine add_i (.of (by omega) (by omega)) ?_
      refine ⟨⟨v, y + 1, c, rfl, by omega, hE2, hc, by rw [Nat.add_mul, Nat.one_mul]; exact hv2⟩, ?_⟩
      simp only [nth1, intOf]; omega
  · have : y = H := by omega
    subst this
    rw [List.take_of_length_le (by rw [hb.2.2.2.2, Nat.mul_comm]; exact Nat.le_refl _)] at hv
    exact hK v c w1 hE hc hv
end Go.Proofs.Ytnpkcdegckfjeaa
