/- Contracts of grey pictures, continued: rows are made; neighbours of a place. -/
import Derived.Test.YtfdmphgbodmkpaaCGrey2
import Derived.Test.YtfdmphgbodmkpaaPrim11
set_option linter.unusedVariables false
set_option linter.unusedSimpArgs false
namespace Go.Proofs.Ytfdmphgbodmkpaa
open Go Go.SL Go.RowKit
set_option maxRecDepth 100000

theorem rr_nil {w : World} {T : TypeId} {K : Value → World → Prop} (hT : T = ty_SSint64) (hK : ∀ v b w1, Ext w w1 → w.heap.size ≤ b → (∀ rb, RR w1 v [] b rb) → K v w1) : eff Pg (Instr.buildSlice T 0 #[]) w K := by
  subst hT
  refine sl1_nil (E := ty_Sint64) (by kernel_rfl) fun v b w1 he hb hv => ?_
  exact hK v b w1 he hb fun rb => ⟨[], hv, rfl, fun y l hl => by simp at hl⟩
/-- One row more. -/
theorem rr_app {w : World} {T1 T2 T3 ty : TypeId} {v u : Value} {L : List (List Int)} {l : List Int} {b0 r : Nat} {rb : Nat → Nat} {K : Value → World → Prop} (hT : T1 = ty_SSint64 ∧ T2 = ty_SSint64 ∧ T3 = ty_SSint64) (h : RR w v L b0 rb) (hu : Sl1 w ty_int64 u (l.map i64) r) (hn : L.length < 1000000)
    (hK : ∀ v' w' b', (b' = b0 ∨ w.heap.size ≤ b') → Mod (· = b0) w w' → RR w' v' (L ++ [l]) b' (upd rb L.length r) → K v' w') :
    eff Pg (Instr.buildSlice T1 1 #[(0, u)]) w fun t w => eff Pg (Builtin.append_ #[T2, T3] ty #[v, t]) w K := by
  obtain ⟨rfl, rfl, rfl⟩ := hT
  have hne : ∀ y, y < L.length → b0 ≠ rb y := fun y hy => h.ne hy
  obtain ⟨us, h1, h2, h3⟩ := h
  refine sl1_app (E := ty_Sint64) (by kernel_rfl) hu.one h1 (by omega) fun v' w' b' hor hm h' => ?_
  have hur : b0 ≠ r := fun e => by
    obtain ⟨c1, q1⟩ := h1.cells
    obtain ⟨c2, q2⟩ := hu.cells
    rw [e] at q1
    exact at_ne q1 q2 (by decide) rfl
  refine hK v' w' b' hor hm ⟨us ++ [u], h', by simp [h2], fun y l' hl => ?_⟩
  by_cases hy : y < L.length
  · rw [List.getElem?_append_left hy] at hl
    obtain ⟨u', k1, k2⟩ := h3 y l' hl
    refine ⟨u', by rw [List.getElem?_append_left (by omega)]; exact k1, ?_⟩
    unfold upd
    rw [if_neg (by omega)]
    exact k2.mod hm (fun e => hne y hy e.symm)
  · have hyl : y = L.length := by
      have := (List.getElem?_eq_some_iff.1 hl).1
      simp at this; omega
    subst hyl
    rw [List.getElem?_append_right (Nat.le_refl _), Nat.sub_self, List.getElem?_cons_zero, Option.some.injEq] at hl
    subst hl
    refine ⟨u, by rw [← h2, List.getElem?_append_right (Nat.le_refl _), Nat.sub_self]; rfl, ?_⟩
    unfold upd
    rw [if_pos rfl]
    exact hu.mod hm (fun e => hur e.symm)

/-- Rows that nobody else has. -/
structure Fresh (n : Nat) (b0 : Nat) (rb : Nat → Nat) (H : Nat) : Prop where
  b : n ≤ b0
  r : ∀ y, y < H → n ≤ rb y
  inj : ∀ y z, y < H → z < H → rb y = rb z → y = z

theorem l07Rows_c {w : World} {W H b : Nat} {num : Nat → Int} {u : Value} {K : Value → World → Prop} (h : Sl1 w ty_int64 u ((tab (W * H) num).map i64) b) (h1 : 1 ≤ W) (h2 : W ≤ 16) (h4 : H ≤ 16)
    (hK : ∀ v b0 rb w', Ext w w' → Fresh w.heap.size b0 rb H → RR w' v (rect W H num) b0 rb → K v w') : callS Pg n_l07Rows #[i64 W, u] w K := by
  refine call_l07Rows _ _ _ _ ?_
  unfold S_l07Rows
  have ha : W * H ≤ 256 := Nat.mul_le_mul h2 h4
  refine rr_nil rfl fun v0 c0 w1 he1 hc1 hv1 => ?_
  refine loopS_i (fun s w' => ∃ (v : Value) (y c : Nat) (rb : Nat → Nat), s = [v, i64 ((y * W : Nat) : Int)] ∧ y ≤ H ∧ Ext w w' ∧ Fresh w.heap.size c rb y ∧ RR w' v (tab y fun j => tab W fun x => num (j * W + x)) c rb) (fun s _ => W * H - (intOf (nth s 1)).toNat) ⟨v0, 0, c0, fun _ => 0, by simp, by omega, he1, ⟨hc1, fun y z => by omega, fun y z p => by omega⟩, hv1 _⟩ ?_
  rintro g s w2 ⟨v, y, c, rb, rfl, hy, hE, hF, hv⟩
  rw [nth0, nth1]
  have hyW : y * W ≤ W * H := by rw [Nat.mul_comm W H]; exact Nat.mul_le_mul_right W hy
  refine int_len rfl (h.ext hE) ?_
  rw [tab_len]
  refine lss_i (ifB_i (fun hlt => ?_) (fun hlt => ?_))
  · have hyH : y < H := by
      rcases Nat.lt_or_ge y H with k | k
      · exact k
      · have := Nat.mul_le_mul_right W k; rw [Nat.mul_comm H W] at this; omega
    have hmul := Nat.mul_le_mul_right W (show y + 1 ≤ H from hyH)
    rw [Nat.add_mul, Nat.one_mul, Nat.mul_comm H W] at hmul
    refine add_i (.of (by omega) (by omega)) ?_
    rw [show ((y * W : Nat) : Int) + W = ((y * W + W : Nat) : Int) by omega]
    refine sl1_sub (E := ty_int64) (by kernel_rfl) (h.ext hE) (by omega) (by rw [List.length_map, tab_len]; omega) fun uv huv => ?_
    have e : ((((tab (W * H) num).map i64).drop (y * W)).take (y * W + W - y * W)) = (tab W fun x => num (y * W + x)).map i64 := by
      rw [Nat.add_sub_cancel_left, show W * H = y * W + (W + (W * H - (y * W + W))) by omega, tab_add, tab_add, List.map_append, List.map_append, List.drop_left' (by rw [List.length_map, tab_len]), List.take_left' (by rw [List.length_map, tab_len])]
    rw [e] at huv
    refine l00Own_c huv (by rw [tab_len]; omega) fun ov oc w3 he3 hoc hov => ?_
    refine rr_app ⟨rfl, rfl, rfl⟩ (hv.ext he3) hov (by rw [tab_len]; omega) fun v' w4 c' hor hm hv' => ?_
    rw [tab_len] at hv'
    rw [← tab_succ y (fun j => tab W fun x => num (j * W + x))] at hv'
    refine add_i (.of (by omega) (by omega)) ?_
    have z2 := hE.size; have z3 := he3.size; have zc := hF.b
    refine ⟨⟨v', y + 1, c', upd rb y oc, by rw [Nat.add_mul, Nat.one_mul, show ((y * W : Nat) : Int) + W = ((y * W + W : Nat) : Int) by omega], by omega, (hE.trans he3).own hm hF.b, ⟨?_, fun j hj => ?_, fun j k hj hk => ?_⟩, hv'⟩, by simp only [nth1, intOf]; omega⟩
    · rcases hor with rfl | h' <;> omega
    · unfold upd; split
      · omega
      · exact hF.r j (by omega)
    · unfold upd
      have hlt' : ∀ j, j < y → rb j < w2.heap.size := fun j hj => hv.lt (by rw [tab_len]; exact hj)
      split <;> split
      · omega
      · intro e'; have := hlt' k (by omega); omega
      · intro e'; have := hlt' j (by omega); omega
      · exact hF.inj j k (by omega) (by omega)
  · have hyH : y = H := by
      rcases Nat.lt_or_ge y H with k | k
      · have hmul := Nat.mul_le_mul_right W (show y + 1 ≤ H from k)
        rw [Nat.add_mul, Nat.one_mul, Nat.mul_comm H W] at hmul
        omega
      · omega
    subst hyH
    exact hK v c rb w2 hE hF hv

/-! ### Neighbours -/
def inB (W H : Nat) (p : Int × Int) : Bool := decide (0 ≤ p.1 ∧ p.1 < W ∧ 0 ≤ p.2 ∧ p.2 < H)
def idx2 (W : Nat) (p : Int × Int) : Nat := p.2.toNat * W + p.1.toNat
theorem inB_iff {W H : Nat} {p : Int × Int} : inB W H p = true ↔ 0 ≤ p.1 ∧ p.1 < W ∧ 0 ≤ p.2 ∧ p.2 < H := by unfold inB; rw [decide_eq_true_iff]
theorem idx2_lt {W H : Nat} {p : Int × Int} (h : inB W H p = true) : idx2 W p < W * H := by
  have h := inB_iff.1 h
  exact sq_lt (by omega) (by omega)
theorem sp_idx2 {W H : Nat} {p : Int × Int} (h : inB W H p = true) : sp W (idx2 W p) = p := by
  have h := inB_iff.1 h
  unfold idx2
  rw [sp_sq (by omega)]
  obtain ⟨a, b⟩ := p
  simp only at h ⊢
  rw [Int.toNat_of_nonneg h.1, Int.toNat_of_nonneg h.2.2.1]
theorem idx2_sp {W i : Nat} : idx2 W (sp W i) = i := by
  unfold idx2 sp
  simp only [Int.toNat_natCast]
  rw [Nat.mul_comm]; exact Nat.div_add_mod i W
theorem inB_sp {W H i : Nat} (hW : 0 < W) (hi : i < W * H) : inB W H (sp W i) = true := by
  rw [inB_iff]
  unfold sp
  have h1 := Nat.mod_lt i hW
  have h2 : i / W < H := Nat.div_lt_of_lt_mul hi
  generalize i % W = x at h1
  generalize i / W = y at h2
  simp only
  omega
/-- The places beside a place. -/
def near (W H i : Nat) : List Nat := ((nbrs false (sp W i)).filter (inB W H)).map (idx2 W)
theorem nbrs_steps (p : Int × Int) : nbrs false p = (steps false).map fun d => (p.1 + d.1, p.2 + d.2) := rfl
def nearK (W H i k : Nat) : List Nat := ((((steps false).take k).map fun d => ((sp W i).1 + d.1, (sp W i).2 + d.2)).filter (inB W H)).map (idx2 W)
theorem nearK_le (W H i k : Nat) : (nearK W H i k).length ≤ 4 := by
  unfold nearK
  rw [List.length_map]
  refine Nat.le_trans (List.length_filter_le _ _) ?_
  rw [List.length_map, List.length_take]
  have : (steps false).length = 4 := rfl
  omega
theorem near_le (W H i : Nat) : (near W H i).length ≤ 4 := nearK_le W H i 4
theorem near_lt {W H i q : Nat} (h : q ∈ near W H i) : q < W * H := by
  obtain ⟨p, hp, rfl⟩ := List.mem_map.1 h
  exact idx2_lt (List.mem_filter.1 hp).2

theorem l09Near_c {w : World} {W H i : Nat} {K : Value → World → Prop} (h1 : 1 ≤ W) (h2 : W ≤ 16) (h3 : 1 ≤ H) (h4 : H ≤ 16) (hi : i < W * H) (hK : ∀ v c w', Ext w w' → w.heap.size ≤ c → Sl1 w' ty_int64 v (((near W H i).map fun (q : Nat) => (q : Int)).map i64) c → K v w') : callS Pg n_l09Near #[i64 W, i64 ((W * H : Nat) : Int), i64 i] w K := by
  refine call_l09Near _ _ _ _ _ ?_
  unfold S_l09Near
  have ha : W * H ≤ 256 := Nat.mul_le_mul h2 h4
  have hdiv : (((W * H : Nat) : Int)).tdiv (W : Int) = H := by
    rw [Int.natCast_mul]
    exact Int.mul_tdiv_cancel_left _ (by omega)
  have hq : ((i : Int)).tdiv (W : Int) = ((i / W : Nat) : Int) := by exact (Int.ofNat_tdiv i W).symm
  have hr : ((i : Int)).tmod (W : Int) = ((i % W : Nat) : Int) := by exact (Int.ofNat_tmod i W).symm
  have hx := Nat.mod_lt i (show 0 < W from h1)
  have hy : i / W < H := Nat.div_lt_of_lt_mul hi
  have hsp : sp W i = (((i % W : Nat) : Int), ((i / W : Nat) : Int)) := rfl
  generalize i % W = xx at hx hr hsp
  generalize i / W = yy at hy hq hsp
  refine sl1_nil (E := ty_int64) (by kernel_rfl) fun v0 c0 w1 he1 hc1 hv1 => ?_
  refine l03Steps_c fun sv sc w2 he2 hsc hsv => ?_
  refine spots_len_i rfl hsv ?_
  have hlen : (steps false).length = 4 := rfl
  rw [hlen]
  have z1 := he1.size; have z2 := he2.size
  refine loopS_i (fun s w' => ∃ (v : Value) (k c : Nat), s = [v, i64 k] ∧ k ≤ 4 ∧ w.heap.size ≤ c ∧ c ≠ sc ∧ Ext w w' ∧ OwnSpots w' sv (steps false) sc ∧ Sl1 w' ty_int64 v (((nearK W H i k).map fun (q : Nat) => (q : Int)).map i64) c) (fun s _ => 4 - (intOf (nth s 1)).toNat)
    ⟨v0, 0, c0, rfl, by omega, by omega, by have := hv1.lt; omega, he1.trans he2, hsv, hv1.ext he2⟩ ?_
  clear hv1 hsv
  rintro g s w3 ⟨v, k, c, rfl, hk, hc, hcs, hE, hsv, hv⟩
  rw [nth0, nth1]
  refine lss_i (ifB_i (fun hlt => ?_) (fun hlt => ?_))
  · have hk4 : k < 4 := by omega
    have hkl : k < (steps false).length := by rw [hlen]; exact hk4
    have hgk : (steps false)[((k : Nat) : Int).toNat]? = some (steps false)[k] := by rw [Int.toNat_natCast, List.getElem?_eq_getElem hkl]
    have htk : (steps false).take (k + 1) = (steps false).take k ++ [(steps false)[k]] := List.take_succ_eq_append_getElem hkl
    have hd : -1 ≤ (steps false)[k].1 ∧ (steps false)[k].1 ≤ 1 ∧ -1 ≤ (steps false)[k].2 ∧ (steps false)[k].2 ≤ 1 := by
      have : ∀ d ∈ steps false, -1 ≤ d.1 ∧ d.1 ≤ 1 ∧ -1 ≤ d.2 ∧ d.2 ≤ 1 := by decide
      exact this _ (List.getElem_mem hkl)
    generalize (steps false)[k] = d at hgk htk hd
    have hnK : nearK W H i (k + 1) = nearK W H i k ++ if inB W H ((sp W i).1 + d.1, (sp W i).2 + d.2) then [idx2 W ((sp W i).1 + d.1, (sp W i).2 + d.2)] else [] := by
      unfold nearK
      rw [htk, List.map_append, List.filter_append, List.map_append, List.map_singleton]
      congr 1
      by_cases hb : inB W H ((sp W i).1 + d.1, (sp W i).2 + d.2) = true
      · rw [List.filter_cons_of_pos hb, if_pos hb]; rfl
      · rw [List.filter_cons_of_neg hb, if_neg hb]; rfl
    have hnl := nearK_le W H i k
    refine joinS_k fun J hJ => ?_
    have fin : ∀ v' c' w', w.heap.size ≤ c' → c' ≠ sc → Ext w w' → OwnSpots w' sv (steps false) sc → Sl1 w' ty_int64 v' (((nearK W H i (k + 1)).map fun (q : Nat) => (q : Int)).map i64) c' → J [v'] w' := by
      intro v' c' w' a1 a2 a3 a4 a5
      refine hJ _ _ fun _ => ?_
      refine add_i (.of (by omega) (by omega)) ?_
      rw [nth0]
      refine ⟨⟨v', k + 1, c', by simp, by omega, a1, a2, a3, a4, a5⟩, by simp only [nth1, intOf]; omega⟩
    clear hJ
    refine drawS_i ?_
    have hd1 := (Same.drew w3).ext
    refine rem_i (by omega) ?_
    rw [hr]
    refine spotX_i ⟨rfl, rfl, rfl⟩ (hsv.ext hd1) (by omega) hgk ?_
    refine add_i (.of (by omega) (by omega)) ?_
    refine drawS_i ?_
    have hd2 := hd1.trans (Same.drew w3.drew).ext
    refine quo_i (by omega) (by rw [hq]; exact .of (by omega) (by omega)) ?_
    rw [hq]
    refine spotY_i ⟨rfl, rfl, rfl⟩ (hsv.ext hd2) (by omega) hgk ?_
    generalize w3.drew.drew = w4 at hd2
    have hE4 := hE.trans hd2
    have hsv4 := hsv.ext hd2
    have hv4 := hv.ext hd2
    refine add_i (.of (by omega) (by omega)) ?_
    refine sub_i (.of (by omega) (by omega)) ?_
    refine l00In_c ?_
    rw [joinS_eq]
    have skip : inB W H ((sp W i).1 + d.1, (sp W i).2 + d.2) = false → J [v] w4 := fun hb => by
      rw [hb, if_neg (by simp), List.append_nil] at hnK
      exact fin v c w4 hc hcs hE4 hsv4 (by rw [hnK]; exact hv4)
    refine ifG_t (fun hb1 => ?_) (fun hb1 => ?_)
    · refine quo_i (by omega) (by rw [hdiv]; exact .of (by omega) (by omega)) ?_
      rw [hdiv]
      refine sub_i (.of (by omega) (by omega)) ?_
      refine l00In_c ?_
      intro g5
      rw [hb1, pickS_eq, nth0, cond_true]
      have hb1 := of_decide_eq_true hb1
      refine ifB_i (fun hb2 => ?_) (fun hb2 => ?_)
      · have hin : inB W H ((sp W i).1 + d.1, (sp W i).2 + d.2) = true := by
          rw [inB_iff, hsp]; simp only; omega
        have hlt2 := idx2_lt hin
        have e : ((yy : Int) + d.2) * (W : Int) + ((xx : Int) + d.1) = ((idx2 W ((sp W i).1 + d.1, (sp W i).2 + d.2) : Nat) : Int) := by
          rw [hsp]; unfold idx2
          simp only
          rw [Int.natCast_add, Int.natCast_mul, Int.toNat_of_nonneg (by omega), Int.toNat_of_nonneg (by omega)]
        have hb3 : -1000 ≤ ((yy : Int) + d.2) * (W : Int) ∧ ((yy : Int) + d.2) * (W : Int) ≤ 1000 := by omega
        refine mul_i (.of (by omega) (by omega)) (add_i (.of (by omega) (by omega)) ?_)
        rw [e]
        refine sl1_app (E := ty_int64) (by kernel_rfl) rfl hv4 (by rw [List.length_map, List.length_map]; omega) fun v' w5 c' hor hm hv' => ?_
        rw [hin, if_pos rfl] at hnK
        have z3 := hE4.size
        have hscl := hsv4.lt
        refine fin v' c' w5 ?_ ?_ (hE4.own hm hc) (hsv4.mod hm (fun e => hcs e.symm)) ?_
        · rcases hor with rfl | h' <;> omega
        · rcases hor with rfl | h'
          · exact hcs
          · omega
        · rw [hnK, List.map_append, List.map_append]; exact hv'
      · refine skip ?_
        unfold inB
        refine decide_eq_false fun z => hb2 ?_
        rw [hsp] at z; simp only at z; omega
    · intro g5
      rw [hb1, pickS_eq, cond_false, ifB_eq, if_neg (by simp)]
      have hb1 := of_decide_eq_false hb1
      refine skip ?_
      unfold inB
      refine decide_eq_false fun z => hb1 ?_
      rw [hsp] at z; simp only at z; omega
  · have : k = 4 := by omega
    subst this
    exact hK v c w3 hE hc hv
end Go.Proofs.Ytfdmphgbodmkpaa
