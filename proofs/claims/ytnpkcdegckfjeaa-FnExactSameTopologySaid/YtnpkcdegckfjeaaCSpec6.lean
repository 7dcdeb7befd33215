/- Contracts of the reference's pad, part, insert. -/
import Derived.Test.YtnpkcdegckfjeaaCSpec5
import Derived.Test.YtnpkcdegckfjeaaPrim8
namespace Go.Proofs.Ytnpkcdegckfjeaa
open Go Go.SL Go.RowKit
set_option maxRecDepth 100000

def padOf (W H : Nat) (px : List Bool) : List Bool := mk (W + 2) (H + 2) fun x y => pixel W H px ((x : Int) - 1) ((y : Int) - 1)
theorem mk_take_step {W H x y : Nat} {f : Nat → Nat → Bool} (hx : x < W) (hy : y < H) : (mk W H f).take (y * W + x + 1) = (mk W H f).take (y * W + x) ++ [f x y] := by
  have hlt := lin_lt hx hy
  rw [List.take_succ_eq_append_getElem (by rw [mk_len]; exact hlt)]
  congr 2
  simp only [mk, List.getElem_map, List.getElem_range]
  rw [(lin_div hx).1, (lin_div hx).2]

theorem l05Pad_c {w : World} {p b W H : Nat} {px : List Bool} {K : Value → World → Prop} (h : SPic w p b W H px) (hw : W ≤ 900) (hh : H ≤ 900) (hK : ∀ v c w', Ext w w' → w.heap.size ≤ c → VPic w' v c (W + 2) (H + 2) (padOf W H px) → K v w') : callS Pg n_l05Pad #[ptr p 0] w K := by
  refine call_l05Pad _ _ _ ?_
  unfold S_l05Pad
  have hb := h.bounds
  have hmb : (W + 2) * (H + 2) ≤ 1000000 := mul_bound (by omega) (by omega)
  refine alloc_i rfl fun rb w1 hr => ?_
  refine l01Width_c (h.ext hr.ext) ?_
  refine add_i (.of (by omega) (by omega)) ?_
  refine sl1_nil (E := ty_bool) (by kernel_rfl) fun v0 c0 w2 he2 hc2 hv2 => ?_
  have hro := hr.old
  have hrl := lt_of_at hr.at_
  have hE2 : Ext w w2 := hr.ext.trans he2
  have z1 := hr.ext.size
  have hr2 := he2.at_ hr.at_
  refine loopS_i (fun s w' => ∃ (v : Value) (y : Nat) (c : Nat), s = [v, i64 ((y : Int) - 1)] ∧ y ≤ H + 2 ∧ Ext w w' ∧ w1.heap.size ≤ c ∧ w'.heap[rb]? = w2.heap[rb]? ∧ Sl1 w' ty_bool v (((padOf W H px).take (y * (W + 2))).map Value.bool) c) (fun s _ => (H + 1 - (intOf (nth s 1))).toNat) ⟨v0, 0, c0, rfl, by omega, hE2, hc2, rfl, by rw [Nat.zero_mul]; exact hv2⟩ ?_
  rintro g s w3 ⟨v, y, c, rfl, hy, hE, hc, hrb, hv⟩
  rw [nth1, nth0]
  refine l01Height_c (h.ext hE) ?_
  refine leq_i (ifB_i (fun hlt => ?_) (fun hlt => ?_))
  · have hyH : y + 1 ≤ H + 2 := by omega
    have hmul := Nat.mul_le_mul_right (W + 2) hyH
    rw [Nat.add_mul, Nat.one_mul, Nat.mul_comm (H + 2) (W + 2)] at hmul
    refine loopS_i (fun s w' => ∃ (v : Value) (x : Nat) (c : Nat), s = [v, i64 ((x : Int) - 1)] ∧ x ≤ W + 2 ∧ Ext w w' ∧ w1.heap.size ≤ c ∧ w'.heap[rb]? = w2.heap[rb]? ∧ Sl1 w' ty_bool v (((padOf W H px).take (y * (W + 2) + x)).map Value.bool) c) (fun s _ => (W + 1 - (intOf (nth s 1))).toNat) ⟨v, 0, c, rfl, by omega, hE, hc, hrb, by simpa using hv⟩ ?_
    clear hv hrb hc
    rintro g' s' w4 ⟨v, x, c, rfl, hx, hE4, hc, hrb, hv⟩
    rw [nth1, nth0]
    refine sub_i (.of (by omega) (by omega)) ?_
    refine lss_i (ifB_i (fun hlt2 => ?_) (fun hlt2 => ?_))
    · refine l01Black_c (h.ext hE4) ?_
      have hl : ((padOf W H px).take (y * (W + 2) + x)).length ≤ y * (W + 2) + x := by rw [List.length_take]; omega
      refine sl1_app (E := ty_bool) (by kernel_rfl) rfl hv (by rw [List.length_map]; omega) fun v' w5 c' hor hm hv5 => ?_
      refine add_i (.of (by omega) (by omega)) ?_
      have hs := hE4.size
      have hrlt : rb < w4.heap.size := by rw [hr2] at hrb; exact lt_of_at hrb
      refine ⟨⟨v', x + 1, c', by rw [show ((x + 1 : Nat) : Int) - 1 = (x : Int) - 1 + 1 by omega], by omega, hE4.own hm (by omega), ?_, ?_, ?_⟩, ?_⟩
      · have hz4 : w1.heap.size ≤ w4.heap.size := by
          have := hv.lt; omega
        rcases hor with rfl | h' <;> omega
      · rw [← hrb]; exact hm.block rb hrlt (by omega)
      · rw [show y * (W + 2) + (x + 1) = y * (W + 2) + x + 1 by omega, padOf, mk_take_step (by omega) (by omega), List.map_append]
        exact hv5
      · simp only [nth1, intOf]; omega
    · have : x = W + 2 := by omega
      subst this
      refine add_i (.of (by omega) (by omega)) ?_
      refine ⟨⟨v, y + 1, c, by rw [show ((y + 1 : Nat) : Int) - 1 = (y : Int) - 1 + 1 by omega], by omega, hE4, hc, hrb, by rw [Nat.add_mul, Nat.one_mul]; exact hv⟩, ?_⟩
      simp only [nth1, intOf]; omega
  · have : y = H + 2 := by omega
    subst this
    rw [List.take_of_length_le (by rw [padOf, mk_len, Nat.mul_comm]; exact Nat.le_refl _)] at hv
    refine l01Make_c (W := W + 2) (H := H + 2) hv (mk_len _ _ _) (by omega) (by omega) (by omega) (by omega) fun v' c' w4 he4 hc' hP => ?_
    have hs := hE.size
    have hrlt : rb < w3.heap.size := by rw [hr2] at hrb; exact lt_of_at hrb
    refine outP_i rfl (he4.at_ (hrb.trans hr2)) hP (by omega) fun w5 hm hP5 => ?_
    exact hK _ c' w5 ((hE.trans he4).own hm hro) (by omega) hP5

theorem l05Part_c {w : World} {p b W H : Nat} {px : List Bool} {q : Int × Int} {e : Bool} {K : Value → World → Prop} (h : SPic w p b W H px)
    (hK : ∀ S p' c w', S.Nodup → (∀ r, r ∈ S ↔ Reach (fun p => pixel W H px p.1 p.2) e [q] r) → Ext w w' → w.heap.size ≤ p' → w.heap.size ≤ c → SPic w' p' c W H (maskOf W H S) → K (ptr p' 0) w') : callS Pg n_l05Part #[ptr p 0, pairV q, .bool e] w K := by
  refine call_l05Part _ _ _ _ _ ?_
  unfold S_l05Part
  refine box_i fun qb w1 h1 => ?_
  refine ldS_i rfl h1.at_ ?_
  refine spots_one_i rfl fun v b2 w2 h2 hb2 hv2 => ?_
  have hE := h1.ext.trans h2
  refine l03Reach_c (h.ext hE) hv2 (by simp) fun S v3 c w3 hn hS he3 hc hP => ?_
  have := hE.size
  refine varP_i rfl hP fun p' w4 he4 hp4 hP4 => ?_
  have := he3.size
  exact hK S p' c w4 hn hS (hE.trans (he3.trans he4)) (by omega) (by omega) hP4

def lessB (a b : ByteArray) : Bool := Op.bytesLess a.toList b.toList
def insertB (c : ByteArray) (l : List ByteArray) : List ByteArray := l.takeWhile (fun x => lessB x c) ++ c :: l.dropWhile (fun x => lessB x c)
theorem takeWhile_at {α : Type} (f : α → Bool) : ∀ (l : List α) (i : Nat), (∀ j, (hj : j < l.length) → j < i → f l[j] = true) → (∀ hi : i < l.length, f l[i] = false) → i ≤ l.length → l.takeWhile f = l.take i ∧ l.dropWhile f = l.drop i
  | [], i, _, _, h => by simp
  | x :: l, 0, _, h2, _ => by
    have := h2 (by simp)
    simp only [List.getElem_cons_zero] at this
    rw [List.takeWhile_cons_of_neg (by rw [this]; simp), List.dropWhile_cons_of_neg (by rw [this]; simp)]; simp
  | x :: l, i + 1, h1, h2, h3 => by
    have h0 := h1 0 (by simp) (by omega)
    simp only [List.getElem_cons_zero] at h0
    have ih := takeWhile_at f l i (fun j hj hji => by have := h1 (j + 1) (by simpa using hj) (by omega); simpa using this) (fun hi => by have := h2 (by simpa using hi); simpa using this) (by simpa using h3)
    rw [List.takeWhile_cons_of_pos h0, List.dropWhile_cons_of_pos h0, ih.1, ih.2]; simp

theorem strv_one (l : List ByteArray) : ∀ v ∈ l.map Value.string, one v = true := by intro v hv; obtain ⟨b, _, rfl⟩ := List.mem_map.1 hv; rfl

theorem l05Insert_c {w : World} {lv : Value} {l : List ByteArray} {code : ByteArray} {b : Nat} {K : Value → World → Prop} (h : Sl1 w ty_string lv (l.map Value.string) b) (hl : l.length < 100000)
    (hK : ∀ v b' w', (b' = b ∨ w.heap.size ≤ b') → Mod (· = b) w w' → Sl1 w' ty_string v ((insertB code l).map Value.string) b' → K v w') : callS Pg n_l05Insert #[lv, .string code] w K := by
  refine call_l05Insert _ _ _ _ ?_
  unfold S_l05Insert
  refine loopS_i (fun s w' => ∃ i : Nat, s = [i64 i] ∧ i ≤ l.length ∧ w' = w ∧ ∀ j, (hj : j < l.length) → j < i → lessB l[j] code = true) (fun s _ => l.length - (intOf (nth s 0)).toNat) ⟨0, rfl, by omega, rfl, by intro j _ h; omega⟩ ?_
  rintro g s w' ⟨i, rfl, hi, rfl, hpre⟩
  rw [nth0]
  refine sl1_len (by kernel_rfl) h ?_
  rw [List.length_map]
  refine lss_i ?_
  have stop : (∀ hi : i < l.length, lessB l[i] code = false) → (eff Pg (Instr.buildSlice ty_Sstring 0 #[]) w' fun t21_11 w =>
      pur Pg (Instr.sliceAt ty_Sstring lv (some (i64 i)) none none) fun t24_12 =>
      eff Pg (Builtin.append_ #[ty_Sstring, ty_Sstring] ty_Sstring #[t21_11, t24_12]) w fun t25_13 w =>
      pur Pg (Instr.sliceAt ty_Sstring lv none (some (i64 i)) none) fun t28_14 =>
      eff Pg (Instr.buildSlice ty_Sstring 1 #[(0, .string code)]) w fun t30_15 w =>
      eff Pg (Builtin.append_ #[ty_Sstring, ty_Sstring] ty_Sstring #[t28_14, t30_15]) w fun t31_16 w =>
      eff Pg (Builtin.append_ #[ty_Sstring, ty_Sstring] ty_Sstring #[t31_16, t25_13]) w fun t33_17 w =>
      K t33_17 w) := by
    intro hstop
    obtain ⟨e1, e2⟩ := takeWhile_at (fun x => lessB x code) l i hpre hstop hi
    refine sl1_nil (E := ty_string) (by kernel_rfl) fun v1 b1 w1 he1 hb1 hv1 => ?_
    refine sl1_from (E := ty_string) (by kernel_rfl) (h.ext he1) (by rw [List.length_map]; exact hi) fun v2 hv2 => ?_
    rw [← List.map_drop] at hv2
    refine sl1_app2 (E := ty_string) (by kernel_rfl) hv1 hv2 (strv_one _) (by simp; omega) fun v3 w3 b3 hor3 hm3 hv3 => ?_
    rw [List.nil_append] at hv3
    have z1 := he1.size
    have hbl := h.lt
    have hE3 : Ext w' w3 := he1.own hm3 hb1
    have hb3 : w'.heap.size ≤ b3 := by rcases hor3 with rfl | h' <;> omega
    refine sl1_to (E := ty_string) (by kernel_rfl) (h.ext hE3) (by rw [List.length_map]; exact hi) fun v4 hv4 => ?_
    rw [← List.map_take] at hv4
    refine sl1_app (E := ty_string) (by kernel_rfl) rfl hv4 (by simp; omega) fun v5 w5 b5 hor5 hm5 hv5 => ?_
    have hv3' := hv3.mod hm5 (by omega)
    have z3 := hE3.size
    have z5 := hm5.size
    have hm05 : Mod (· = b) w' w5 := hE3.mod.trans hm5
    refine sl1_app2 (E := ty_string) (by kernel_rfl) hv5 hv3' (strv_one _) (by simp; omega) fun v6 w6 b6 hor6 hm6 hv6 => ?_
    refine hK v6 b6 w6 ?_ ?_ ?_
    · rcases hor6 with rfl | h6
      · rcases hor5 with rfl | h5 <;> omega
      · omega
    · refine hm05.comp hm6 (fun _ _ h => h) fun k hk hk2 => ?_
      rcases hor5 with rfl | h5
      · exact hk2
      · omega
    · unfold insertB
      rw [e1, e2]
      simpa using hv6
  rw [joinS_eq]
  by_cases hlt : (i : Int) < (l.length : Int)
  · have hil : i < l.length := by omega
    rw [decide_eq_true hlt, ifG_eq_t, if_pos rfl]
    refine sl1_get (x := .string l[i]) (by kernel_rfl) (by kernel_rfl) h (by omega) (by simp [hil]) ?_
    refine lssStr_i ?_
    intro g
    rw [pickS_eq, nth0, cond_true, ifB_eq]
    split
    · rename_i hless
      refine add_i (.of (by omega) (by omega)) ?_
      refine ⟨⟨i + 1, by simp, by omega, rfl, fun j hj hji => ?_⟩, ?_⟩
      · rcases Nat.lt_or_ge j i with h' | h'
        · exact hpre j hj h'
        · have : j = i := by omega
          subst this; exact hless
      · simp only [nth0, intOf]; omega
    · rename_i hless
      exact stop fun _ => by simpa [lessB] using hless
  · rw [decide_eq_false hlt, ifG_eq_t, if_neg (by simp)]
    intro g
    rw [pickS_eq, cond_false, ifB_eq, if_neg (by simp)]
    exact stop fun hi' => by omega
end Go.Proofs.Ytnpkcdegckfjeaa
