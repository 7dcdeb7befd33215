/- Contracts of the program's images: in, has, get, set, sizeOk, blank, each, made. -/
import Derived.Test.YtfdmphgbodmkpaaS
set_option linter.unusedVariables false
set_option linter.unusedSimpArgs false
namespace Go.Proofs.Ytfdmphgbodmkpaa
open Go Go.SL Go.RowKit
set_option maxRecDepth 100000

/-- The image at block b: its header; its pixels, row by row, in block c. -/
structure Img (w : World) (b c W H : Nat) (px : List Bool) : Prop where
  hd : w.heap[b]? = some (row #[i64 W, i64 H, sl c 0 (W * H) (W * H)] ty_impl_image)
  dat : w.heap[c]? = some (row (px.map Value.bool).toArray ty_bool)
  len : px.length = W * H
  wb : W ≤ 1000
  hb : H ≤ 1000
theorem Img.keep {w w' : World} {b c W H : Nat} {px : List Bool} (h : Img w b c W H px) (h1 : w'.heap[b]? = w.heap[b]?) (h2 : w'.heap[c]? = w.heap[c]?) : Img w' b c W H px :=
  ⟨h1.trans h.hd, h2.trans h.dat, h.len, h.wb, h.hb⟩
theorem Img.mod {S : Nat → Prop} {w w' : World} {b c W H : Nat} {px : List Bool} (h : Img w b c W H px) (he : Mod S w w') (h1 : ¬ S b) (h2 : ¬ S c) : Img w' b c W H px :=
  h.keep (he.block b (lt_of_at h.hd) h1) (he.block c (lt_of_at h.dat) h2)
theorem Img.ext {w w' : World} {b c W H : Nat} {px : List Bool} (h : Img w b c W H px) (he : Ext w w') : Img w' b c W H px := h.mod he id id
theorem Img.same {w w' : World} {b c W H : Nat} {px : List Bool} (h : Img w b c W H px) (he : Same w w') : Img w' b c W H px := h.ext he.ext
theorem Img.ne {w : World} {b c W H : Nat} {px : List Bool} (h : Img w b c W H px) : b ≠ c := fun e => by
  have h1 := h.hd; rw [e, h.dat] at h1
  simp only [row, Option.some.injEq, Obj.cells.injEq] at h1
  exact absurd h1.2.1 (by decide)
/-- The pixel at x, y; white outside. -/
def pixel (W H : Nat) (px : List Bool) (x y : Int) : Bool := decide (0 ≤ x ∧ x < W ∧ 0 ≤ y ∧ y < H) && px.getD (y.toNat * W + x.toNat) false

theorem in_c {a lo hi : Int} {w : World} {K : Value → World → Prop} (hK : K (.bool (decide (lo ≤ a ∧ a ≤ hi))) w) : callS Pg n_in #[i64 a, i64 lo, i64 hi] w K := by
  refine call_in _ _ _ _ _ ?_
  unfold S_in
  by_cases h1 : lo ≤ a <;> by_cases h2 : a ≤ hi <;> simp only [pur_geq, pur_leq, joinS_eq, ifG_eq_t, pickS_eq, nth0, all_fr, h1, h2, decide_true, decide_false, cond_true, cond_false, if_true, if_false, Bool.false_eq_true, and_self, and_true, true_and, and_false] at hK ⊢ <;> exact hK

theorem has_c {b c W H : Nat} {px : List Bool} {x y : Int} {w : World} {K : Value → World → Prop} (hi : Img w b c W H px) (hK : K (.bool (decide (0 ≤ x ∧ x < W ∧ 0 ≤ y ∧ y < H))) w) :
    callS Pg n_image_has #[ptr b 0, i64 x, i64 y] w K := by
  have hw := hi.wb; have hh := hi.hb
  refine call_image_has _ _ _ _ _ ?_
  unfold S_image_has
  refine nilS_i ?_
  refine fldi_i (by kernel_rfl) ?_
  refine ld_i (by kernel_rfl) hi.hd rfl ?_
  refine sub_i (.of (by omega) (by omega)) ?_
  refine in_c ?_
  rw [joinS_eq]
  refine ifG_t (fun h1 => ?_) (fun h1 => ?_)
  · refine nilS_i ?_
    refine fldi_i (by kernel_rfl) ?_
    refine ld_i (by kernel_rfl) hi.hd rfl ?_
    refine sub_i (.of (by omega) (by omega)) ?_
    refine in_c ?_
    intro g
    rw [pickS_eq, nth0, h1, cond_true]
    simp only [decide_eq_true_eq] at h1
    have : decide (0 ≤ x ∧ x < (W : Int) ∧ 0 ≤ y ∧ y < (H : Int)) = decide (0 ≤ y ∧ y ≤ (H : Int) - 1) := decide_eq_decide.2 (by omega)
    rw [← this]; exact hK
  · intro g
    rw [pickS_eq, h1, cond_false]
    simp only [decide_eq_false_iff_not] at h1
    have : decide (0 ≤ x ∧ x < (W : Int) ∧ 0 ≤ y ∧ y < (H : Int)) = false := decide_eq_false (by omega)
    rw [← this]; exact hK

theorem idx_bound {W H : Nat} {x y : Int} (h : 0 ≤ x ∧ x < (W : Int) ∧ 0 ≤ y ∧ y < (H : Int)) : y.toNat * W + x.toNat < W * H := by
  obtain ⟨h1, h2, h3, h4⟩ := h
  have h5 : y.toNat + 1 ≤ H := by omega
  have h6 := Nat.mul_le_mul_right W h5
  rw [Nat.add_mul, Nat.mul_comm H W] at h6
  omega
theorem mul_bound {W H : Nat} (hw : W ≤ 1000) (hh : H ≤ 1000) : W * H ≤ 1000000 := Nat.mul_le_mul hw hh

theorem get_c {b c W H : Nat} {px : List Bool} {x y : Int} {w : World} {K : Value → World → Prop} (hi : Img w b c W H px) (hK : ∀ w', Same w w' → K (.bool (pixel W H px x y)) w') :
    callS Pg n_image_get #[ptr b 0, i64 x, i64 y] w K := by
  have hw := hi.wb; have hh := hi.hb
  refine call_image_get _ _ _ _ _ ?_
  unfold S_image_get
  refine drawS_i ?_
  have hi' : Img w.drew b c W H px := hi.same (Same.drew w)
  refine has_c hi' ?_
  rw [joinS_eq]
  have hK' := hK w.drew (Same.drew w)
  refine ifG_t (fun h1 => ?_) (fun h1 => ?_)
  · have hin := of_decide_eq_true h1
    have hb := idx_bound hin
    have hmb := mul_bound hw hh
    have e1 : ((y.toNat : Int)) = y := Int.toNat_of_nonneg hin.2.2.1
    have e2 : ((x.toNat : Int)) = x := Int.toNat_of_nonneg hin.1
    have e3 : y * (W : Int) = ((y.toNat * W : Nat) : Int) := by rw [Int.natCast_mul, e1]
    refine nilS_i ?_
    refine fldi_i (by kernel_rfl) ?_
    refine ld_i (by kernel_rfl) hi'.hd rfl ?_
    refine nilS_i ?_
    refine fldi_i (by kernel_rfl) ?_
    refine ld_i (by kernel_rfl) hi'.hd rfl ?_
    refine mul_i (.of (by omega) (by omega)) ?_
    refine add_i (.of (by omega) (by omega)) ?_
    refine idx_i (size := 1) rfl (by omega) (by omega) ?_
    have e4 : (y * (W : Int) + x).toNat = y.toNat * W + x.toNat := by omega
    rw [e4]
    have hlt : y.toNat * W + x.toNat < px.length := by rw [hi.len]; exact hb
    refine ld_i (by kernel_rfl) hi'.dat (v := .bool px[y.toNat * W + x.toNat]) (by simp [hlt]) ?_
    intro g
    rw [pickS_eq, nth0, h1, cond_true]
    have : pixel W H px x y = px[y.toNat * W + x.toNat] := by unfold pixel; rw [h1, Bool.true_and]; simp [List.getD_eq_getElem?_getD, hlt]
    rw [← this]; exact hK'
  · intro g
    rw [pickS_eq, h1, cond_false]
    have : pixel W H px x y = false := by unfold pixel; rw [h1, Bool.false_and]
    rw [← this]; exact hK'

theorem set_c {b c W H : Nat} {px : List Bool} {x y : Int} {v : Bool} {w : World} {K : Value → World → Prop} (hi : Img w b c W H px) (hin : 0 ≤ x ∧ x < (W : Int) ∧ 0 ≤ y ∧ y < (H : Int))
    (hK : ∀ w', Mod (· = c) w w' → Img w' b c W H (px.set (y.toNat * W + x.toNat) v) → K (.tuple #[]) w') : callS Pg n_image_set #[ptr b 0, i64 x, i64 y, .bool v] w K := by
  have hw := hi.wb; have hh := hi.hb
  refine call_image_set _ _ _ _ _ _ ?_
  unfold S_image_set
  refine drawS_i ?_
  have hi' : Img w.drew b c W H px := hi.same (Same.drew w)
  have hb := idx_bound hin
  have hmb := mul_bound hw hh
  have e1 : ((y.toNat : Int)) = y := Int.toNat_of_nonneg hin.2.2.1
  have e2 : ((x.toNat : Int)) = x := Int.toNat_of_nonneg hin.1
  have e3 : y * (W : Int) = ((y.toNat * W : Nat) : Int) := by rw [Int.natCast_mul, e1]
  refine nilS_i ?_
  refine fldi_i (by kernel_rfl) ?_
  refine ld_i (by kernel_rfl) hi'.hd rfl ?_
  refine nilS_i ?_
  refine fldi_i (by kernel_rfl) ?_
  refine ld_i (by kernel_rfl) hi'.hd rfl ?_
  refine mul_i (.of (by omega) (by omega)) ?_
  refine add_i (.of (by omega) (by omega)) ?_
  refine idx_i (size := 1) rfl (by omega) (by omega) ?_
  have e4 : 0 + (y * (W : Int) + x).toNat * 1 = y.toNat * W + x.toNat := by omega
  rw [e4]
  refine st_i (by kernel_rfl) rfl hi'.dat (by simp [hi.len]; exact hb) ?_
  have hc := lt_of_at hi'.dat
  refine hK _ ((Mod.drew w).trans (setAt_mod _ _ _)) ⟨?_, ?_, by simp [hi.len], hw, hh⟩
  · rw [setAt_ne _ _ hi.ne]; exact hi'.hd
  · rw [setAt_at _ hc]; simp [List.map_set]

theorem sizeOk_c {a b : Int} {w : World} {K : Value → World → Prop} (hK : K (.bool (decide (1 ≤ a ∧ a ≤ 16 ∧ 1 ≤ b ∧ b ≤ 16))) w) : callS Pg n_sizeOk #[i64 a, i64 b] w K := by
  refine call_sizeOk _ _ _ _ ?_
  unfold S_sizeOk
  refine in_c ?_
  rw [joinS_eq]
  refine ifG_t (fun h1 => ?_) (fun h1 => ?_)
  · refine in_c ?_
    intro g
    rw [pickS_eq, nth0, h1, cond_true]
    simp only [decide_eq_true_eq] at h1
    have : decide (1 ≤ a ∧ a ≤ 16 ∧ 1 ≤ b ∧ b ≤ 16) = decide (1 ≤ b ∧ b ≤ 16) := decide_eq_decide.2 (by omega)
    rw [← this]; exact hK
  · intro g
    rw [pickS_eq, h1, cond_false]
    simp only [decide_eq_false_iff_not] at h1
    have : decide (1 ≤ a ∧ a ≤ 16 ∧ 1 ≤ b ∧ b ≤ 16) = false := decide_eq_false (by omega)
    rw [← this]; exact hK

theorem blank_c {W H : Nat} {w : World} {K : Value → World → Prop} (hw : W ≤ 1000) (hh : H ≤ 1000)
    (hK : ∀ b c w', Ext w w' → w.heap.size ≤ b → w.heap.size ≤ c → Img w' b c W H (List.replicate (W * H) false) → K (ptr b 0) w') : callS Pg n_blank #[i64 W, i64 H] w K := by
  refine call_blank _ _ _ _ ?_
  unfold S_blank
  have hmb := mul_bound hw hh
  have e : (W : Int) * (H : Int) = ((W * H : Nat) : Int) := (Int.natCast_mul W H).symm
  refine mul_i (.of (by omega) (by omega)) ?_
  rw [e]
  refine makeSlice_i rfl rfl (by omega) (by decide) fun c w1 h1 => ?_
  refine build_i rfl rfl ?_
  refine box_i fun b w2 h2 => ?_
  have hlt : w.heap.size ≤ w1.heap.size := h1.ext.size
  refine hK b c w2 (h1.ext.trans h2.ext) (by have := h2.old; omega) h1.old ⟨h2.at_, h2.ext.at_ (h1.at_.trans ?_), by simp, hw, hh⟩
  simp

end Go.Proofs.Ytfdmphgbodmkpaa
