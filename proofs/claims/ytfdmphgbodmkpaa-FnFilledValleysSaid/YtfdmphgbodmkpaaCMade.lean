/- Contracts of each, made, framed: pictures made pixel by pixel. -/
import Derived.Test.YtfdmphgbodmkpaaCImage
set_option linter.unusedVariables false
set_option linter.unusedSimpArgs false
namespace Go.Proofs.Ytfdmphgbodmkpaa
open Go Go.SL Go.RowKit
set_option maxRecDepth 100000

theorem at_ne {w : World} {b c T1 T2 : Nat} {cs1 cs2 : Array Value} (h1 : w.heap[b]? = some (row cs1 T1)) (h2 : w.heap[c]? = some (row cs2 T2)) (hT : T1 ≠ T2) : b ≠ c := fun e => by
  rw [e, h2] at h1
  simp only [row, Option.some.injEq, Obj.cells.injEq] at h1
  exact hT h1.2.1.symm

theorem each_c {b W H : Nat} {av fv : Value} (I : Nat → World → Prop) {w : World} {K : Value → World → Prop} (hw : W ≤ 1000) (hh : H ≤ 1000) (h0 : I 0 w)
    (hhd : ∀ n w, I n w → w.heap[b]? = some (row #[i64 W, i64 H, av] ty_impl_image))
    (hstep : ∀ (x y : Nat) w, x < W → y < H → I (y * W + x) w → ∀ K : Value → World → Prop, (∀ v w', I (y * W + x + 1) w' → K v w') → callV Pg fv #[i64 x, i64 y] w K)
    (hK : ∀ w', I (W * H) w' → K (.tuple #[]) w') : callS Pg n_image_each #[ptr b 0, fv] w K := by
  refine call_image_each _ _ _ _ ?_
  unfold S_image_each
  refine nilS_i ?_
  refine fldi_i (by kernel_rfl) ?_
  refine ld_i (by kernel_rfl) (hhd _ _ h0) rfl ?_
  refine loopS_i (fun s w => ∃ y : Nat, s = [i64 y] ∧ y ≤ H ∧ I (y * W) w) (fun s _ => H - (intOf (nth s 0)).toNat) ⟨0, rfl, by omega, by simpa using h0⟩ ?_
  rintro g s w1 ⟨y, rfl, hy, hI⟩
  rw [nth0]
  refine lss_i (ifB_i (fun hlt => ?_) (fun hlt => ?_))
  · refine nilS_i ?_
    refine fldi_i (by kernel_rfl) ?_
    refine ld_i (by kernel_rfl) (hhd _ _ hI) rfl ?_
    refine loopS_i (fun s w => ∃ x : Nat, s = [i64 x] ∧ x ≤ W ∧ I (y * W + x) w) (fun s _ => W - (intOf (nth s 0)).toNat) ⟨0, rfl, by omega, by simpa using hI⟩ ?_
    rintro g' s' w2 ⟨x, rfl, hx, hI2⟩
    rw [nth0]
    refine lss_i (ifB_i (fun hlt2 => ?_) (fun hlt2 => ?_))
    · refine hstep x y w2 (by omega) (by omega) hI2 _ fun v w3 hI3 => ?_
      refine add_i (.of (by omega) (by omega)) ?_
      refine ⟨⟨x + 1, by simp, by omega, by rw [← Nat.add_assoc]; exact hI3⟩, ?_⟩
      simp only [nth0, intOf]; omega
    · have : x = W := by omega
      subst this
      refine add_i (.of (by omega) (by omega)) ?_
      refine ⟨⟨y + 1, by simp, by omega, by rw [Nat.add_mul, Nat.one_mul]; exact hI2⟩, ?_⟩
      simp only [nth0, intOf]; omega
  · have : y = H := by omega
    subst this
    rw [Nat.mul_comm] at hI
    exact hK _ hI

/-- The pixels of a picture made by f. -/
def mk (W H : Nat) (f : Nat → Nat → Bool) : List Bool := (List.range (W * H)).map fun i => f (i % W) (i / W)
theorem mk_len (W H : Nat) (f : Nat → Nat → Bool) : (mk W H f).length = W * H := by simp [mk]
def part (W H : Nat) (f : Nat → Nat → Bool) (n : Nat) : List Bool := (mk W H f).take n ++ List.replicate (W * H - n) false
theorem part_step {W H x y : Nat} {f : Nat → Nat → Bool} (hx : x < W) (hy : y < H) : (part W H f (y * W + x)).set (y * W + x) (f x y) = part W H f (y * W + x + 1) := by
  have hlt : y * W + x < W * H := by
    have := Nat.mul_le_mul_right W (show y + 1 ≤ H by omega)
    rw [Nat.add_mul, Nat.mul_comm H W] at this
    omega
  have hl : ((mk W H f).take (y * W + x)).length = y * W + x := by rw [List.length_take, mk_len]; omega
  unfold part
  rw [List.set_append_right _ _ (by omega), hl, Nat.sub_self]
  rw [show W * H - (y * W + x) = (W * H - (y * W + x + 1)) + 1 by omega, List.replicate_succ, List.set_cons_zero]
  have : (mk W H f).take (y * W + x + 1) = (mk W H f).take (y * W + x) ++ [f x y] := by
    rw [List.take_succ_eq_append_getElem (by rw [mk_len]; exact hlt)]
    congr 2
    simp only [mk, List.getElem_map, List.getElem_range]
    rw [Nat.add_comm (y * W) x, Nat.add_mul_mod_self_right, Nat.mod_eq_of_lt hx, Nat.add_mul_div_right _ _ (by omega), Nat.div_eq_of_lt hx, Nat.zero_add]
  rw [this, List.append_assoc]; rfl
theorem part_zero (W H : Nat) (f : Nat → Nat → Bool) : part W H f 0 = List.replicate (W * H) false := by simp [part]
theorem part_all (W H : Nat) (f : Nat → Nat → Bool) : part W H f (W * H) = mk W H f := by simp [part, List.take_of_length_le (Nat.le_of_eq (mk_len W H f))]

theorem made1_c {b c W H tb fb T1 T2 : Nat} {px : List Bool} {x y : Nat} {v : Bool} {fv : Value} {w : World} {K : Value → World → Prop} (hi : Img w b c W H px) (hx : x < W) (hy : y < H) (hT : T1 = ty_Pimpl_image)
    (ht : w.heap[tb]? = some (row #[ptr b 0] T1)) (hf : w.heap[fb]? = some (row #[fv] T2))
    (hfv : ∀ w1, Same w w1 → ∀ K : Value → World → Prop, (∀ w2, Ext w1 w2 → K (.bool v) w2) → callV Pg fv #[i64 x, i64 y] w1 K)
    (hK : ∀ r w', Mod (· = c) w w' → Img w' b c W H (px.set (y * W + x) v) → K r w') : callS Pg n_made_1 #[i64 x, i64 y, ptr tb 0, ptr fb 0] w K := by
  refine call_made_1 _ _ _ _ _ _ ?_
  unfold S_made_1
  have hd := Same.drew w
  refine drawF_i (fun w' => w'.heap[tb]? = some (row #[ptr b 0] T1)) ht ?_
  refine rdF_i (fun w' hS => ld_run (by kernel_rfl) hS rfl) ?_
  refine ld_i (by kernel_rfl) hf rfl ?_
  refine hfv w.drew hd _ fun w2 hE => ?_
  refine ⟨hE.at_ ht, ?_⟩
  refine set_c ((hi.same hd).ext hE) ⟨by omega, by omega, by omega, by omega⟩ fun w3 hm hi3 => ?_
  refine hK _ w3 (((hd.ext).trans hE).mod.trans hm) ?_
  simpa using hi3

theorem made_c {W H : Nat} {fv : Value} (f : Nat → Nat → Bool) {w : World} {K : Value → World → Prop} (hw : W ≤ 1000) (hh : H ≤ 1000) (hone : one fv = true)
    (hf : ∀ (x y : Nat) w1, Ext w w1 → x < W → y < H → ∀ K : Value → World → Prop, (∀ w2, Ext w1 w2 → K (.bool (f x y)) w2) → callV Pg fv #[i64 x, i64 y] w1 K)
    (hK : ∀ b c w', Ext w w' → w.heap.size ≤ b → w.heap.size ≤ c → Img w' b c W H (mk W H f) → K (ptr b 0) w') : callS Pg n_made #[i64 W, i64 H, fv] w K := by
  refine call_made _ _ _ _ _ ?_
  unfold S_made
  refine box_i fun fb w1 h1 => ?_
  rw [one_cells hone] at h1
  refine blank_c hw hh fun b c w2 h2 hb hc hi => ?_
  refine var1_i (by kernel_rfl) rfl rfl rfl fun tb w3 h3 => ?_
  refine ld_i (by kernel_rfl) h3.at_ rfl ?_
  have e1 : Ext w w3 := h1.ext.trans (h2.trans h3.ext)
  have hs1 := h1.ext.size
  have hs2 := h2.size
  have hfb : w3.heap[fb]? = _ := h3.ext.at_ (h2.at_ h1.at_)
  have hi3 := hi.ext h3.ext
  refine each_c (W := W) (H := H) (av := sl c 0 (W * H) (W * H)) (fun n w' => Ext w w' ∧ w'.heap[tb]? = some (row #[ptr b 0] ty_Pimpl_image) ∧ w'.heap[fb]? = w3.heap[fb]? ∧ Img w' b c W H (part W H f n)) hw hh
    ⟨e1, h3.at_, rfl, by rw [part_zero]; exact hi3⟩ (fun n w' hI => hI.2.2.2.hd) (fun x y w4 hx hy hI K' hK' => ?_) (fun w4 hI => ?_)
  · obtain ⟨hE, ht, hf', hi4⟩ := hI
    refine callV_i ?_
    refine made1_c hi4 hx hy rfl ht (hf'.trans hfb) (fun w5 hs K'' hK'' => hf x y w5 (hE.trans hs.ext) hx hy K'' hK'') (fun r w5 hm hi5 => hK' r w5 ⟨?_, ?_, ?_, ?_⟩)
    · refine hE.comp hm (fun _ _ h => h) (fun i hi' e => ?_)
      subst e; omega
    · exact hm.at_ ht (at_ne ht hi4.dat (by decide))
    · rw [← hf']
      refine hm.block fb (lt_of_at (hf'.trans hfb)) (at_ne (hf'.trans hfb) hi4.dat (by decide))
    · rw [← part_step hx hy]; exact hi5
  · obtain ⟨hE, ht, _, hi4⟩ := hI
    rw [part_all] at hi4
    refine ld_i (by kernel_rfl) ht rfl ?_
    exact hK b c w4 hE (by omega) (by omega) hi4

end Go.Proofs.Ytfdmphgbodmkpaa
