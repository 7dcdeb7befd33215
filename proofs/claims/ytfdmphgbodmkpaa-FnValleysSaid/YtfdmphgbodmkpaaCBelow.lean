/- Contracts of labels and below: how many sets of pixels there are up to a level. -/
import Derived.Test.YtfdmphgbodmkpaaPComp3
import Derived.Test.YtfdmphgbodmkpaaCFill
set_option linter.unusedVariables false
set_option linter.unusedSimpArgs false
namespace Go.Proofs.Ytfdmphgbodmkpaa
open Go Go.SL Go.RowKit
set_option maxRecDepth 100000

theorem OwnSpots.one {w : World} {v : Value} {l : List (Int × Int)} {b : Nat} (h : OwnSpots w v l b) : SL.one v = true := by obtain ⟨o, c, rfl, _⟩ := h; rfl
/-- The black places of a picture. -/
def blk (W H : Nat) (px : List Bool) : List Nat := (List.range (W * H)).filter fun i => px.getD i false
theorem pixel_at {W H : Nat} {px : List Bool} {x y : Nat} (hx : x < W) (hy : y < H) : pixel W H px x y = px.getD (y * W + x) false := by
  unfold pixel
  rw [decide_eq_true (by omega), Bool.true_and, Int.toNat_natCast, Int.toNat_natCast]
theorem imgSpots_c {w : World} {b c W H : Nat} {px : List Bool} {K : Value → World → Prop} (hi : Img w b c W H px) (hK : ∀ v b' w', Ext w w' → w.heap.size ≤ b' → OwnSpots w' v ((blk W H px).map (sp W)) b' → K v w') : callS Pg n_image_spots #[ptr b 0] w K := by
  refine call_image_spots _ _ _ ?_
  unfold S_image_spots
  have hmb := mul_bound hi.wb hi.hb
  refine box_i fun tb w1 h1 => ?_
  refine spots_nil_i rfl fun v0 b0 w2 he2 hb0 hv0 => ?_
  have hv01 := hv0.one
  refine var1_i (by kernel_rfl) rfl rfl hv01 fun ob w3 h3 => ?_
  have ht3 : w3.heap[tb]? = some (row #[ptr b 0] ty_Pimpl_image) := h3.ext.at_ (he2.at_ h1.at_)
  refine ld_i (by kernel_rfl) ht3 rfl ?_
  have hE3 := h1.ext.trans (he2.trans h3.ext)
  have z1 := h1.ext.size; have z2 := he2.size; have o3 := h3.old
  have hob3 : w3.heap[ob]? = some (row #[v0] ty_Simpl_Spot) := h3.at_
  refine each_c (W := W) (H := H) (av := sl c 0 (W * H) (W * H)) (fun n w' => Ext w w' ∧ w'.heap[tb]? = some (row #[ptr b 0] ty_Pimpl_image) ∧ Img w' b c W H px ∧ ∃ v b', w'.heap[ob]? = some (row #[v] ty_Simpl_Spot) ∧ w.heap.size ≤ b' ∧ OwnSpots w' v (((List.range n).filter fun i => px.getD i false).map (sp W)) b') hi.wb hi.hb
    ⟨hE3, ht3, hi.ext hE3, v0, b0, hob3, by omega, by simpa using hv0.ext h3.ext⟩ (fun n w' hI => hI.2.2.1.hd) (fun x y w4 hx hy hI K' hK' => ?_) (fun w4 hI => ?_)
  · obtain ⟨hE, ht, hi4, v, b', hob, hb', hv⟩ := hI
    refine callV_i ?_
    refine call_image_spots_1 _ _ _ _ _ _ ?_
    unfold S_image_spots_1
    refine ld_i (by kernel_rfl) ht rfl ?_
    refine get_c hi4 fun w5 hs => ?_
    have he5 := hs.ext
    rw [pixel_at hx hy]
    have hrange : (List.range (y * W + x + 1)).filter (fun i => px.getD i false) = (List.range (y * W + x)).filter (fun i => px.getD i false) ++ if px.getD (y * W + x) false = true then [y * W + x] else [] := by
      rw [List.range_succ, List.filter_append]
      congr 1
      by_cases h : px.getD (y * W + x) false = true
      · rw [if_pos h, List.filter_cons_of_pos (p := fun i => px.getD i false) h]; rfl
      · rw [if_neg h, List.filter_cons_of_neg (p := fun i => px.getD i false) h]; rfl
    refine ifB_b (fun hb => ?_) (fun hb => ?_)
    · refine ld_i (by kernel_rfl) (he5.at_ hob) rfl ?_
      refine build_i (cells := #[i64 (x : Int), i64 (y : Int)]) rfl rfl ?_
      have hlen : (((List.range (y * W + x)).filter fun i => px.getD i false).map (sp W)).length < 1000000 := by
        rw [List.length_map]
        refine Nat.lt_of_le_of_lt (List.length_filter_le _ _) ?_
        rw [List.length_range]
        have := sq_lt hx hy; omega
      have e : pairV ((x : Int), (y : Int)) = pairV (sp W (y * W + x)) := by rw [sp_sq hx]
      show eff Pg (Instr.buildSlice 63 1 #[(0, pairV ((x : Int), (y : Int)))]) w5 _
      refine spots_app_i ⟨rfl, rfl, rfl⟩ (hv.ext he5) hlen fun v' w6 b2 hor hm hv' => ?_
      have hv1 := hv'.one
      obtain ⟨cv, qv⟩ := (hv.ext he5).row
      have hobne : ob ≠ b' := at_ne (he5.at_ hob) qv (by decide)
      have hob6 := hm.at_ (he5.at_ hob) hobne
      refine st_i (by kernel_rfl) hv1 hob6 (Nat.zero_lt_one) ?_
      have hm7 := setAt_mod w6 ob (row ((#[v] : Array Value).setIfInBounds 0 v') ty_Simpl_Spot)
      have hE6 := (hE.trans he5).own hm hb'
      obtain ⟨cv6, qv6⟩ := hv'.row
      have z5 := (hE.trans he5).size
      have hb2 : w.heap.size ≤ b2 := by rcases hor with rfl | h' <;> omega
      refine hK' _ _ ⟨hE6.own hm7 (by omega), hm7.at_ (hm.at_ (he5.at_ ht) (at_ne (he5.at_ ht) qv (by decide))) (at_ne (hm.at_ (he5.at_ ht) (at_ne (he5.at_ ht) qv (by decide))) hob6 (by decide)), ?_, v', b2, setAt_at _ (lt_of_at hob6) _, hb2, ?_⟩
      · have hi6 := (hi4.ext he5).mod hm (at_ne (hi4.ext he5).hd qv (by decide)) (at_ne (hi4.ext he5).dat qv (by decide))
        exact hi6.mod hm7 (at_ne hi6.hd hob6 (by decide)) (at_ne hi6.dat hob6 (by decide))
      · rw [hrange, if_pos hb, List.map_append, List.map_singleton, sp_sq hx]
        exact hv'.mod hm7 (fun e => at_ne qv6 hob6 (by decide) e)
    · refine hK' _ w5 ⟨hE.trans he5, he5.at_ ht, hi4.ext he5, v, b', he5.at_ hob, hb', ?_⟩
      rw [hrange, if_neg (by rw [hb]; simp), List.append_nil]
      exact hv.ext he5
  · obtain ⟨hE, ht, hi4, v, b', hob, hb', hv⟩ := hI
    refine ld_i (by kernel_rfl) hob rfl ?_
    exact hK v b' w4 hE hb' hv

/-- A set of spots gets one number in a map. -/
theorem markN_c {w : World} {r r2 : Nat} {S : List (Int × Int)} {m : List ((Int × Int) × Value)} {n : Int} {K : World → Prop} (hS : MapAt w pairV r (setM S)) (hM : MapAt w pairV r2 m) (hne : r ≠ r2) (hSn : S.Nodup)
    (hK : ∀ m' w', Mod (· = r2) w w' → MapAt w' pairV r2 m' → (∀ x, lookD x m' (i64 0) = if x ∈ S then i64 n else lookD x m (i64 0)) → K w') :
    eff Pg (Instr.range ty_M_impl_Spot_bool (.map (some r))) w fun t65 w =>
      loopS (fun N g s w =>
      eff Pg (Instr.next t65 Bool.false 0) w fun t66 w =>
      pur Pg (Instr.extract t66 0) fun t67 =>
      ifB t67 (eff Pg (Instr.entry t65) w fun t68 w =>
      pur Pg (Instr.extract t68 0) fun t69 =>
      eff Pg (Instr.alloc ty_impl_Spot true (.tuple #[])) w fun t16 w =>
      effU Pg (Instr.storeAt ty_impl_Spot t16 t69) w fun w =>
      rd Pg (Instr.loadAt ty_impl_Spot t16) w fun t71 =>
      effU Pg (Instr.mapUpdate ty_M_impl_Spot_int64 (.map (some r2)) t71 (i64 n)) w fun w =>
      N [] w)
      (K w)) [] w := by
  refine range_i (T := ty_impl_Spot) (z := .bool false) (by kernel_rfl) pair_inj hS fun it w1 he1 hit hI => ?_
  refine loopS_n S.length (fun k s w' => ∃ done m', s = [] ∧ k + done.length = S.length ∧ Mod (· = r2) w w' ∧ IterAt w' pairV it r (setM S) done ∧ MapAt w' pairV r2 m' ∧ done.Nodup ∧ (∀ x ∈ done, x ∈ S) ∧ ∀ x, lookD x m' (i64 0) = if x ∈ done then i64 n else lookD x m (i64 0))
    ⟨[], m, rfl, by simp, he1.mod, hI, hM.ext he1, List.nodup_nil, by simp, by simp⟩ ?_
  rintro k g s w2 ⟨done, m', rfl, hk, hm2, hI2, hM2, hnd, hsub, hlook⟩ N hN
  have hM2l := hM2.lt
  refine next_i hI2 (fun hall w3 hs3 => ?_) (fun a v hav hnew w3 hm3 hI3 => ?_)
  · refine ext_i rfl ?_
    refine hK m' w3 (hm2.trans hs3.mod) (hM2.ext hs3.ext) fun x => ?_
    rw [hlook]
    have : x ∈ done ↔ x ∈ S := ⟨hsub x, fun hx => hall (x, .bool true) (List.mem_map.2 ⟨x, hx, rfl⟩)⟩
    simp only [this]
  · refine ext_i rfl ?_
    obtain ⟨haS, rfl⟩ : a ∈ S ∧ v = .bool true := by
      unfold setM at hav
      obtain ⟨x, hx, e⟩ := List.mem_map.1 hav
      cases e; exact ⟨hx, rfl⟩
    refine entry_i hI3 fun v hv => ?_
    refine ext_i rfl ?_
    refine varS_i (p := a) rfl fun vb w4 h4 => ?_
    refine ldS_i rfl h4.at_ ?_
    have hitr2 : it ≠ r2 := by have := hM.lt; omega
    have hM3 := hM2.mod hm3 (fun e => hitr2 e.symm)
    have hM4 := hM3.ext h4.ext
    refine update_i (T := ty_impl_Spot) (z := i64 0) (by kernel_rfl) spotKey hM4 a fun w5 hm5 hM5 => ?_
    have hnd' : (done ++ [a]).Nodup := by rw [List.nodup_append]; exact ⟨hnd, by simp, fun x hx y hy => by rw [List.mem_singleton] at hy; subst hy; exact fun e => hnew (e ▸ hx)⟩
    have hsub' : ∀ x ∈ done ++ [a], x ∈ S := fun x hx => by
      rcases List.mem_append.1 hx with hx | hx
      · exact hsub x hx
      · rw [List.mem_singleton] at hx; subst hx; exact haS
    have hlen : (done ++ [a]).length ≤ S.length := nodup_le hnd' hsub'
    rw [List.length_append, List.length_singleton] at hlen
    refine hN (k - 1) _ _ (by omega) ⟨done ++ [a], _, rfl, by rw [List.length_append, List.length_singleton]; omega, ?_, (hI3.mod (h4.ext.mod.trans hm5) hne hitr2), hM5, hnd', hsub', fun x => ?_⟩
    · refine (hm2.comp hm3 (fun _ _ h => h) (fun k hk e => ?_)).trans (h4.ext.mod.trans hm5)
      omega
    · rw [lookD_put hM4.nodup, hlook]
      by_cases e : x = a
      · rw [if_pos e, if_pos (by simp [e])]
      · rw [if_neg e]
        have : x ∈ done ++ [a] ↔ x ∈ done := by simp [e]
        simp only [this]
end Go.Proofs.Ytfdmphgbodmkpaa
