/- Contracts of labels and below, continued. -/
import Derived.Test.YtfdmphgbodmkpaaCBelow
set_option linter.unusedVariables false
set_option linter.unusedSimpArgs false
namespace Go.Proofs.Ytfdmphgbodmkpaa
open Go Go.SL Go.RowKit
set_option maxRecDepth 100000

/-- The black places. -/
def Blk (W H : Nat) (px : List Bool) (q : Nat) : Prop := q < W * H ∧ px.getD q false = true
theorem mem_blk {W H : Nat} {px : List Bool} {q : Nat} : q ∈ blk W H px ↔ Blk W H px q := by
  unfold blk Blk
  rw [List.mem_filter, List.mem_range]
theorem pixel_sp {W H : Nat} {px : List Bool} {p : Int × Int} : pixel W H px p.1 p.2 = true ↔ inB W H p = true ∧ px.getD (idx2 W p) false = true := by
  unfold pixel inB idx2
  rw [Bool.and_eq_true]
theorem reach_con {W H : Nat} {px : List Bool} (hW : 0 < W) {p : Nat} {r : Int × Int} (hp : Blk W H px p) : Reach (fun p => pixel W H px p.1 p.2) false [sp W p] r ↔ ∃ q, r = sp W q ∧ Con (near W H) (Blk W H px) p q := by
  constructor
  · intro h
    induction h with
    | base h _ =>
      rw [List.mem_singleton] at h
      exact ⟨p, h, .base hp⟩
    | step h hn ho ih =>
      obtain ⟨q, rfl, hq⟩ := ih
      obtain ⟨h1, h2⟩ := pixel_sp.1 ho
      refine ⟨_, (sp_idx2 h1).symm, .step hq ?_ ⟨idx2_lt h1, h2⟩⟩
      rw [near_iff hW]
      exact ⟨idx2_lt h1, by rw [sp_idx2 h1]; exact hn⟩
  · rintro ⟨q, rfl, h⟩
    have ok : ∀ {q}, Blk W H px q → pixel W H px (sp W q).1 (sp W q).2 = true := fun {q} hq => pixel_sp.2 ⟨inB_sp hW hq.1, by rw [idx2_sp]; exact hq.2⟩
    induction h with
    | base h => exact .base (List.mem_singleton_self _) (ok h)
    | step h hn ha ih => exact .step ih ((near_iff hW).1 hn).2 (ok ha)

theorem labels1_c {w : World} {fb b c W H : Nat} {px : List Bool} {q : Int × Int} {T1 : TypeId} {K : Value → World → Prop} (hi : Img w b c W H px) (hf : w.heap[fb]? = some (row #[ptr b 0] T1))
    (hK : ∀ w2, Ext w w2 → K (.bool (pixel W H px q.1 q.2)) w2) : callV Pg (.func (.func n_image_labels_1) #[] #[ptr fb 0]) #[pairV q] w K := by
  refine callV_i ?_
  refine call_image_labels_1 _ _ _ _ ?_
  unfold S_image_labels_1
  refine box_i fun sb w1 h1 => ?_
  refine ld_i (by kernel_rfl) (h1.ext.at_ hf) rfl ?_
  refine fldi_i (by kernel_rfl) (ld_i (by kernel_rfl) h1.at_ rfl ?_)
  refine fldi_i (by kernel_rfl) (ld_i (by kernel_rfl) h1.at_ rfl ?_)
  exact get_c (hi.ext h1.ext) fun w2 hs => hK w2 (h1.ext.trans hs.ext)

/-- The leaders: no lesser place is joined. -/
def Lead (W H : Nat) (px : List Bool) (q : Nat) : Prop := ∀ p, p < q → Blk W H px p → ¬ Con (near W H) (Blk W H px) p q
noncomputable def leads (W H : Nat) (px : List Bool) (l : List Nat) : Nat := (l.filter fun q => @decide (Lead W H px q) (Classical.propDecidable _)).length
theorem leads_snoc {W H : Nat} {px : List Bool} {l : List Nat} {q : Nat} : (Lead W H px q → leads W H px (l ++ [q]) = leads W H px l + 1) ∧ (¬ Lead W H px q → leads W H px (l ++ [q]) = leads W H px l) := by
  unfold leads
  rw [List.filter_append, List.length_append]
  constructor
  · intro h
    rw [List.filter_cons_of_pos (by simpa only [decide_eq_true_eq] using h)]; rfl
  · intro h
    rw [List.filter_cons_of_neg (by simpa only [decide_eq_true_eq] using h)]; rfl
theorem leads_le {W H : Nat} {px : List Bool} {l : List Nat} : leads W H px l ≤ l.length := List.length_filter_le _ _
theorem leads_all {W H : Nat} {px : List Bool} : leads W H px (blk W H px) = comps (near W H) (W * H) (Blk W H px) := by
  unfold leads comps blk
  rw [List.filter_filter]
  congr 1
  refine List.filter_congr fun q hq => ?_
  rw [List.mem_range] at hq
  rw [Bool.eq_iff_iff, Bool.and_eq_true]
  simp only [decide_eq_true_eq]
  exact ⟨fun h => ⟨⟨hq, h.2⟩, h.1⟩, fun h => ⟨h.2, h.1.2⟩⟩

theorem labels_c {w : World} {b c W H : Nat} {px : List Bool} {K : Value → World → Prop} (hi : Img w b c W H px) (hW : 0 < W) (hN : W * H ≤ 256) (hW16 : W ≤ 16) (hH16 : H ≤ 16)
    (hK : ∀ r w', Ext w w' → K (.tuple #[.map (some r), i64 (comps (near W H) (W * H) (Blk W H px))]) w') : callS Pg n_image_labels #[ptr b 0, .bool false] w K := by
  refine call_image_labels _ _ _ _ ?_
  unfold S_image_labels
  refine box_i fun tb w1 h1 => ?_
  refine makeMap_i pairV fun r2 w2 he2 hr2 hm0 => ?_
  have ht1 : w1.heap[tb]? = some (row #[ptr b 0] ty_Pimpl_image) := h1.at_
  refine ld_i (by kernel_rfl) (he2.at_ ht1) rfl ?_
  have hE2 := h1.ext.trans he2
  refine imgSpots_c (hi.ext hE2) fun sv sb w3 he3 hsb hsv => ?_
  have hE3 := hE2.trans he3
  have z1 := h1.ext.size; have z2 := he2.size
  refine spots_len_i rfl hsv ?_
  rw [List.length_map]
  have hpw : (blk W H px).Pairwise (· < ·) := List.Pairwise.sublist List.filter_sublist List.pairwise_lt_range
  have hbl : (blk W H px).length ≤ 256 := by
    unfold blk
    refine Nat.le_trans (List.length_filter_le _ _) ?_
    rw [List.length_range]; exact hN
  generalize hB : blk W H px = B at hsv hpw hbl
  have hBm : ∀ q, q ∈ B ↔ Blk W H px q := fun q => by rw [← hB]; exact mem_blk
  rw [← leads_all, hB] at hK
  have hlt : ∀ (i j : Nat) (p q : Nat), B[i]? = some p → B[j]? = some q → (i < j ↔ p < q) := fun i j p q hp hq => by
    obtain ⟨h1, rfl⟩ := List.getElem?_eq_some_iff.1 hp
    obtain ⟨h2, rfl⟩ := List.getElem?_eq_some_iff.1 hq
    have P := List.pairwise_iff_getElem.1 hpw
    constructor
    · intro k; exact P i j h1 h2 k
    · intro k
      rcases Nat.lt_trichotomy i j with e | e | e
      · exact e
      · subst e; omega
      · have := P j i h2 h1 e; omega
  refine loopS_i (fun s w' => ∃ (k : Nat) (m : List ((Int × Int) × Value)), s = [i64 (leads W H px (B.take k)), i64 k] ∧ k ≤ B.length ∧ Ext w w' ∧ w'.heap[tb]? = some (row #[ptr b 0] ty_Pimpl_image) ∧ OwnSpots w' sv (B.map (sp W)) sb ∧ MapAt w' pairV r2 m ∧
      ∀ p, ∃ n : Int, lookD p m (i64 0) = i64 n ∧ (0 < n ↔ ∃ (j q : Nat), j < k ∧ B[j]? = some q ∧ Reach (fun p => pixel W H px p.1 p.2) false [sp W q] p)) (fun s _ => B.length - (intOf (nth s 1)).toNat)
    ⟨0, [], by simp [leads], by omega, hE3, (he2.trans he3).at_ ht1, hsv, hm0.ext he3, fun p => ⟨0, rfl, by simp⟩⟩ ?_
  clear hsv hm0
  rintro g s w4 ⟨k, m, rfl, hk, hE, ht, hsv, hm, hlook⟩
  rw [nth0, nth1]
  refine lss_i (ifB_i (fun hlt1 => ?_) (fun hlt1 => ?_))
  · have hkl : k < B.length := by omega
    have hgk := List.getElem?_eq_getElem hkl
    have htk : B.take (k + 1) = B.take k ++ [B[k]] := List.take_succ_eq_append_getElem hkl
    have hqB : Blk W H px B[k] := (hBm _).1 (List.getElem_mem hkl)
    generalize B[k] = q at hgk htk hqB
    obtain ⟨hs1, hs2⟩ := leads_snoc (W := W) (H := H) (px := px) (l := B.take k) (q := q)
    rw [← htk] at hs1 hs2
    have hle : leads W H px (B.take k) ≤ 256 := Nat.le_trans leads_le (by rw [List.length_take]; omega)
    -- being reached before is not being a leader
    have hlead : Lead W H px q ↔ ¬ ∃ (j p : Nat), j < k ∧ B[j]? = some p ∧ Reach (fun p => pixel W H px p.1 p.2) false [sp W p] (sp W q) := by
      constructor
      · rintro h ⟨j, p, h1, h2, h3⟩
        have hpB := (hBm p).1 (List.mem_of_getElem? h2)
        obtain ⟨q', e, h4⟩ := (reach_con hW hpB).1 h3
        have : q' = q := by rw [← idx2_sp (W := W) (i := q'), ← e, idx2_sp]
        subst this
        exact h p ((hlt j k p q' h2 hgk).1 h1) hpB h4
      · intro h p hp hpB hc
        obtain ⟨j, hj⟩ := List.getElem?_of_mem ((hBm p).2 hpB)
        exact h ⟨j, p, (hlt j k p q hj hgk).2 hp, hj, (reach_con hW hpB).2 ⟨q, rfl, hc⟩⟩
    refine joinS_k fun J hJ => ?_
    have hgs : (B.map (sp W))[((k : Nat) : Int).toNat]? = some (sp W q) := by rw [Int.toNat_natCast, List.getElem?_map, hgk]; rfl
    refine spots_ld ⟨rfl, rfl⟩ hsv (by omega) hgs ?_
    refine varS_i (p := sp W q) rfl fun vb w5 h5 => ?_
    have hvb := h5.at_
    refine ldS_i rfl hvb ?_
    have hm5 := hm.ext h5.ext
    refine look_i (T := ty_impl_Spot) (z := i64 0) (by kernel_rfl) spotKey hm5 (sp W q) ?_
    obtain ⟨n, hn1, hn2⟩ := hlook (sp W q)
    rw [hn1]
    refine gtr_i ?_
    have hE5 := hE.trans h5.ext
    refine ifB_i (fun hpos => ?_) (fun hpos => ?_)
    · have hnl : ¬ Lead W H px q := fun h => hlead.1 h (hn2.1 (by omega))
      refine hJ _ _ fun _ => ?_
      refine add_i (.of (by omega) (by omega)) ?_
      rw [nth0]
      refine ⟨⟨k + 1, m, by rw [hs2 hnl]; simp, by omega, hE5, h5.ext.at_ ht, hsv.ext h5.ext, hm5, fun p => ?_⟩, by simp only [nth1, intOf]; omega⟩
      obtain ⟨n', e1, e2⟩ := hlook p
      refine ⟨n', e1, e2.trans ⟨fun ⟨j, a, b, c, d⟩ => ⟨j, a, by omega, c, d⟩, fun ⟨j, a, b, c, d⟩ => ?_⟩⟩
      by_cases hjk : j < k
      · exact ⟨j, a, hjk, c, d⟩
      · have : j = k := by omega
        subst this
        rw [hgk, Option.some.injEq] at c
        subst c
        obtain ⟨j0, p0, f1, f2, f3⟩ := hn2.1 (by omega)
        have hp0 := (hBm p0).1 (List.mem_of_getElem? f2)
        obtain ⟨q', f4, f5⟩ := (reach_con hW hp0).1 f3
        have : q' = q := by rw [← idx2_sp (W := W) (i := q'), ← f4, idx2_sp]
        subst this
        obtain ⟨x, f6, f7⟩ := (reach_con hW hqB).1 d
        exact ⟨j0, p0, f1, f2, (reach_con hW hp0).2 ⟨x, f6, f5.trans f7⟩⟩
    · have hl : Lead W H px q := hlead.2 fun h => hpos (by have := hn2.2 h; omega)
      refine add_i (.of (by omega) (by omega)) ?_
      refine ldS_i rfl hvb ?_
      refine spots_one_i rfl fun ov ob w6 he6 hob hov => ?_
      have hE6 := hE5.trans he6
      have ht6 := (h5.ext.trans he6).at_ ht
      have hqb := inB_iff.1 (inB_sp (H := H) hW hqB.1)
      have hi6 := hi.ext hE6
      refine spread_c (ok := fun p => pixel W H px p.1 p.2) (L := (List.range (W * H)).map (sp W)) (fun p hp => ?_) (by rw [List.length_map, List.length_range]; omega) (fun p hp => ?_) hov (by simp) (fun p hp => ?_) (fun p w7 he7 hpb K' hK' => ?_) fun r S w7 he7 hr hmS hSn hSm => ?_
      · obtain ⟨a1, a2⟩ := pixel_sp.1 hp
        exact List.mem_map.2 ⟨idx2 W p, List.mem_range.2 (idx2_lt a1), sp_idx2 a1⟩
      · have := inB_iff.1 (pixel_sp.1 hp).1; omega
      · rw [List.mem_singleton] at hp; subst hp; omega
      · exact labels1_c (hi6.ext he7) (he7.at_ ht6) hK'
      · have hm7 := hm5.ext (he6.trans he7)
        have z5 := hE5.size; have z6 := hE6.size
        have hrne : r ≠ r2 := by have := hm5.lt; have := he6.size; omega
        refine markN_c (n := leads W H px (B.take k) + 1) hmS hm7 hrne hSn fun m' w8 hm8 hmm hlk => ?_
        refine hJ _ _ fun _ => ?_
        refine add_i (.of (by omega) (by omega)) ?_
        rw [nth0]
        have hrs : w.heap.size ≤ r2 := by omega
        refine ⟨⟨k + 1, m', by rw [hs1 hl]; simp, by omega, (hE6.trans he7).own hm8 hrs, hm8.at_ (he7.at_ ht6) (row_ne_map (he7.at_ ht6) hm7), ?_, hmm, fun p => ?_⟩, by simp only [nth1, intOf]; omega⟩
        · have hsv7 := hsv.ext ((h5.ext.trans he6).trans he7)
          obtain ⟨cs, qs⟩ := hsv7.row
          exact hsv7.mod hm8 (row_ne_map qs hm7)
        · rw [hlk]
          obtain ⟨n', e1, e2⟩ := hlook p
          by_cases hpS : p ∈ S
          · rw [if_pos hpS]
            refine ⟨_, rfl, ⟨fun _ => ⟨k, q, by omega, hgk, (hSm p).1 hpS⟩, fun _ => by omega⟩⟩
          · rw [if_neg hpS]
            refine ⟨n', e1, e2.trans ⟨fun ⟨j, a, b, c, d⟩ => ⟨j, a, by omega, c, d⟩, fun ⟨j, a, b, c, d⟩ => ?_⟩⟩
            by_cases hjk : j < k
            · exact ⟨j, a, hjk, c, d⟩
            · have : j = k := by omega
              subst this
              rw [hgk, Option.some.injEq] at c
              subst c
              exact absurd ((hSm p).2 d) hpS
  · have : k = B.length := by omega
    subst this
    rw [List.take_length]
    exact hK r2 w4 hE
end Go.Proofs.Ytfdmphgbodmkpaa
