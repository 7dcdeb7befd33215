/- DepthAt and the law FnFilledValleys. -/
import Derived.Test.YtfdmphgbodmkpaaCHeights
import Derived.Test.YtfdmphgbodmkpaaCSrc
set_option linter.unusedVariables false
set_option linter.unusedSimpArgs false
/- Contracts of DepthAt and of the laws' helpers. -/
namespace Go.Proofs.Ytfdmphgbodmkpaa
open Go Go.SL Go.RowKit
set_option maxRecDepth 100000

theorem depthAt_c {w : World} {v : Value} {L : List (List Int)} {b0 at0 : Nat} {rb : Nat → Nat} {K : Value → World → Prop} (h : RR w v L b0 rb) (hL : L.length ≤ 1000000000) (hl : ∀ l ∈ L, l.length ≤ 1000000000) (ht : TableOk 99 L) (ha0 : at0 < VW L * L.length)
    (hK : ∀ (deep : Int) (five : Bool) w', Ext w w' → (five = true ↔ ∃ s, s < VW L * L.length ∧ numL L s < numL L at0) →
      (five = true → ∃ (s : Nat) (hh : Int), s < VW L * L.length ∧ numL L s < numL L at0 ∧ 0 ≤ hh ∧ hh ≤ 100 ∧ (hh ≤ 99 → Con (near (VW L) L.length) (Upto (VW L * L.length) (numL L) hh) at0 s) ∧ deep = hh - numL L at0) → -100 ≤ deep ∧ deep ≤ 100 → K (.tuple #[i64 deep, .bool five]) w') :
    callS Pg n_impl_DepthAt #[.agg #[v], pairV (sp (VW L) at0)] w K := by
  refine call_impl_DepthAt _ _ _ _ ?_
  unfold S_impl_DepthAt
  refine box_i fun p w1 g1 => ?_
  refine spot_box rfl fun sb w2 g2 => ?_
  have hE2 := g1.ext.trans g2.ext
  have hp : w2.heap[p]? = some (row #[v] ty_impl_Grey) := g2.ext.at_ g1.at_
  have hsb := g2.at_
  refine grey_ld hp ?_
  refine validGrey_c (h.ext hE2) hL hl fun w3 he3 => ?_
  refine not_i ?_
  rw [decide_eq_true ht, Bool.not_true, joinS_eq, ifG_eq_f, if_neg (by simp)]
  have hE3 := hE2.trans he3
  have hn := (rect_num ht).2.2.2.2.2
  have hg := gp_of ht (he3.at_ hp) (h.ext hE3)
  generalize hWe : VW L = W at hg hK ha0 hsb ⊢
  generalize hHe : L.length = H at hg hK ha0
  generalize numL L = num at hg hn hK
  have hW := hg.w1; have hW2 := hg.w2; have hH := hg.h1; have hH2 := hg.h2
  have ha := hg.area
  have hWp : 0 < W := hW
  have hsb3 := he3.at_ hsb
  refine ldS_i rfl hsb3 ?_
  refine hasG_c hg fun w4 he4 => ?_
  refine not_i ?_
  have hin := inB_iff.1 (inB_sp (H := H) hWp ha0)
  intro g0
  rw [pickS_eq, cond_false, nth0, decide_eq_true hin, Bool.not_true, ifB_eq, if_neg (by simp)]
  refine ldS_i rfl (he4.at_ hsb3) ?_
  refine heights_c (hg.ext he4) hn ha0 fun rv c rc f w5 he5 hr hT => ?_
  have hrv1 := hr.one
  refine varn_i (n := 1) (by kernel_rfl) rfl rfl rfl (by intro x hx; simp at hx; subst hx; exact hrv1) fun xb w6 g6 => ?_
  have he36 := he4.trans (he5.trans g6.ext)
  have hE6 := hE3.trans he36
  have hh6 : GP w6 xb W H f c rc := ⟨⟨rv, g6.at_, hr.ext g6.ext⟩, hW, hW2, hH, hH2⟩
  refine spotsG_c (hg.ext he36) fun sv svb w7 he7 hsvb hsv => ?_
  have he37 := he36.trans he7
  have hg7 := hg.ext he37
  have hh7 := hh6.ext he7
  have hsb7 := he37.at_ hsb3
  have hE7 := hE3.trans he37
  refine spots_len_i rfl hsv ?_
  rw [tab_len]
  have hna := hn at0
  refine loopS_i (fun s w' => ∃ (best : Int) (k : Nat), s = [i64 best, i64 k] ∧ k ≤ W * H ∧ Ext w7 w' ∧ ((best = -1 ∧ ∀ s, s < k → ¬ num s < num at0) ∨ (0 ≤ best ∧ ∃ s, s < k ∧ num s < num at0 ∧ best = f s))) (fun s _ => W * H - (intOf (nth s 1)).toNat) ⟨-1, 0, rfl, by omega, Mod.refl _, .inl ⟨rfl, fun s hs => by omega⟩⟩ ?_
  rintro g s w8 ⟨best, k, rfl, hk, hE, hbest⟩
  rw [nth0, nth1]
  refine lss_i (ifB_i (fun hlt => ?_) (fun hlt => ?_))
  · have hkN : k < W * H := by omega
    have hTk := hT k hkN
    refine joinS_k fun J hJ => ?_
    have fin : ∀ (b' : Int) w', Ext w7 w' → ((b' = -1 ∧ ∀ s, s < k + 1 → ¬ num s < num at0) ∨ (0 ≤ b' ∧ ∃ s, s < k + 1 ∧ num s < num at0 ∧ b' = f s)) → J [i64 b'] w' := by
      intro b' w' a1 a2
      refine hJ _ _ fun _ => ?_
      refine add_i (.of (by omega) (by omega)) ?_
      rw [nth0]
      exact ⟨⟨b', k + 1, by simp, by omega, a1, a2⟩, by simp only [nth1, intOf]; omega⟩
    clear hJ
    refine spots_ld ⟨rfl, rfl⟩ (hsv.ext hE) (by omega) (p := sp W k) (by rw [Int.toNat_natCast]; exact tab_get hkN) ?_
    refine varS_i (p := sp W k) rfl fun pb w9 g9 => ?_
    have hd := (Same.drew w9).ext
    have he9 := hE.trans (g9.ext.trans hd)
    have hpb := hd.at_ g9.at_
    refine drawF_i (fun w' => Ext w9.drew w') (Mod.refl _) ?_
    generalize w9.drew = w10 at he9 hpb ⊢
    refine ldS_i rfl hpb ?_
    refine rdF_i (v := pairV (sp W at0)) (fun w' hw' => ldn_run (n := 2) (by kernel_rfl) (hw'.at_ (he9.at_ hsb7)) (Nat.le_refl 2)) ?_
    refine at_sp (hg7.ext he9) hkN fun w11 he11 => ?_
    refine ⟨he11, ?_⟩
    refine at_sp (hg7.ext (he9.trans he11)) ha0 fun w12 he12 => ?_
    have he1012 := he11.trans he12
    have hE12 := he9.trans he1012
    have hpb12 := he1012.at_ hpb
    refine lss_i ?_
    -- taking it
    have take : num k < num at0 → rd Pg (Instr.loadAt ty_impl_Spot (ptr pb 0)) w12 fun t41_42 =>
        callS Pg n_Grey_at #[ptr xb 0, t41_42] w12 fun t42_43 w => J [t42_43] w := fun hlt2 => by
      refine ldS_i rfl hpb12 ?_
      refine at_sp (hh7.ext hE12) hkN fun w13 he13 => ?_
      exact fin _ w13 (hE12.trans he13) (.inr ⟨hTk.1, k, by omega, hlt2, rfl⟩)
    rw [joinS_eq]
    by_cases h1 : num k < num at0
    · rw [decide_eq_true h1, ifG_eq_t, if_pos rfl]
      refine lss_i ?_
      intro q1
      rw [nth0, joinS_eq]
      by_cases h2 : best < 0
      · rw [decide_eq_true h2, ifG_eq_f, if_pos rfl]
        intro q2
        rw [joinS_eq, ifG_eq_t, if_pos rfl, pickS_eq, cond_true]
        intro q3
        rw [pickS_eq, cond_true, nth0, ifB_eq, if_pos rfl]
        exact take h1
      · rw [decide_eq_false h2, ifG_eq_f, if_neg (by simp)]
        refine ldS_i rfl hpb12 ?_
        refine at_sp (hh7.ext hE12) hkN fun w13 he13 => ?_
        refine lss_i ?_
        intro q2
        rw [joinS_eq, ifG_eq_t, if_pos rfl, pickS_eq, cond_false, nth0]
        intro q3
        rw [pickS_eq, cond_true, nth0]
        have hpb13 := he13.at_ hpb12
        have hE13 := hE12.trans he13
        refine ifB_i (fun h3 => ?_) (fun h3 => fin best w13 hE13 ?_)
        · refine ldS_i rfl hpb13 ?_
          refine at_sp (hh7.ext hE13) hkN fun w14 he14 => ?_
          exact fin _ w14 (hE13.trans he14) (.inr ⟨hTk.1, k, by omega, h1, rfl⟩)
        · rcases hbest with ⟨e, _⟩ | ⟨a, s, b, c', d⟩
          · omega
          · exact .inr ⟨a, s, by omega, c', d⟩
    · rw [decide_eq_false h1, ifG_eq_t, if_neg (by simp)]
      intro q1
      rw [nth0, joinS_eq, ifG_undef]
      intro q2
      rw [joinS_eq, ifG_eq_t, if_neg (by simp)]
      intro q3
      rw [pickS_eq, cond_false, ifB_eq, if_neg (by simp)]
      refine fin best w12 hE12 ?_
      rcases hbest with ⟨e, a⟩ | ⟨a, s, b, c', d⟩
      · refine .inl ⟨e, fun s hs => ?_⟩
        by_cases hsk : s = k
        · subst hsk; exact h1
        · exact a s (by omega)
      · exact .inr ⟨a, s, by omega, c', d⟩
  · have : k = W * H := by omega
    subst this
    refine lss_i (ifB_i (fun hneg => ?_) (fun hneg => ?_))
    · refine hK 0 false w8 (hE7.trans hE) ⟨fun h => (by cases h), fun ⟨s, h1, h2⟩ => ?_⟩ (fun h => (by cases h)) ⟨by omega, by omega⟩
      rcases hbest with ⟨_, a⟩ | ⟨a, _⟩
      · exact absurd h2 (a s h1)
      · omega
    · rcases hbest with ⟨e, _⟩ | ⟨a, s, b, c', d⟩
      · omega
      · refine ldS_i rfl (hE.at_ hsb7) ?_
        refine at_sp (hg7.ext hE) ha0 fun w9 he9 => ?_
        obtain ⟨t1, t2, t3⟩ := hT s b
        refine sub_i (.of (by omega) (by omega)) ?_
        exact hK _ true w9 (hE7.trans (hE.trans he9)) ⟨fun _ => ⟨s, b, c'⟩, fun _ => rfl⟩ (fun _ => ⟨s, f s, b, c', t1, t2, t3, by rw [d]⟩) ⟨by omega, by omega⟩

theorem b10At_c {w : World} {u : Value} {l : List Int} {K : Value → World → Prop} (h : ArgB w u l) (hl : l.length ≤ 1048576) (hK : ∀ x : Int, 0 ≤ x → x < 8 → K (i64 x) w) : callS Pg n_laws_b10At #[u, i64 0, i64 8] w K := by
  refine call_laws_b10At _ _ _ _ _ ?_
  unfold S_laws_b10At
  refine leq_i (ifB_i (fun h1 => by omega) (fun _ => ?_))
  refine argB_len rfl h ?_
  refine lss_i (ifB_i (fun hlt => ?_) (fun _ => ?_))
  · refine argB_get ⟨rfl, rfl⟩ h (by omega) hlt fun n h0 h1 => ?_
    refine conv_i (by kernel_rfl) (kd := .i64) (by kernel_rfl) ?_
    rw [IntWalk.i64_in _ ⟨by omega, by omega⟩]
    refine rem_i (by omega) ?_
    rw [Int.tmod_eq_emod_of_nonneg h0]
    exact hK _ (Int.emod_nonneg _ (by omega)) (Int.emod_lt_of_pos _ (by omega))
  · refine mul_i (.of (by omega) (by omega)) ?_
    refine add_i (.of (by omega) (by omega)) ?_
    refine rem_i (by omega) ?_
    exact hK _ (by decide) (by decide)
theorem b10Nums_c {w : World} {u1 u2 : Value} {l1 l2 : List Int} {b1 b2 : Nat} {K : Value → World → Prop} (h1 : Sl1 w ty_int64 u1 (l1.map i64) b1) (h2 : Sl1 w ty_int64 u2 (l2.map i64) b2) (hl : l1.length ≤ 1000000000) (he : l1 = l2)
    (hK : ∀ w', Ext w w' → K (.bool true) w') : callS Pg n_laws_b10Nums #[u1, u2] w K := by
  refine call_laws_b10Nums _ _ _ _ ?_
  unfold S_laws_b10Nums
  subst he
  refine int_len rfl h1 (int_len rfl h2 ?_)
  refine neq_i (ifB_i (fun hne => absurd rfl hne) (fun _ => ?_))
  refine loopS_i (fun s w' => ∃ i : Nat, s = [i64 i] ∧ i ≤ l1.length ∧ Ext w w') (fun s _ => l1.length - (intOf (nth s 0)).toNat) ⟨0, rfl, by omega, Mod.refl _⟩ ?_
  rintro g s w2 ⟨i, rfl, hi, hE⟩
  rw [nth0]
  refine int_len rfl (h1.ext hE) ?_
  refine lss_i (ifB_i (fun hlt => ?_) (fun hlt => hK w2 hE))
  have hil : i < l1.length := by omega
  refine drawS_i ?_
  have hE2 := hE.trans (Same.drew w2).ext
  refine int_get ⟨rfl, rfl⟩ (h1.ext hE2) (by omega) (n := l1[i]) (by rw [Int.toNat_natCast, List.getElem?_eq_getElem hil]) ?_
  refine int_get ⟨rfl, rfl⟩ (h2.ext hE2) (by omega) (n := l1[i]) (by rw [Int.toNat_natCast, List.getElem?_eq_getElem hil]) ?_
  refine neq_i (ifB_i (fun hne => absurd rfl hne) (fun _ => ?_))
  refine add_i (.of (by omega) (by omega)) ?_
  exact ⟨⟨i + 1, by simp, by omega, hE2⟩, by simp only [nth0, intOf]; omega⟩
theorem b10Tables_c {w : World} {v1 v2 : Value} {L : List (List Int)} {b1 b2 : Nat} {r1 r2 : Nat → Nat} {K : Value → World → Prop} (h1 : RR w v1 L b1 r1) (h2 : RR w v2 L b2 r2) (hL : L.length ≤ 1000000000) (hl : ∀ l ∈ L, l.length ≤ 1000000000) (hpos : 0 < L.length)
    (hK : ∀ w', Ext w w' → K (.bool true) w') : callS Pg n_laws_b10Tables #[v1, v2] w K := by
  refine call_laws_b10Tables _ _ _ _ ?_
  unfold S_laws_b10Tables
  refine rr_len rfl h1 (rr_len rfl h2 ?_)
  refine neq_i (ifB_i (fun hne => absurd rfl hne) (fun _ => ?_))
  refine loopS_i (fun s w' => ∃ i : Nat, s = [i64 i] ∧ i ≤ L.length ∧ Ext w w') (fun s _ => L.length - (intOf (nth s 0)).toNat) ⟨0, rfl, by omega, Mod.refl _⟩ ?_
  rintro g s w2 ⟨i, rfl, hi, hE⟩
  rw [nth0]
  refine rr_len rfl (h1.ext hE) ?_
  refine lss_i (ifB_i (fun hlt => ?_) (fun hlt => ?_))
  · have hil : i < L.length := by omega
    refine drawS_i ?_
    have hE2 := hE.trans (Same.drew w2).ext
    refine rr_row ⟨rfl, rfl⟩ (h1.ext hE2) (by omega) (l := L[i]) (by rw [Int.toNat_natCast, List.getElem?_eq_getElem hil]) fun u1 hu1 => ?_
    refine rr_row ⟨rfl, rfl⟩ (h2.ext hE2) (by omega) (l := L[i]) (by rw [Int.toNat_natCast, List.getElem?_eq_getElem hil]) fun u2 hu2 => ?_
    refine b10Nums_c hu1 hu2 (hl _ (List.getElem_mem hil)) rfl fun w3 he3 => ?_
    refine not_i ?_
    rw [Bool.not_true, ifB_eq, if_neg (by simp)]
    refine add_i (.of (by omega) (by omega)) ?_
    exact ⟨⟨i + 1, by simp, by omega, hE2.trans he3⟩, by simp only [nth0, intOf]; omega⟩
  · refine rr_len rfl (h1.ext hE) ?_
    refine gtr_i ?_
    rw [decide_eq_true (by omega)]
    exact hK w2 hE
theorem b10Shape_c {w : World} {v1 v2 : Value} {L1 L2 : List (List Int)} {b1 b2 : Nat} {r1 r2 : Nat → Nat} {K : Value → World → Prop} (h1 : RR w v1 L1 b1 r1) (h2 : RR w v2 L2 b2 r2) (hL : L1.length ≤ 1000000000) (hlen : L1.length = L2.length) (hrows : ∀ (i : Nat) (l1 l2 : List Int), L1[i]? = some l1 → L2[i]? = some l2 → l1.length = l2.length) (hpos : 0 < L1.length)
    (hK : ∀ w', Ext w w' → K (.bool true) w') : callS Pg n_laws_b10Shape #[v1, v2] w K := by
  refine call_laws_b10Shape _ _ _ _ ?_
  unfold S_laws_b10Shape
  refine rr_len rfl h1 (rr_len rfl h2 ?_)
  refine neq_i (ifB_i (fun hne => absurd (by omega) hne) (fun _ => ?_))
  refine loopS_i (fun s w' => ∃ i : Nat, s = [i64 i] ∧ i ≤ L1.length ∧ Ext w w') (fun s _ => L1.length - (intOf (nth s 0)).toNat) ⟨0, rfl, by omega, Mod.refl _⟩ ?_
  rintro g s w2 ⟨i, rfl, hi, hE⟩
  rw [nth0]
  refine rr_len rfl (h1.ext hE) ?_
  refine lss_i (ifB_i (fun hlt => ?_) (fun hlt => ?_))
  · have hil : i < L1.length := by omega
    have hil2 : i < L2.length := by omega
    have hx := hrows i _ _ (List.getElem?_eq_getElem hil) (List.getElem?_eq_getElem hil2)
    refine drawS_i ?_
    have hE2 := hE.trans (Same.drew w2).ext
    refine rr_row ⟨rfl, rfl⟩ (h1.ext hE2) (by omega) (l := L1[i]) (by rw [Int.toNat_natCast, List.getElem?_eq_getElem hil]) fun u1 hu1 => ?_
    refine int_len rfl hu1 ?_
    refine rr_row ⟨rfl, rfl⟩ (h2.ext hE2) (by omega) (l := L2[i]) (by rw [Int.toNat_natCast, List.getElem?_eq_getElem hil2]) fun u2 hu2 => ?_
    refine int_len rfl hu2 ?_
    refine neq_i (ifB_i (fun hne => absurd (by omega) hne) (fun _ => ?_))
    refine add_i (.of (by omega) (by omega)) ?_
    exact ⟨⟨i + 1, by simp, by omega, hE2⟩, by simp only [nth0, intOf]; omega⟩
  · refine rr_len rfl (h1.ext hE) ?_
    refine gtr_i ?_
    rw [decide_eq_true (by omega)]
    exact hK w2 hE
end Go.Proofs.Ytfdmphgbodmkpaa

/- The law FnFilledValleys: what is needed of plain facts. -/
namespace Go.Proofs.Ytfdmphgbodmkpaa
open Go Go.SL Go.RowKit
set_option maxRecDepth 100000

theorem rect_inj {W H : Nat} {f g : Nat → Int} (h : rect W H f = rect W H g) {q : Nat} (hW : 0 < W) (hq : q < W * H) : f q = g q := by
  have hy : q / W < H := Nat.div_lt_of_lt_mul hq
  have hx : q % W < W := Nat.mod_lt _ hW
  have e : q / W * W + q % W = q := by rw [Nat.mul_comm]; exact Nat.div_add_mod q W
  have h1 := congrArg (fun l => l[q / W]?) h
  simp only [rect_get hy, Option.some.injEq] at h1
  have h2 := congrArg (fun l => l[q % W]?) h1
  simp only [tab_get hx, Option.some.injEq, e] at h2
  exact h2
theorem VW_rect {W H : Nat} {f : Nat → Int} (hH : 0 < H) : VW (rect W H f) = W := by
  unfold VW
  rw [List.getD_eq_getElem?_getD, rect_get hH]
  show (tab W _).length = W
  rw [tab_len]
theorem fillL_pos {depth : Int} {L : List (List Int)} (h : FillOk depth L) : fillL depth L = rect (VW L) L.length (fillN depth (VW L) L.length (numL L)) := by unfold fillL; rw [if_pos h]
theorem valsL_pos2 {L : List (List Int)} (h : TableOk 99 L) : valsL L = lastL (endV (VW L) L.length (numL L)).vs := by unfold valsL; rw [if_pos h]
/-- The filled picture of a table. -/
structure FilledL (depth : Int) (L M : List (List Int)) : Prop where
  ok : TableOk 99 M
  vw : VW M = VW L
  len : M.length = L.length
  fil : Filled (VW L) L.length depth (numL L) (numL M)
  fill : fillL depth L = M
  again : fillL depth M = M
  vals : valsL M = (valsL L).filter (deepL depth)
theorem filled_of {L : List (List Int)} (ht : TableOk 99 L) {depth : Int} (hd : 0 ≤ depth ∧ depth ≤ 100) : FilledL depth L (fillL depth L) := by
  obtain ⟨_, h1, h2, h3, h4, hn⟩ := rect_num ht
  have hok : FillOk depth L := ⟨ht, hd.1, hd.2⟩
  have hM : fillL depth L = rect (VW L) L.length (fillN depth (VW L) L.length (numL L)) := by unfold fillL; rw [if_pos hok]
  have hMt : TableOk 99 (fillL depth L) := by
    rw [hM]
    exact rect_ok h1 h2 h3 h4 fun i hi => ⟨by have := fillN_ge (depth := depth) (num := numL L) hi; have := (hn i).1; omega, fillN_top hn hi⟩
  have hvw : VW (fillL depth L) = VW L := by rw [hM]; exact VW_rect h3
  have hlen : (fillL depth L).length = L.length := by rw [hM]; exact rect_len _ _ _
  obtain ⟨k1, _, _, _, _, hg⟩ := rect_num hMt
  rw [hvw, hlen] at k1
  have heq : ∀ q, q < VW L * L.length → numL (fillL depth L) q = fillN depth (VW L) L.length (numL L) q := fun q hq => rect_inj (k1.symm.trans hM) h1 hq
  have hF : Filled (VW L) L.length depth (numL L) (numL (fillL depth L)) := ⟨h1, h3, hn, hg, heq⟩
  refine ⟨hMt, hvw, hlen, hF, rfl, ?_, ?_⟩
  · have hok2 : FillOk depth (fillL depth L) := ⟨hMt, hd.1, hd.2⟩
    rw [fillL_pos hok2, hvw, hlen]
    refine Eq.trans (rect_congr fun i hi => ?_) k1.symm
    exact hF.again hi
  · rw [valsL_pos2 hMt, valsL_pos2 ht, hvw, hlen]
    exact hF.list

theorem vals_ent {L : List (List Int)} (ht : TableOk 99 L) {j : Nat} {b d : Int} {p : Nat} (hj : (valsL L)[j]? = some [b, (p : Int), d]) : ∃ v : Nat, (endV (VW L) L.length (numL L)).vs[v]? = some (b, p, d) := by
  rw [valsL_pos2 ht] at hj
  obtain ⟨e, h1, _, h3⟩ := mem_lastL (List.mem_of_getElem? hj)
  obtain ⟨v, hv⟩ := List.getElem?_of_mem h1
  simp only [List.cons.injEq, and_true] at h3
  refine ⟨v, ?_⟩
  rw [hv]
  obtain ⟨x, y, z⟩ := e
  simp only at h3
  obtain ⟨rfl, h4, rfl⟩ := h3
  have : y = p := by omega
  rw [this]
theorem vals_least {L : List (List Int)} (ht : TableOk 99 L) {b : Int} {p : Nat} (hj : (valsL L)[0]? = some [b, (p : Int), -1]) : ∀ s, s < VW L * L.length → b ≤ numL L s := by
  obtain ⟨_, h1, h2, h3, h4, hn⟩ := rect_num ht
  intro s hs
  obtain ⟨v, hv⟩ := vals_ent ht hj
  obtain ⟨hb, hp⟩ := (all_ok (W := VW L) (H := L.length) (num := numL L) h1 h3 hn).born v _ hv
  simp only at hb hp
  have := (lev_iff (H := L.length) h1 hn (lv := 99) (by omega) hv (by simp only; have := hn p; omega)).1 (.inl rfl)
  have hc := this s ((grid_con2 h1 hp hs).mono fun x hx => ⟨hx, by have := hn x; omega⟩)
  rcases hc with e | e
  · subst e; omega
  · unfold ltV at e; simp only at e; omega
theorem vals_deep {L : List (List Int)} (ht : TableOk 99 L) {j : Nat} {b d hh : Int} {p s : Nat} (hj : (valsL L)[j]? = some [b, (p : Int), d]) (hs : numL L s < numL L p) (h0 : 0 ≤ hh) (hc : hh ≤ 99 → Con (near (VW L) L.length) (Upto (VW L * L.length) (numL L) hh) p s) : d ≤ hh := by
  obtain ⟨_, h1, h2, h3, h4, hn⟩ := rect_num ht
  obtain ⟨v, hv⟩ := vals_ent ht hj
  obtain ⟨hb, hp⟩ := (all_ok (W := VW L) (H := L.length) (num := numL L) h1 h3 hn).born v _ hv
  simp only at hb hp
  have htop := (vs_top (num := numL L) (nr := near (VW L) L.length) (l := ordK (VW L * L.length) (numL L) 100 0) (fun i => (hn i).2) _ (List.mem_of_getElem? hv)).2
  simp only at htop
  rcases Decidable.em (d ≤ hh) with h | h
  · exact h
  · exfalso
    obtain ⟨k, rfl⟩ : ∃ k : Nat, hh = (k : Int) := ⟨hh.toNat, by omega⟩
    have hcc := hc (by omega)
    have hl := hcc.l.2
    have := (lev_iff (H := L.length) h1 hn (lv := k) (by omega) hv (by simp only; omega)).1 (.inr (by simp only; omega)) s hcc
    rcases this with e | e
    · subst e; omega
    · unfold ltV at e; simp only at e; omega
theorem filter_at {α : Type} {p : α → Bool} : ∀ {l : List α} {i : Nat} {x : α}, l[i]? = some x → p x = true → (l.filter p)[((l.take i).filter p).length]? = some x
  | [], i, x, h, _ => by simp at h
  | a :: l, 0, x, h, hp => by
    simp only [List.getElem?_cons_zero, Option.some.injEq] at h
    subst h
    rw [List.filter_cons_of_pos hp]; rfl
  | a :: l, i + 1, x, h, hp => by
    have ih := filter_at (p := p) (l := l) (i := i) (x := x) (by simpa using h) hp
    rw [List.take_succ_cons]
    by_cases ha : p a = true
    · rw [List.filter_cons_of_pos ha, List.filter_cons_of_pos ha, List.length_cons, List.getElem?_cons_succ]; exact ih
    · rw [List.filter_cons_of_neg ha, List.filter_cons_of_neg ha]; exact ih
end Go.Proofs.Ytfdmphgbodmkpaa

/- The law FnFilledValleys. -/
namespace Go.Proofs.Ytfdmphgbodmkpaa
open Go Go.SL Go.RowKit
set_option maxRecDepth 100000

theorem vals_ok {L : List (List Int)} (ht : TableOk 99 L) : valsL L ≠ [] ∧ ∀ (j : Nat) (l : List Int), (valsL L)[j]? = some l → ∃ (b : Int) (p : Nat) (d : Int), l = [b, (p : Int), d] ∧ b = numL L p ∧ p < VW L * L.length ∧ (j = 0 ↔ d = -1) ∧ (0 < j → b < d) := by
  obtain ⟨_, h1, _, h3, _, hn⟩ := rect_num ht
  rw [valsL_pos2 ht]
  exact lastL_mem (all_ok h1 h3 hn) fun q => (hn q).1
theorem neqB_i {P : Program} {T : Nat} {x y : Operand} {a b : Bool} {w : World} {K : Value → Prop} (hT : boolT P T = true) (he : a = b) (hK : K (.bool false)) : rd P (binSem .neq T x y (.bool a) (.bool b)) w K := by
  subst he
  refine neqBool_i hT ?_
  rw [beq_self_eq_true, Bool.not_true]; exact hK

theorem law_Filled_c {w : World} {u v : Value} {l m : List Int} {K : Value → World → Prop} (hu : ArgB w u l) (hv : ArgB w v m) (hK : ∀ w', Ext w w' → K (.bool true) w') : callS Pg n_laws_FnFilledValleys #[u, v] w K := by
  refine call_laws_FnFilledValleys _ _ _ _ ?_
  unfold S_laws_FnFilledValleys
  refine b10Long_c hu hv fun lg hlg => ?_
  refine ifB_b (fun _ => hK w (Mod.refl _)) (fun hlg' => ?_)
  obtain ⟨hl, hm⟩ := hlg hlg'
  refine b10Grey_c hu hl fun gv c0 rc0 W0 H0 num0 w1 he1 hF1 hr1 hW0 hW6 hH0 hH6 hn0 => ?_
  have ht : TableOk 99 (rect W0 H0 num0) := rect_ok (by omega) (by omega) (by omega) (by omega) fun i _ => ⟨(hn0 i).1, by have := (hn0 i).2; omega⟩
  generalize rect W0 H0 num0 = L at hr1 ht
  clear hW0 hW6 hH0 hH6 hn0 hF1
  obtain ⟨hLe, h1, h2, h3, h4, hn⟩ := rect_num ht
  have hL9 : L.length ≤ 1000000000 := by omega
  have hl9 : ∀ l ∈ L, l.length ≤ 1000000000 := fun l hl => by
    have := (ht.2.2 l hl).1
    have := ht.2.1.2; omega
  have hgv1 := hr1.one
  refine varn_i (n := 1) (by kernel_rfl) rfl rfl rfl (by intro x hx; simp at hx; subst hx; exact hgv1) fun xb w2 g2 => ?_
  have hx2 : w2.heap[xb]? = some (row #[gv] ty_impl_Grey) := g2.at_
  have hE2 := he1.trans g2.ext
  have hr2 := hr1.ext g2.ext
  refine b10At_c (hv.ext hE2) hm fun depth hd0 hd8 => ?_
  have hF := filled_of ht (depth := depth) ⟨hd0, by omega⟩
  have hok : FillOk depth L := ⟨ht, hd0, by omega⟩
  refine grey_ld hx2 ?_
  refine implFill_c hr2 hL9 hl9 fun hv' c1 rc1 w3 he3 hh => ?_
  rw [decide_eq_true hok]
  generalize fillL depth L = M at hF hh
  have hMpos : 0 < M.length := by rw [hF.len]; omega
  have hh3 : RR w3 hv' M c1 rc1 := by
    rcases hh with ⟨_, e⟩ | hh
    · rw [e] at hMpos; simp at hMpos
    · exact hh.1
  have hMt := hF.ok
  obtain ⟨hMe, m1, m2, m3, m4, hmn⟩ := rect_num hMt
  have hM9 : M.length ≤ 1000000000 := by omega
  have hml9 : ∀ l ∈ M, l.length ≤ 1000000000 := fun l hl => by
    have := (hMt.2.2 l hl).1
    have := hMt.2.1.2; omega
  refine ext_i rfl (ext_i rfl ?_)
  have hhv1 := hh3.one
  refine varn_i (n := 1) (by kernel_rfl) rfl rfl rfl (by intro x hx; simp at hx; subst hx; exact hhv1) fun yb w4 g4 => ?_
  have hy4 : w4.heap[yb]? = some (row #[hv'] ty_impl_Grey) := g4.at_
  have hh4 := hh3.ext g4.ext
  refine grey_ld hy4 ?_
  have hok2 : FillOk depth M := ⟨hMt, hd0, by omega⟩
  refine implFill_c hh4 hM9 hml9 fun av c2 rc2 w5 he5 ha => ?_
  rw [decide_eq_true hok2]
  rw [hF.again] at ha
  have ha5 : RR w5 av M c2 rc2 := by
    rcases ha with ⟨_, e⟩ | ha
    · rw [e] at hMpos; simp at hMpos
    · exact ha.1
  refine ext_i rfl (ext_i rfl ?_)
  have hav1 := ha5.one
  refine varn_i (n := 1) (by kernel_rfl) rfl rfl rfl (by intro x hx; simp at hx; subst hx; exact hav1) fun zb w6 g6 => ?_
  have hz6 : w6.heap[zb]? = some (row #[av] ty_impl_Grey) := g6.at_
  have he26 := he3.trans (g4.ext.trans (he5.trans g6.ext))
  have he46 := he5.trans g6.ext
  have hx6 := he26.at_ hx2
  have hr6 := hr2.ext he26
  have hy6 := he46.at_ hy4
  have hh6 := hh4.ext he46
  have ha6 := ha5.ext g6.ext
  have hE6 := hE2.trans he26
  refine grey_ld hx6 ?_
  refine implValleysOf_c hr6 hL9 hl9 fun r1 c3 rc3 w7 he7 hV => ?_
  have hV7 : RV w7 r1 (valsL L) c3 rc3 := hV.imp id fun h => h.1
  rw [decide_eq_true ht]
  refine ext_i rfl (ext_i rfl ?_)
  refine grey_ld (he7.at_ hy6) ?_
  refine implValleysOf_c (hh6.ext he7) hM9 hml9 fun r2 c4 rc4 w8 he8 hV' => ?_
  have hU8 : RV w8 r2 (valsL M) c4 rc4 := hV'.imp id fun h => h.1
  rw [decide_eq_true hMt]
  refine ext_i rfl (ext_i rfl ?_)
  have he68 := he7.trans he8
  have hE8 := hE6.trans he68
  have hx8 := he68.at_ hx6
  have hy8 := he68.at_ hy6
  have hz8 := he68.at_ hz6
  have hr8 := hr6.ext he68
  have hh8 := hh6.ext he68
  have ha8 := ha6.ext he68
  have hV8 := hV7.ext he8
  clear hV hV' hV7 hh ha hr1 hr2 hr6 hh3 hh4 hh6 ha5 ha6 hx2 hx6 hy4 hy6 hz6
  obtain ⟨hne, hent⟩ := vals_ok ht
  obtain ⟨hvl, _⟩ := valsL_le (L := L)
  obtain ⟨hul, hu3⟩ := valsL_le (L := M)
  have hvpos : 0 < (valsL L).length := List.length_pos_iff.2 hne
  refine not_i ?_
  rw [Bool.not_true, joinS_eq, ifG_eq_f, if_neg (by simp)]
  refine not_i ?_
  intro q1
  rw [pickS_eq, cond_false, nth0, Bool.not_true, joinS_eq, ifG_eq_f, if_neg (by simp)]
  refine not_i ?_
  intro q2
  rw [pickS_eq, cond_false, nth0, Bool.not_true, joinS_eq, ifG_eq_f, if_neg (by simp)]
  refine not_i ?_
  intro q3
  rw [pickS_eq, cond_false, nth0, Bool.not_true, joinS_eq, ifG_eq_f, if_neg (by simp)]
  refine fldi_i (by kernel_rfl) (ld_i (by kernel_rfl) hz8 rfl ?_)
  refine fldi_i (by kernel_rfl) (ld_i (by kernel_rfl) hy8 rfl ?_)
  refine b10Tables_c ha8 hh8 hM9 hml9 hMpos fun w9 he9 => ?_
  refine not_i ?_
  intro q4
  rw [pickS_eq, cond_false, nth0, Bool.not_true, joinS_eq, ifG_eq_f, if_neg (by simp)]
  refine fldi_i (by kernel_rfl) (ld_i (by kernel_rfl) (he9.at_ hy8) rfl ?_)
  refine fldi_i (by kernel_rfl) (ld_i (by kernel_rfl) (he9.at_ hx8) rfl ?_)
  have hshape : ∀ (i : Nat) (l1 l2 : List Int), M[i]? = some l1 → L[i]? = some l2 → l1.length = l2.length := fun i l1 l2 a b => by
    rw [(hMt.2.2 l1 (List.mem_of_getElem? a)).1, (ht.2.2 l2 (List.mem_of_getElem? b)).1]
    exact hF.vw
  refine b10Shape_c (hh8.ext he9) (hr8.ext he9) hM9 hF.len hshape hMpos fun w10 he10 => ?_
  refine not_i ?_
  intro q5
  rw [pickS_eq, cond_false, nth0, Bool.not_true, ifB_eq, if_neg (by simp)]
  have he810 := he9.trans he10
  have hE10 := hE8.trans he810
  have hx10 := he810.at_ hx8
  have hy10 := he810.at_ hy8
  have hr10 := hr8.ext he810
  have hh10 := hh8.ext he810
  have hV10 := hV8.ext he810
  have hU10 := hU8.ext he810
  clear hx8 hy8 hz8 hr8 hh8 ha8 hV8 hU8
  have hrowL : ∀ y, y < L.length → L[((y : Nat) : Int).toNat]? = some (tab (VW L) fun x => numL L (y * VW L + x)) := fun y hy => by
    have e := rect_get (W := VW L) (H := L.length) (num := numL L) hy
    rw [← hLe] at e
    rw [Int.toNat_natCast]; exact e
  have hrowM : ∀ y, y < L.length → M[((y : Nat) : Int).toNat]? = some (tab (VW L) fun x => numL M (y * VW L + x)) := fun y hy => by
    have e := rect_get (W := VW M) (H := M.length) (num := numL M) (y := y) (by rw [hF.len]; exact hy)
    rw [← hMe, hF.vw] at e
    rw [Int.toNat_natCast]; exact e
  -- no number is less
  refine loopS_i (fun s w' => ∃ y : Nat, s = [i64 y] ∧ y ≤ L.length ∧ Ext w10 w') (fun s _ => L.length - (intOf (nth s 0)).toNat) ⟨0, rfl, by omega, Mod.refl _⟩ ?_
  rintro g s w11 ⟨y, rfl, hy, hE⟩
  rw [nth0]
  refine fldi_i (by kernel_rfl) (ld_i (by kernel_rfl) (hE.at_ hx10) rfl ?_)
  refine rr_len rfl (hr10.ext hE) ?_
  refine lss_i (ifB_i (fun hlt => ?_) (fun hlt => ?_))
  · have hyl : y < L.length := by omega
    refine loopS_i (fun s w' => ∃ x : Nat, s = [i64 x] ∧ x ≤ VW L ∧ Ext w10 w') (fun s _ => VW L - (intOf (nth s 0)).toNat) ⟨0, rfl, by omega, hE⟩ ?_
    rintro g2 s2 w12 ⟨x, rfl, hx, hE2'⟩
    rw [nth0]
    refine fldi_i (by kernel_rfl) (ld_i (by kernel_rfl) (hE2'.at_ hx10) rfl ?_)
    refine rr_row ⟨rfl, rfl⟩ (hr10.ext hE2') (by omega) (hrowL y hyl) fun u1 hu1 => ?_
    refine int_len rfl hu1 ?_
    rw [tab_len]
    refine lss_i (ifB_i (fun hlt2 => ?_) (fun hlt2 => ?_))
    · have hxl : x < VW L := by omega
      refine drawS_i ?_
      have hE3 := hE2'.trans (Same.drew w12).ext
      generalize w12.drew = w13 at hE3
      refine fldi_i (by kernel_rfl) (ld_i (by kernel_rfl) (hE3.at_ hy10) rfl ?_)
      refine rr_row ⟨rfl, rfl⟩ (hh10.ext hE3) (by omega) (hrowM y hyl) fun u2 hu2 => ?_
      refine int_get ⟨rfl, rfl⟩ hu2 (by omega) (n := numL M (y * VW L + x)) (by rw [Int.toNat_natCast]; exact tab_get hxl) ?_
      refine fldi_i (by kernel_rfl) (ld_i (by kernel_rfl) (hE3.at_ hx10) rfl ?_)
      refine rr_row ⟨rfl, rfl⟩ (hr10.ext hE3) (by omega) (hrowL y hyl) fun u3 hu3 => ?_
      refine int_get ⟨rfl, rfl⟩ hu3 (by omega) (n := numL L (y * VW L + x)) (by rw [Int.toNat_natCast]; exact tab_get hxl) ?_
      have hge := hF.fil.ge (sq_lt hxl hyl)
      refine lss_i (ifB_i (fun h => by omega) (fun _ => ?_))
      refine add_i (.of (by omega) (by omega)) ?_
      exact ⟨⟨x + 1, by simp, by omega, hE3⟩, by simp only [nth0, intOf]; omega⟩
    · refine add_i (.of (by omega) (by omega)) ?_
      exact ⟨⟨y + 1, by simp, by omega, hE2'⟩, by simp only [nth0, intOf]; omega⟩
  -- the valleys
  obtain ⟨b0, p0, d0, hl0, hb0, hp0, hd00, _⟩ := hent 0 _ (List.getElem?_eq_getElem hvpos)
  have hg0 : (valsL L)[0]? = some [b0, (p0 : Int), -1] := by
    rw [List.getElem?_eq_getElem hvpos, hl0, hd00.1 rfl]
  have hleast := vals_least ht hg0
  refine rv_row ⟨rfl, rfl⟩ (hV10.ext hE) (by omega) (l := [b0, (p0 : Int), -1]) hg0 fun u0 hu0 => ?_
  refine int_get ⟨rfl, rfl⟩ hu0 (by omega) (n := b0) rfl ?_
  refine fldi_i (by kernel_rfl) (ld_i (by kernel_rfl) (hE.at_ hx10) rfl ?_)
  refine rr_row ⟨rfl, rfl⟩ (hr10.ext hE) (by omega) (hrowL 0 (by omega)) fun u1 hu1 => ?_
  refine int_len rfl hu1 ?_
  rw [tab_len]
  have hvals := hF.vals
  refine loopS_i (fun s w' => ∃ i : Nat, s = [i64 ((((valsL L).take i).filter (deepL depth)).length : Nat), i64 i] ∧ i ≤ (valsL L).length ∧ Ext w10 w') (fun s _ => (valsL L).length - (intOf (nth s 1)).toNat) ⟨0, by simp, by omega, hE⟩ ?_
  clear hu0 hu1 hE
  rintro g2 s2 w12 ⟨i, rfl, hi, hE⟩
  rw [nth0, nth1]
  refine rv_len rfl (hV10.ext hE) ?_
  refine lss_i (ifB_i (fun hlt2 => ?_) (fun hlt2 => ?_))
  · have hil : i < (valsL L).length := by omega
    have hgi := List.getElem?_eq_getElem hil
    obtain ⟨b, p, d, hl3, hb, hp, hd1, hdb⟩ := hent i _ hgi
    have htk : (valsL L).take (i + 1) = (valsL L).take i ++ [[b, (p : Int), d]] := by rw [List.take_succ_eq_append_getElem hil, hl3]
    rw [hl3] at hgi
    have hnp := hn p
    have hdtop : -1 ≤ d ∧ d ≤ 99 := by
      obtain ⟨v0, hv0⟩ := vals_ent ht hgi
      have := (vs_top (num := numL L) (nr := near (VW L) L.length) (l := ordK (VW L * L.length) (numL L) 100 0) (fun i => (hn i).2) _ (List.mem_of_getElem? hv0)).2
      have := (all_ok (W := VW L) (H := L.length) (num := numL L) h1 h3 hn).up _ _ hv0
      simp only at *
      omega
    have hcl : (((valsL L).take i).filter (deepL depth)).length ≤ 100000 := Nat.le_trans (List.length_filter_le _ _) (by rw [List.length_take]; omega)
    have hdeep : deepL depth [b, (p : Int), d] = decide (d = -1 ∨ depth ≤ d - b) := rfl
    have hstep : (((valsL L).take (i + 1)).filter (deepL depth)).length = (((valsL L).take i).filter (deepL depth)).length + if d = -1 ∨ depth ≤ d - b then 1 else 0 := by
      rw [htk, List.filter_append, List.length_append]
      congr 1
      by_cases hdd : d = -1 ∨ depth ≤ d - b
      · rw [List.filter_cons_of_pos (by rw [hdeep]; exact decide_eq_true hdd), if_pos hdd]; rfl
      · rw [List.filter_cons_of_neg (by rw [hdeep, decide_eq_false hdd]; simp), if_neg hdd]; rfl
    refine rv_row ⟨rfl, rfl⟩ (hV10.ext hE) (by omega) (by rw [Int.toNat_natCast]; exact hgi) fun ue hue => ?_
    refine joinS_k fun J hJ => ?_
    have cont : ∀ w', Ext w12 w' → J [i64 ((((valsL L).take (i + 1)).filter (deepL depth)).length : Nat)] w' := by
      intro w13 he13
      refine hJ _ _ fun _ => ?_
      rw [nth0]
      refine drawS_i ?_
      have hd13 := he13.trans (Same.drew w13).ext
      generalize w13.drew = w14 at hd13
      have hE14 := hE.trans hd13
      have hue14 := hue.ext hd13
      refine grey_ld (hE14.at_ hx10) ?_
      refine int_get ⟨rfl, rfl⟩ hue14 (by omega) (n := (p : Int)) rfl ?_
      have hW0 : 0 < VW L := h1
      obtain ⟨y, x, hyH, hxW, hpe, hq, hmm⟩ : ∃ y x : Nat, y < L.length ∧ x < VW L ∧ y * VW L + x = p ∧ (p : Int).tdiv (VW L : Int) = (y : Int) ∧ (p : Int).tmod (VW L : Int) = (x : Int) := by
        refine ⟨p / VW L, p % VW L, Nat.div_lt_of_lt_mul hp, Nat.mod_lt _ hW0, by rw [Nat.mul_comm]; exact Nat.div_add_mod p _, ?_, ?_⟩
        · rw [Int.tdiv_eq_ediv_of_nonneg (by omega)]; exact (Int.natCast_ediv _ _).symm
        · rw [Int.tmod_eq_emod_of_nonneg (by omega)]; exact (Int.natCast_emod _ _).symm
      refine rem_i (by omega) ?_
      rw [hmm]
      refine int_get ⟨rfl, rfl⟩ hue14 (by omega) (n := (p : Int)) rfl ?_
      refine quo_i (by omega) (by rw [hq]; exact .of (by omega) (by omega)) ?_
      rw [hq]
      refine build_i (cells := #[i64 (x : Int), i64 (y : Int)]) rfl rfl ?_
      have epair : Value.agg #[i64 (x : Int), i64 (y : Int)] = pairV (sp (VW L) p) := by rw [← hpe, sp_sq hxW]; rfl
      rw [epair]
      refine depthAt_c (hr10.ext hE14) hL9 hl9 ht hp fun deep five w15 he15 hf1 hf2 hdb' => ?_
      refine ext_i (v := i64 deep) rfl (ext_i (v := .bool five) rfl ?_)
      refine drawS_i ?_
      have hd15 := hd13.trans (he15.trans (Same.drew w15).ext)
      generalize w15.drew = w16 at hd15
      have hE16 := hE.trans hd15
      have hue16 := hue.ext hd15
      refine int_get ⟨rfl, rfl⟩ hue16 (by omega) (n := b) rfl ?_
      refine gtr_i ?_
      have hfive : five = decide (b > b0) := by
        rw [Bool.eq_iff_iff, hf1, decide_eq_true_eq]
        constructor
        · rintro ⟨s, s1, s2⟩
          have := hleast s s1; omega
        · intro k; exact ⟨p0, hp0, by omega⟩
      refine neqB_i (by kernel_rfl) hfive ?_
      have finish : (pur Pg (binOp Go.BinOp.add ty_int (i64 (i : Int)) (i64 1)) fun t132_125 => (fun (s' : List Value) (w' : World) => (∃ i : Nat, s' = [i64 ((((valsL L).take i).filter (deepL depth)).length : Nat), i64 i] ∧ i ≤ (valsL L).length ∧ Ext w10 w') ∧ (valsL L).length - (intOf (nth s' 1)).toNat < (valsL L).length - (intOf (i64 (i : Int))).toNat) [i64 ((((valsL L).take (i + 1)).filter (deepL depth)).length : Nat), t132_125] w16) := by
        refine add_i (.of (by omega) (by omega)) ?_
        exact ⟨⟨i + 1, by simp, by omega, hE16⟩, by simp only [nth1, intOf]; omega⟩
      rw [joinS_eq, ifG_eq_f, if_neg (by simp)]
      intro z1
      rw [nth0, joinS_eq]
      cases five with
      | false =>
        rw [ifG_eq_t, if_neg (by simp)]
        intro z2
        rw [joinS_eq, ifG_eq_f, if_neg (by simp), pickS_eq, cond_false]
        intro z3
        rw [nth0, joinS_eq, ifG_eq_t, if_neg (by simp)]
        intro z4
        rw [joinS_eq, ifG_eq_f, if_neg (by simp), pickS_eq, cond_false]
        intro z5
        rw [pickS_eq, cond_false, nth0, ifB_eq, if_neg (by simp)]
        exact finish
      | true =>
        obtain ⟨s, hh, s1, s2, s3, s4, s5, s6⟩ := hf2 rfl
        have hdh := vals_deep ht hgi s2 s3 s5
        rw [ifG_eq_t, if_pos rfl]
        refine int_get ⟨rfl, rfl⟩ hue16 (by omega) (n := d) rfl ?_
        refine geq_i ?_
        intro z2
        rw [joinS_eq, ifG_eq_f, if_neg (by simp), pickS_eq, cond_true, nth0]
        intro z3
        rw [nth0, joinS_eq]
        by_cases hdn : d ≥ 0
        · rw [decide_eq_true hdn, ifG_eq_t, if_pos rfl]
          refine int_get ⟨rfl, rfl⟩ hue16 (by omega) (n := d) rfl ?_
          refine int_get ⟨rfl, rfl⟩ hue16 (by omega) (n := b) rfl ?_
          refine sub_i (.of (by omega) (by omega)) ?_
          refine lss_i ?_
          rw [decide_eq_false (by omega)]
          intro z4
          rw [joinS_eq, ifG_eq_f, if_neg (by simp), pickS_eq, cond_true, nth0]
          intro z5
          rw [pickS_eq, cond_false, nth0, ifB_eq, if_neg (by simp)]
          exact finish
        · rw [decide_eq_false hdn, ifG_eq_t, if_neg (by simp)]
          intro z4
          rw [joinS_eq, ifG_eq_f, if_neg (by simp), pickS_eq, cond_false]
          intro z5
          rw [pickS_eq, cond_false, nth0, ifB_eq, if_neg (by simp)]
          exact finish
    clear hJ
    refine drawS_i ?_
    have hd13 := (Same.drew w12).ext
    have hue13 := hue.ext hd13
    have hE13 := hE.trans hd13
    generalize w12.drew = w13 at hd13 hue13 hE13
    refine int_get ⟨rfl, rfl⟩ hue13 (by omega) (n := d) rfl ?_
    refine eql_i ?_
    have deepCase : (d = -1 ∨ depth ≤ d - b) → rd Pg (Builtin.len_ #[ty_SSint64] ty_int #[r2]) w13 fun t154_144 =>
        pur Pg (binOp Go.BinOp.geq ty_int (i64 ((((valsL L).take i).filter (deepL depth)).length : Nat)) t154_144) fun t155_145 =>
        joinS (fun g146 s147 w =>
        pickS t155_145 (Go.Value.bool Bool.true) (nth s147 0) fun t164_149 =>
        ifB t164_149 (K (Go.Value.bool Bool.false) w)
        (pur Pg (binOp Go.BinOp.add ty_int (i64 ((((valsL L).take i).filter (deepL depth)).length : Nat)) (Go.Value.int Go.IntKind.i64 1)) fun t166_150 =>
        J [t166_150] w)) fun J148 =>
        ifG t155_145 false (pur Pg (Instr.indexAt ty_SSint64 r2 (i64 ((((valsL L).take i).filter (deepL depth)).length : Nat))) fun t159_151 =>
        rd Pg (Instr.loadAt ty_Sint64 t159_151) w13 fun t160_152 =>
        callS Pg n_laws_b10Nums #[t160_152, ue] w13 fun t162_153 w =>
        pur Pg (Op.unary Go.UnOp.not t162_153) fun t163_154 =>
        J148 [t163_154] w)
        (J148 [undef] w13) := by
      intro hdd
      have hfa := filter_at (p := deepL depth) hgi (by rw [hdeep]; exact decide_eq_true hdd)
      rw [← hvals] at hfa
      have hflt := (List.getElem?_eq_some_iff.1 hfa).1
      rw [if_pos hdd] at hstep
      rw [hstep] at cont
      refine rv_len rfl (hU10.ext hE13) ?_
      refine geq_i ?_
      rw [decide_eq_false (by omega), joinS_eq, ifG_eq_f, if_neg (by simp)]
      refine rv_row ⟨rfl, rfl⟩ (hU10.ext hE13) (by omega) (by rw [Int.toNat_natCast]; exact hfa) fun uf huf => ?_
      refine b10Nums_c huf hue13 (by simp) rfl fun w14 he14 => ?_
      refine not_i ?_
      intro z1
      rw [pickS_eq, cond_false, nth0, Bool.not_true, ifB_eq, if_neg (by simp)]
      refine add_i (.of (by omega) (by omega)) ?_
      have := cont w14 (hd13.trans he14)
      rw [show (((((valsL L).take i).filter (deepL depth)).length + 1 : Nat) : Int) = ((((valsL L).take i).filter (deepL depth)).length : Int) + 1 by omega] at this
      exact this
    by_cases hdm : d = -1
    · rw [decide_eq_true hdm, joinS_eq, ifG_eq_f, if_pos rfl]
      intro z1
      rw [pickS_eq, cond_true, ifB_eq, if_pos rfl]
      exact deepCase (.inl hdm)
    · rw [decide_eq_false hdm, joinS_eq, ifG_eq_f, if_neg (by simp)]
      refine int_get ⟨rfl, rfl⟩ hue13 (by omega) (n := d) rfl ?_
      refine int_get ⟨rfl, rfl⟩ hue13 (by omega) (n := b) rfl ?_
      refine sub_i (.of (by omega) (by omega)) ?_
      refine geq_i ?_
      intro z1
      rw [pickS_eq, cond_false, nth0]
      refine ifB_i (fun hge => deepCase (.inr (by omega))) (fun hge => ?_)
      rw [if_neg (by omega), Nat.add_zero] at hstep
      rw [hstep] at cont
      exact cont w13 hd13
  · have : i = (valsL L).length := by omega
    subst this
    refine rv_len rfl (hU10.ext hE) ?_
    refine eql_i ?_
    rw [List.take_length, hvals, decide_eq_true rfl]
    exact hK w12 (hE10.trans hE)
end Go.Proofs.Ytfdmphgbodmkpaa
