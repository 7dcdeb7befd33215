/- Contracts of the asking whether two pictures have the same valleys. -/
import Derived.Test.YtfdmphgbodmkpaaCLawV
set_option linter.unusedVariables false
set_option linter.unusedSimpArgs false
namespace Go.Proofs.Ytfdmphgbodmkpaa
open Go Go.SL Go.RowKit
set_option maxRecDepth 100000

theorem l00Same_c {w : World} {u1 u2 : Value} {l1 l2 : List Int} {b1 b2 : Nat} {K : Value → World → Prop} (h1 : Sl1 w ty_int64 u1 (l1.map i64) b1) (h2 : Sl1 w ty_int64 u2 (l2.map i64) b2) (hl : l1.length ≤ 1000000000) (hl2 : l2.length ≤ 1000000000)
    (hK : ∀ w', Ext w w' → K (.bool (decide (l1 = l2))) w') : callS Pg n_l00Same #[u1, u2] w K := by
  refine call_l00Same _ _ _ _ ?_
  unfold S_l00Same
  have no : l1 ≠ l2 → ∀ w', Ext w w' → K (.bool false) w' := fun h w' he => by have := hK w' he; rw [decide_eq_false h] at this; exact this
  refine int_len rfl h1 (int_len rfl h2 ?_)
  refine neq_i (ifB_i (fun hne => ?_) (fun hne => ?_))
  · exact no (fun e => hne (by rw [e])) w (Mod.refl _)
  · have hlen : l1.length = l2.length := by omega
    refine loopS_i (fun s w' => ∃ i : Nat, s = [i64 i] ∧ i ≤ l1.length ∧ Ext w w' ∧ l1.take i = l2.take i) (fun s _ => l1.length - (intOf (nth s 0)).toNat) ⟨0, rfl, by omega, Mod.refl _, rfl⟩ ?_
    rintro g s w2 ⟨i, rfl, hi, hE, hd⟩
    rw [nth0]
    refine int_len rfl (h1.ext hE) ?_
    refine lss_i (ifB_i (fun hlt => ?_) (fun hlt => ?_))
    · have hil : i < l1.length := by omega
      refine drawS_i ?_
      have hE2 := hE.trans (Same.drew w2).ext
      refine int_get ⟨rfl, rfl⟩ (h1.ext hE2) (by omega) (n := l1[i]) (by rw [Int.toNat_natCast, List.getElem?_eq_getElem hil]) ?_
      refine int_get ⟨rfl, rfl⟩ (h2.ext hE2) (by omega) (n := l2[i]) (by rw [Int.toNat_natCast, List.getElem?_eq_getElem (by omega)]) ?_
      refine neq_i (ifB_i (fun hx => ?_) (fun hx => ?_))
      · exact no (fun e => hx (by subst e; rfl)) _ hE2
      · refine add_i (.of (by omega) (by omega)) ?_
        refine ⟨⟨i + 1, by simp, by omega, hE2, ?_⟩, by simp only [nth0, intOf]; omega⟩
        rw [List.take_succ_eq_append_getElem hil, List.take_succ_eq_append_getElem (by omega), hd, Decidable.not_not.1 hx]
    · have : i = l1.length := by omega
      subst this
      rw [List.take_length, hlen, List.take_length] at hd
      have := hK w2 hE
      rw [decide_eq_true hd] at this; exact this
theorem sliceEqual_c {w : World} {u1 u2 : Value} {l1 l2 : List Int} {b1 b2 : Nat} {K : Value → World → Prop} (h1 : Sl1 w ty_int64 u1 (l1.map i64) b1) (h2 : Sl1 w ty_int64 u2 (l2.map i64) b2) (hl : l1.length ≤ 1000000000) (hl2 : l2.length ≤ 1000000000)
    (hK : ∀ w', Ext w w' → K (.bool (decide (l1 = l2))) w') : callS Pg n_slices_Equal_int64_int64 #[u1, u2] w K := by
  refine call_slices_Equal_int64_int64 _ _ _ _ ?_
  unfold S_slices_Equal_int64_int64
  have no : l1 ≠ l2 → ∀ w', Ext w w' → K (.bool false) w' := fun h w' he => by have := hK w' he; rw [decide_eq_false h] at this; exact this
  refine int_len rfl h1 (int_len rfl h2 ?_)
  refine neq_i (ifB_i (fun hne => ?_) (fun hne => ?_))
  · exact no (fun e => hne (by rw [e])) w (Mod.refl _)
  · have hlen : l1.length = l2.length := by omega
    refine int_len rfl h1 ?_
    refine loopS_i (fun s w' => ∃ i : Nat, s = [i64 i] ∧ i ≤ l1.length ∧ Ext w w' ∧ l1.take i = l2.take i) (fun s _ => l1.length - (intOf (nth s 0)).toNat) ⟨0, rfl, by omega, Mod.refl _, rfl⟩ ?_
    rintro g s w2 ⟨i, rfl, hi, hE, hd⟩
    rw [nth0]
    refine lss_i (ifB_i (fun hlt => ?_) (fun hlt => ?_))
    · have hil : i < l1.length := by omega
      refine drawS_i ?_
      have hE2 := hE.trans (Same.drew w2).ext
      refine int_get ⟨rfl, rfl⟩ (h1.ext hE2) (by omega) (n := l1[i]) (by rw [Int.toNat_natCast, List.getElem?_eq_getElem hil]) ?_
      refine int_get ⟨rfl, rfl⟩ (h2.ext hE2) (by omega) (n := l2[i]) (by rw [Int.toNat_natCast, List.getElem?_eq_getElem (by omega)]) ?_
      refine neq_i (ifB_i (fun hx => ?_) (fun hx => ?_))
      · exact no (fun e => hx (by subst e; rfl)) _ hE2
      · refine add_i (.of (by omega) (by omega)) ?_
        refine ⟨⟨i + 1, by simp, by omega, hE2, ?_⟩, by simp only [nth0, intOf]; omega⟩
        rw [List.take_succ_eq_append_getElem hil, List.take_succ_eq_append_getElem (by omega), hd, Decidable.not_not.1 hx]
    · have : i = l1.length := by omega
      subst this
      rw [List.take_length, hlen, List.take_length] at hd
      have := hK w2 hE
      rw [decide_eq_true hd] at this; exact this
theorem sameLists_c {w : World} {v1 v2 : Value} {L1 L2 : List (List Int)} {b1 b2 : Nat} {r1 r2 : Nat → Nat} {K : Value → World → Prop} (h1 : RR w v1 L1 b1 r1) (h2 : RR w v2 L2 b2 r2) (hL1 : L1.length ≤ 1000000000) (hL2 : L2.length ≤ 1000000000) (hl1 : ∀ l ∈ L1, l.length ≤ 1000000000) (hl2 : ∀ l ∈ L2, l.length ≤ 1000000000)
    (hK : ∀ w', Ext w w' → K (.bool (decide (L1 = L2))) w') : callS Pg n_sameLists #[v1, v2] w K := by
  refine call_sameLists _ _ _ _ ?_
  unfold S_sameLists
  refine call_slices_EqualFunc_int64_int64_int64_int64 _ _ _ _ _ ?_
  unfold S_slices_EqualFunc_int64_int64_int64_int64
  have no : L1 ≠ L2 → ∀ w', Ext w w' → K (.bool false) w' := fun h w' he => by have := hK w' he; rw [decide_eq_false h] at this; exact this
  refine rr_len rfl h1 (rr_len rfl h2 ?_)
  refine neq_i (ifB_i (fun hne => ?_) (fun hne => ?_))
  · exact no (fun e => hne (by rw [e])) w (Mod.refl _)
  · have hlen : L1.length = L2.length := by omega
    refine rr_len rfl h1 ?_
    refine loopS_i (fun s w' => ∃ i : Nat, s = [i64 i] ∧ i ≤ L1.length ∧ Ext w w' ∧ L1.take i = L2.take i) (fun s _ => L1.length - (intOf (nth s 0)).toNat) ⟨0, rfl, by omega, Mod.refl _, rfl⟩ ?_
    rintro g s w2 ⟨i, rfl, hi, hE, hd⟩
    rw [nth0]
    refine lss_i (ifB_i (fun hlt => ?_) (fun hlt => ?_))
    · have hil : i < L1.length := by omega
      refine rr_row ⟨rfl, rfl⟩ (h1.ext hE) (by omega) (l := L1[i]) (by rw [Int.toNat_natCast, List.getElem?_eq_getElem hil]) fun u1 hu1 => ?_
      refine rr_row ⟨rfl, rfl⟩ (h2.ext hE) (by omega) (l := L2[i]) (by rw [Int.toNat_natCast, List.getElem?_eq_getElem (by omega)]) fun u2 hu2 => ?_
      refine callV_i ?_
      refine call_sameLists_1 _ _ _ _ ?_
      unfold S_sameLists_1
      refine sliceEqual_c hu1 hu2 (hl1 _ (List.getElem_mem hil)) (hl2 _ (List.getElem_mem (by omega))) fun w3 he3 => ?_
      refine not_i ?_
      by_cases hx : L1[i] = L2[i]
      · rw [decide_eq_true hx, Bool.not_true, ifB_eq, if_neg (by simp)]
        refine add_i (.of (by omega) (by omega)) ?_
        refine ⟨⟨i + 1, by simp, by omega, hE.trans he3, ?_⟩, by simp only [nth0, intOf]; omega⟩
        rw [List.take_succ_eq_append_getElem hil, List.take_succ_eq_append_getElem (by omega), hd, hx]
      · rw [decide_eq_false hx, Bool.not_false, ifB_eq, if_pos rfl]
        exact no (fun e => hx (by subst e; rfl)) _ (hE.trans he3)
    · have : i = L1.length := by omega
      subst this
      rw [List.take_length, hlen, List.take_length] at hd
      have := hK w2 hE
      rw [decide_eq_true hd] at this; exact this

/-- Whether two pictures have the same valleys. -/
def sameV (L1 L2 : List (List Int)) : Bool := decide (TableOk 99 L1 ∧ TableOk 99 L2 ∧ valsL L1 = valsL L2)
theorem valsL_pos {L : List (List Int)} (h : TableOk 99 L) : valsL L = lastL (runV (numL L) (near (VW L) L.length) (ordK (VW L * L.length) (numL L) 100 0)).vs := by unfold valsL; rw [if_pos h]

theorem specSame_c {w : World} {v1 v2 : Value} {L1 L2 : List (List Int)} {b1 b2 : Nat} {r1 r2 : Nat → Nat} {K : Value → World → Prop} (h1 : RR w v1 L1 b1 r1) (h2 : RR w v2 L2 b2 r2) (hL1 : L1.length ≤ 1000000000) (hL2 : L2.length ≤ 1000000000) (hl1 : ∀ l ∈ L1, l.length ≤ 1000000000) (hl2 : ∀ l ∈ L2, l.length ≤ 1000000000)
    (hK : ∀ w', Ext w w' → K (.bool (sameV L1 L2)) w') : callS Pg n_spec_SameValleys #[.agg #[v1], .agg #[v2]] w K := by
  refine call_spec_SameValleys _ _ _ _ ?_
  unfold S_spec_SameValleys
  have no : ¬ (TableOk 99 L1 ∧ TableOk 99 L2 ∧ valsL L1 = valsL L2) → ∀ w', Ext w w' → K (.bool false) w' := fun hn w' he => by have := hK w' he; unfold sameV at this; rw [decide_eq_false hn] at this; exact this
  have yes : (TableOk 99 L1 ∧ TableOk 99 L2 ∧ valsL L1 = valsL L2) → ∀ w', Ext w w' → K (.bool true) w' := fun hn w' he => by have := hK w' he; unfold sameV at this; rw [decide_eq_true hn] at this; exact this
  refine box_i fun p w1 g1 => ?_
  refine box_i fun q w2 g2 => ?_
  have hE2 := g1.ext.trans g2.ext
  have hp : w2.heap[p]? = some (row #[v1] ty_impl_Grey) := g2.ext.at_ g1.at_
  have hq : w2.heap[q]? = some (row #[v2] ty_impl_Grey) := g2.at_
  refine l07Is_c hp (h1.ext hE2) hL1 hl1 fun w3 he3 => ?_
  refine not_i ?_
  have hE3 := hE2.trans he3
  by_cases t1 : TableOk 99 L1
  · rw [decide_eq_true t1, Bool.not_true, joinS_eq, ifG_eq_f, if_neg (by simp)]
    refine l07Is_c (he3.at_ hq) (h2.ext hE3) hL2 hl2 fun w4 he4 => ?_
    refine not_i ?_
    intro g
    rw [pickS_eq, cond_false, nth0]
    have hE4 := hE3.trans he4
    by_cases t2 : TableOk 99 L2
    · rw [decide_eq_true t2, Bool.not_true, ifB_eq, if_neg (by simp)]
      refine l09Pairs_c (gp_of t1 (he4.at_ (he3.at_ hp)) (h1.ext hE4)) fun x c rc w5 he5 hF hr => ?_
      rw [← valsL_pos t1] at hF hr
      have hE5 := hE4.trans he5
      refine l09Pairs_c (gp_of t2 (he5.at_ (he4.at_ (he3.at_ hq))) (h2.ext hE5)) fun y c2 rc2 w6 he6 hF2 hr2 => ?_
      rw [← valsL_pos t2] at hF2 hr2
      have hE6 := hE5.trans he6
      have hr6 := hr.ext he6
      obtain ⟨z1, z3⟩ := valsL_le (L := L1)
      obtain ⟨z2, z4⟩ := valsL_le (L := L2)
      refine rr_len rfl hr6 (rr_len rfl hr2 ?_)
      refine neq_i (ifB_i (fun hne => no (fun k => hne (by rw [k.2.2])) w6 hE6) (fun hne => ?_))
      have hlen : (valsL L1).length = (valsL L2).length := by omega
      refine rr_len rfl hr6 ?_
      refine loopS_i (fun s w' => ∃ i : Nat, s = [i64 i] ∧ i ≤ (valsL L1).length ∧ Ext w6 w' ∧ (valsL L1).take i = (valsL L2).take i) (fun s _ => (valsL L1).length - (intOf (nth s 0)).toNat) ⟨0, rfl, by omega, Mod.refl _, rfl⟩ ?_
      rintro g s w7 ⟨i, rfl, hi, hE, hd⟩
      rw [nth0]
      refine lss_i (ifB_i (fun hlt => ?_) (fun hlt => ?_))
      · have hil : i < (valsL L1).length := by omega
        refine drawS_i ?_
        have hE8 := hE.trans (Same.drew w7).ext
        refine rr_row ⟨rfl, rfl⟩ (hr6.ext hE8) (by omega) (l := (valsL L1)[i]) (by rw [Int.toNat_natCast, List.getElem?_eq_getElem hil]) fun u1 hu1 => ?_
        refine rr_row ⟨rfl, rfl⟩ (hr2.ext hE8) (by omega) (l := (valsL L2)[i]) (by rw [Int.toNat_natCast, List.getElem?_eq_getElem (by omega)]) fun u2 hu2 => ?_
        refine l00Same_c hu1 hu2 (by rw [z3 _ (List.getElem_mem hil)]; omega) (by rw [z4 _ (List.getElem_mem (by omega))]; omega) fun w9 he9 => ?_
        refine not_i ?_
        by_cases hx : (valsL L1)[i] = (valsL L2)[i]
        · rw [decide_eq_true hx, Bool.not_true, ifB_eq, if_neg (by simp)]
          refine add_i (.of (by omega) (by omega)) ?_
          refine ⟨⟨i + 1, by simp, by omega, hE8.trans he9, ?_⟩, by simp only [nth0, intOf]; omega⟩
          rw [List.take_succ_eq_append_getElem hil, List.take_succ_eq_append_getElem (by omega), hd, hx]
        · rw [decide_eq_false hx, Bool.not_false, ifB_eq, if_pos rfl]
          refine no (fun k => hx ?_) _ (hE6.trans (hE8.trans he9))
          have := congrArg (fun l => l[i]?) k.2.2
          simp only [List.getElem?_eq_getElem hil, List.getElem?_eq_getElem (show i < (valsL L2).length by omega), Option.some.injEq] at this
          exact this
      · have : i = (valsL L1).length := by omega
        subst this
        rw [List.take_length, hlen, List.take_length] at hd
        exact yes ⟨t1, t2, hd⟩ w7 (hE6.trans hE)
    · rw [decide_eq_false t2, Bool.not_false, ifB_eq, if_pos rfl]
      exact no (fun k => t2 k.2.1) w4 hE4
  · rw [decide_eq_false t1, Bool.not_false, joinS_eq, ifG_eq_f, if_pos rfl]
    intro g
    rw [pickS_eq, cond_true, ifB_eq, if_pos rfl]
    exact no (fun k => t1 k.1) w3 hE3

theorem implSame_c {w : World} {v1 v2 : Value} {L1 L2 : List (List Int)} {b1 b2 : Nat} {r1 r2 : Nat → Nat} {K : Value → World → Prop} (h1 : RR w v1 L1 b1 r1) (h2 : RR w v2 L2 b2 r2) (hL1 : L1.length ≤ 1000000000) (hL2 : L2.length ≤ 1000000000) (hl1 : ∀ l ∈ L1, l.length ≤ 1000000000) (hl2 : ∀ l ∈ L2, l.length ≤ 1000000000)
    (hK : ∀ w', Ext w w' → K (.bool (sameV L1 L2)) w') : callS Pg n_impl_SameValleys #[.agg #[v1], .agg #[v2]] w K := by
  refine call_impl_SameValleys _ _ _ _ ?_
  unfold S_impl_SameValleys
  have no : ¬ (TableOk 99 L1 ∧ TableOk 99 L2 ∧ valsL L1 = valsL L2) → ∀ w', Ext w w' → K (.bool false) w' := fun hn w' he => by have := hK w' he; unfold sameV at this; rw [decide_eq_false hn] at this; exact this
  refine box_i fun p w1 g1 => ?_
  refine box_i fun q w2 g2 => ?_
  have hE2 := g1.ext.trans g2.ext
  have hp : w2.heap[p]? = some (row #[v1] ty_impl_Grey) := g2.ext.at_ g1.at_
  have hq : w2.heap[q]? = some (row #[v2] ty_impl_Grey) := g2.at_
  refine grey_ld hp ?_
  refine validGrey_c (h1.ext hE2) hL1 hl1 fun w3 he3 => ?_
  have hE3 := hE2.trans he3
  by_cases t1 : TableOk 99 L1
  · rw [decide_eq_true t1, joinS_eq, ifG_eq_t, if_pos rfl]
    refine grey_ld (he3.at_ hq) ?_
    refine validGrey_c (h2.ext hE3) hL2 hl2 fun w4 he4 => ?_
    intro g
    rw [pickS_eq, cond_true, nth0]
    have hE4 := hE3.trans he4
    by_cases t2 : TableOk 99 L2
    · rw [decide_eq_true t2, joinS_eq, ifG_eq_t, if_pos rfl]
      refine lasting_c (gp_of t1 (he4.at_ (he3.at_ hp)) (h1.ext hE4)) (rect_num t1).2.2.2.2.2 fun x c rc w5 he5 hF hr => ?_
      rw [← valsL_pos t1] at hF hr
      have hE5 := hE4.trans he5
      refine lasting_c (gp_of t2 (he5.at_ (he4.at_ (he3.at_ hq))) (h2.ext hE5)) (rect_num t2).2.2.2.2.2 fun y c2 rc2 w6 he6 hF2 hr2 => ?_
      rw [← valsL_pos t2] at hF2 hr2
      obtain ⟨z1, z3⟩ := valsL_le (L := L1)
      obtain ⟨z2, z4⟩ := valsL_le (L := L2)
      refine sameLists_c (hr.ext he6) hr2 (by omega) (by omega) (fun l hl => by rw [z3 l hl]; omega) (fun l hl => by rw [z4 l hl]; omega) fun w7 he7 => ?_
      intro g2
      rw [pickS_eq, cond_true, nth0]
      have := hK w7 (hE5.trans (he6.trans he7))
      have e : sameV L1 L2 = decide (valsL L1 = valsL L2) := by unfold sameV; exact decide_eq_decide.2 ⟨fun k => k.2.2, fun k => ⟨t1, t2, k⟩⟩
      rw [e] at this; exact this
    · rw [decide_eq_false t2, joinS_eq, ifG_eq_t, if_neg (by simp)]
      intro g2
      rw [pickS_eq, cond_false]
      exact no (fun k => t2 k.2.1) w4 hE4
  · rw [decide_eq_false t1, joinS_eq, ifG_eq_t, if_neg (by simp)]
    intro g
    rw [pickS_eq, cond_false, joinS_eq, ifG_eq_t, if_neg (by simp)]
    intro g2
    rw [pickS_eq, cond_false]
    exact no (fun k => t1 k.1) w3 hE3

theorem law_SameValleys_c {w : World} {u1 u2 : Value} {L1 L2 : List (List Int)} {K : Value → World → Prop} (h1 : ArgR w u1 L1) (h2 : ArgR w u2 L2) (hL1 : L1.length ≤ big) (hl1 : ∀ l ∈ L1, l.length ≤ big) (hL2 : L2.length ≤ big) (hl2 : ∀ l ∈ L2, l.length ≤ big) (hK : ∀ w', Ext w w' → K (.bool true) w') : callS Pg n_laws_FnExactSameValleys #[.agg #[u1], .agg #[u2]] w K := by
  refine call_laws_FnExactSameValleys _ _ _ _ ?_
  unfold S_laws_FnExactSameValleys
  refine box_i fun p w1 g1 => ?_
  refine box_i fun q w2 g2 => ?_
  have hE2 := g1.ext.trans g2.ext
  have hp : w2.heap[p]? = some (row #[u1] ty_laws_Grey) := g2.ext.at_ g1.at_
  have hq : w2.heap[q]? = some (row #[u2] ty_laws_Grey) := g2.at_
  have ldA : ∀ {p : Nat} {u : Value} {w' : World} {K : Value → Prop}, w'.heap[p]? = some (row #[u] ty_laws_Grey) → K (.agg #[u]) → rd Pg (Instr.loadAt ty_laws_Grey (ptr p 0)) w' K := fun hp hK => ldn_i (n := 1) (by kernel_rfl) hp (Nat.le_refl 1) rfl hK
  refine ldA hp ?_
  refine szG_c (h1.ext hE2) ⟨by omega, by omega⟩ hL1 hl1 fun m w3 he3 hm0 hm1 hm2 => ?_
  have hE3 := hE2.trans he3
  refine lss_i (ifB_i (fun hneg => hK w3 hE3) (fun hneg => ?_))
  refine ldA (he3.at_ hq) ?_
  refine szG_c (h2.ext hE3) ⟨by omega, by omega⟩ hL2 hl2 fun m' w4 he4 ha0 ha1 ha2 => ?_
  have hE4 := hE3.trans he4
  refine lss_i (ifB_i (fun hneg2 => hK w4 hE4) (fun hneg2 => ?_))
  obtain ⟨k1, k2⟩ := hm2 (by omega)
  obtain ⟨j1, j2⟩ := ha2 (by omega)
  have k19 : L1.length ≤ 1000000000 := by omega
  have k29 : ∀ l ∈ L1, l.length ≤ 1000000000 := fun l hl' => by have := k2 l hl'; omega
  have j19 : L2.length ≤ 1000000000 := by omega
  have j29 : ∀ l ∈ L2, l.length ≤ 1000000000 := fun l hl' => by have := j2 l hl'; omega
  have hd := (Same.drew w4).ext
  have h45 := (he3.trans he4).trans hd
  have hp5 := h45.at_ hp
  have hq5 := h45.at_ hq
  have hE5 := hE4.trans hd
  refine drawF_i (fun w' => w'.heap[q]? = some (row #[u2] ty_laws_Grey)) hq5 ?_
  refine ldA hp5 ?_
  refine rdF_i (v := .agg #[u2]) (fun w' hw' => ldn_run (n := 1) (by kernel_rfl) hw' (Nat.le_refl 1)) ?_
  generalize w4.drew = w5 at hp5 hq5 hE5 ⊢
  refine toG_c (h1.ext hE5) k1 k2 fun v1 b1 rb1 w6 he6 hF1 hr1 => ?_
  have hE6 := hE5.trans he6
  refine ⟨he6.at_ hq5, ?_⟩
  refine toG_c (h2.ext hE6) j1 j2 fun v2 b2 rb2 w7 he7 hF2 hr2 => ?_
  have hE7 := hE6.trans he7
  refine specSame_c (hr1.ext he7) hr2 k19 j19 k29 j29 fun w8 he8 => ?_
  have hE8 := hE7.trans he8
  have hp8 := (he6.trans (he7.trans he8)).at_ hp5
  have hq8 := (he6.trans (he7.trans he8)).at_ hq5
  refine ldA hp8 ?_
  refine toG_c (h1.ext hE8) k1 k2 fun v3 b3 rb3 w9 he9 hF3 hr3 => ?_
  have hv3 := hr3.one
  refine varn_i (n := 1) (by kernel_rfl) rfl rfl rfl (by intro x hx; simp at hx; subst hx; exact hv3) fun xb w10 g10 => ?_
  have hx10 : w10.heap[xb]? = some (row #[v3] ty_impl_Grey) := g10.at_
  have he810 := he9.trans g10.ext
  have hE10 := hE8.trans he810
  refine ldA (he810.at_ hq8) ?_
  refine toG_c (h2.ext hE10) j1 j2 fun v4 b4 rb4 w11 he11 hF4 hr4 => ?_
  have hv4 := hr4.one
  refine varn_i (n := 1) (by kernel_rfl) rfl rfl rfl (by intro x hx; simp at hx; subst hx; exact hv4) fun yb w12 g12 => ?_
  have hy12 : w12.heap[yb]? = some (row #[v4] ty_impl_Grey) := g12.at_
  have he1012 := he11.trans g12.ext
  have hE12 := hE10.trans he1012
  have hx12 := he1012.at_ hx10
  refine grey_ld hx12 ?_
  refine grey_ld hy12 ?_
  have hr3' := (hr3.ext g10.ext).ext he1012
  have hr4' := hr4.ext g12.ext
  refine implSame_c hr3' hr4' k19 j19 k29 j29 fun w13 he13 => ?_
  refine neqBool_i (by kernel_rfl) ?_
  rw [beq_self_eq_true, Bool.not_true, ifB_eq, if_neg (by simp)]
  have hE13 := hE12.trans he13
  have hd13 := (Same.drew w13).ext
  have he1214 := he13.trans hd13
  have hE14 := hE13.trans hd13
  have hp12 := (he810.trans he1012).at_ hp8
  have hq12 := (he810.trans he1012).at_ hq8
  refine drawF_i (fun w' => w'.heap[xb]? = some (row #[v3] ty_impl_Grey)) (he1214.at_ hx12) ?_
  refine rdF_i (v := .agg #[v3]) (fun w' hw' => ldn_run (n := 1) (by kernel_rfl) hw' (Nat.le_refl 1)) ?_
  refine ldA (he1214.at_ hp12) ?_
  refine toG_c (h1.ext hE14) k1 k2 fun v5 b5 rb5 w15 he15 hF5 hr5 => ?_
  have he1215 := he1214.trans he15
  refine ⟨he1215.at_ hx12, ?_⟩
  refine eqG_c (.inr (hr3'.ext he1215)) (.inr hr5) k19 k19 k29 k29 fun w16 he16 => ?_
  rw [decide_eq_true rfl]
  refine not_i ?_
  rw [Bool.not_true, ifB_eq, if_neg (by simp)]
  have hd16 := (Same.drew w16).ext
  have he1217 := (he1215.trans he16).trans hd16
  have hE17 := hE12.trans he1217
  refine drawF_i (fun w' => w'.heap[yb]? = some (row #[v4] ty_impl_Grey)) (he1217.at_ hy12) ?_
  refine rdF_i (v := .agg #[v4]) (fun w' hw' => ldn_run (n := 1) (by kernel_rfl) hw' (Nat.le_refl 1)) ?_
  refine ldA (he1217.at_ hq12) ?_
  refine toG_c (h2.ext hE17) j1 j2 fun v6 b6 rb6 w18 he18 hF6 hr6 => ?_
  have he1218 := he1217.trans he18
  refine ⟨he1218.at_ hy12, ?_⟩
  refine eqG_c (.inr (hr4'.ext he1218)) (.inr hr6) j19 j19 j29 j29 fun w19 he19 => ?_
  rw [decide_eq_true rfl]
  refine not_i ?_
  rw [Bool.not_true, ifB_eq, if_neg (by simp)]
  exact hK w19 (hE12.trans (he1218.trans he19))
end Go.Proofs.Ytfdmphgbodmkpaa
