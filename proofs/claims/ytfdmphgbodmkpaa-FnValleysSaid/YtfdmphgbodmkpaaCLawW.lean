/- The law FnValleys. -/
import Derived.Test.YtfdmphgbodmkpaaCBelow3
import Derived.Test.YtfdmphgbodmkpaaCSrc
import Derived.Test.YtfdmphgbodmkpaaCSame
set_option linter.unusedVariables false
set_option linter.unusedSimpArgs false
namespace Go.Proofs.Ytfdmphgbodmkpaa
open Go Go.SL Go.RowKit
set_option maxRecDepth 100000

theorem ent_get {w : World} {v : Value} {L : List (List Int)} {b0 : Nat} {rb : Nat → Nat} {i : Nat} {l : List Int} {f n : Int} {K : Value → Prop} (h : RV w v L b0 rb) (hi : L[i]? = some l) (h0 : 0 ≤ f) (hf : l[f.toNat]? = some n) (hK : K (i64 n)) :
    pur Pg (Instr.indexAt ty_SSint64 v (i64 (i : Int))) fun t => rd Pg (Instr.loadAt ty_Sint64 t) w fun u => pur Pg (Instr.indexAt ty_Sint64 u (i64 f)) fun t => rd Pg (Instr.loadAt ty_int64 t) w K :=
  rv_row ⟨rfl, rfl⟩ h (by omega) (by rw [Int.toNat_natCast]; exact hi) fun _ hu => int_get ⟨rfl, rfl⟩ hu h0 hf hK
theorem vals_pos {L : List (List Int)} (ht : TableOk 99 L) : valsL L ≠ [] ∧ ∀ (j : Nat) (l : List Int), (valsL L)[j]? = some l → ∃ (b : Int) (p : Nat) (d : Int), l = [b, (p : Int), d] ∧ b = numL L p ∧ p < VW L * L.length ∧ (j = 0 ↔ d = -1) ∧ (0 < j → b < d) := by
  obtain ⟨_, h1, _, h3, _, hn⟩ := rect_num ht
  rw [valsL_pos ht]
  exact lastL_mem (all_ok h1 h3 hn) fun q => (hn q).1
theorem vals_count {L : List (List Int)} (ht : TableOk 99 L) {lv : Nat} (hlv : lv ≤ 99) : (valsL L).countP (aliveL lv) = belowN (VW L) L.length (numL L) lv := by
  obtain ⟨_, h1, _, h3, _, hn⟩ := rect_num ht
  rw [valsL_pos ht, lastL_count fun e he => ?_, level_comps (near_symm h1) hn hlv]
  · rfl
  · exact (vs_ok (ordK_sorted _ _ 100 0) (fun x _ => (hn x).1) e he).1
theorem below_all {L : List (List Int)} (ht : TableOk 99 L) : belowN (VW L) L.length (numL L) 99 = 1 := by
  obtain ⟨_, h1, _, h3, _, hn⟩ := rect_num ht
  rw [← comps_one (W := VW L) (H := L.length) h1 h3]
  refine comps_congr fun q => ⟨fun h => h.1, fun h => ⟨h, (hn q).2⟩⟩

theorem law_Valleys_c {w : World} {u v : Value} {l m : List Int} {K : Value → World → Prop} (hu : ArgB w u l) (hv : ArgB w v m) (hK : ∀ w', Ext w w' → K (.bool true) w') : callS Pg n_laws_FnValleys #[u, v] w K := by
  refine call_laws_FnValleys _ _ _ _ ?_
  unfold S_laws_FnValleys
  refine b10Long_c hu hv fun lg hlg => ?_
  refine ifB_b (fun _ => hK w (Mod.refl _)) (fun hlg' => ?_)
  obtain ⟨hl, _⟩ := hlg hlg'
  refine b10Grey_c hu hl fun gv c0 rc0 W0 H0 num0 w1 he1 hF1 hr1 hW0 hW6 hH0 hH6 hn0 => ?_
  have ht : TableOk 99 (rect W0 H0 num0) := rect_ok (by omega) (by omega) (by omega) (by omega) fun i _ => ⟨(hn0 i).1, by have := (hn0 i).2; omega⟩
  generalize rect W0 H0 num0 = L at hr1 ht
  clear hW0 hW6 hH0 hH6 hn0 hF1
  obtain ⟨hLe, h1, h2, h3, h4, hn⟩ := rect_num ht
  have hL9 : L.length ≤ 1000000000 := by omega
  have hl9 : ∀ l ∈ L, l.length ≤ 1000000000 := fun l hl => by
    have := (ht.2.2 l hl).1
    have := ht.2.1.2; omega
  have hgv1 := hr1.one
  refine varn_i (n := 1) (by kernel_rfl) rfl rfl rfl (by intro x hx; simp at hx; subst hx; exact hgv1) fun xb w2 g2 => ?_
  have hx2 : w2.heap[xb]? = some (row #[gv] ty_impl_Grey) := g2.at_
  have hE2 := he1.trans g2.ext
  have hr2 := hr1.ext g2.ext
  refine grey_ld hx2 ?_
  refine implValleysOf_c hr2 hL9 hl9 fun r1 c1 rc1 w3 he3 hV => ?_
  have hV3 : RV w3 r1 (valsL L) c1 rc1 := hV.imp id fun h => h.1
  rw [decide_eq_true ht]
  refine ext_i rfl (ext_i rfl ?_)
  have hE3 := hE2.trans he3
  have hx3 := he3.at_ hx2
  have hr3 := hr2.ext he3
  refine grey_ld hx3 ?_
  refine levelCounts_c hr3 hL9 hl9 ht fun cv cb w4 he4 hcv => ?_
  refine ext_i rfl (ext_i rfl ?_)
  have hE4 := hE3.trans he4
  have hx4 := he4.at_ hx3
  have hr4 := hr3.ext he4
  have hV4 := hV3.ext he4
  clear hV hV3 hr1 hr2 hr3 hx2 hx3
  obtain ⟨hne, hent⟩ := vals_pos ht
  obtain ⟨hvl, _⟩ := valsL_le (L := L)
  have hvpos : 0 < (valsL L).length := List.length_pos_iff.2 hne
  refine not_i ?_
  rw [Bool.not_true, joinS_eq, ifG_eq_f, if_neg (by simp)]
  refine not_i ?_
  intro g1
  rw [pickS_eq, cond_false, nth0, Bool.not_true, joinS_eq, ifG_eq_f, if_neg (by simp)]
  refine rv_len rfl hV4 ?_
  refine eql_i ?_
  intro g2
  rw [pickS_eq, cond_false, nth0, decide_eq_false (by omega), joinS_eq, ifG_eq_f, if_neg (by simp)]
  refine int_len rfl hcv ?_
  rw [tab_len]
  refine neq_i ?_
  intro g3
  rw [pickS_eq, cond_false, nth0, decide_eq_false (by omega), joinS_eq, ifG_eq_f, if_neg (by simp)]
  refine grey_ld hx4 ?_
  refine grey_ld hx4 ?_
  refine implSame_c hr4 hr4 hL9 hL9 hl9 hl9 fun w5 he5 => ?_
  have hsame : sameV L L = true := by unfold sameV; exact decide_eq_true ⟨ht, ht, rfl⟩
  rw [hsame]
  refine not_i ?_
  intro g4
  rw [pickS_eq, cond_false, nth0, Bool.not_true, ifB_eq, if_neg (by simp)]
  have hE5 := hE4.trans he5
  have hx5 := he5.at_ hx4
  have hr5 := hr4.ext he5
  have hV5 := hV4.ext he5
  have hcv5 := hcv.ext he5
  clear hx4 hr4 hV4 hcv
  have hrow0 : L[((0 : Int)).toNat]? = some (tab (VW L) fun x => numL L (0 * VW L + x)) := by
    have e := rect_get (W := VW L) (H := L.length) (num := numL L) (y := 0) (by omega)
    rw [← hLe] at e; exact e
  have ha : VW L * L.length ≤ 256 := Nat.mul_le_mul h2 h4
  refine loopS_i (fun s w' => ∃ i : Nat, s = [i64 i] ∧ i ≤ (valsL L).length ∧ Ext w5 w') (fun s _ => (valsL L).length - (intOf (nth s 0)).toNat) ⟨0, rfl, by omega, Mod.refl _⟩ ?_
  rintro g s w6 ⟨i, rfl, hi, hE⟩
  rw [nth0]
  refine rv_len rfl (hV5.ext hE) ?_
  refine lss_i (ifB_i (fun hlt => ?_) (fun hlt => ?_))
  · have hil : i < (valsL L).length := by omega
    have hgi := List.getElem?_eq_getElem hil
    obtain ⟨b, p, d, hl3, hb, hp, hd0, hdb⟩ := hent i _ hgi
    rw [hl3] at hgi
    refine drawS_i ?_
    have hE7 := hE.trans (Same.drew w6).ext
    generalize w6.drew = w7 at hE7
    have hV7 := hV5.ext hE7
    have hx7 := hE7.at_ hx5
    have hr7 := hr5.ext hE7
    refine rv_row ⟨rfl, rfl⟩ hV7 (by omega) (by rw [Int.toNat_natCast]; exact hgi) fun u1 hu1 => ?_
    refine int_len rfl hu1 ?_
    refine neq_i ?_
    rw [decide_eq_false (by simp), joinS_eq, ifG_eq_f, if_neg (by simp)]
    refine ent_get hV7 hgi (by omega) (f := 1) rfl ?_
    refine lss_i ?_
    intro q1
    rw [pickS_eq, cond_false, nth0, decide_eq_false (by omega), joinS_eq, ifG_eq_f, if_neg (by simp)]
    refine ent_get hV7 hgi (by omega) (f := 1) rfl ?_
    refine fldi_i (by kernel_rfl) (ld_i (by kernel_rfl) hx7 rfl ?_)
    refine rr_len rfl hr7 ?_
    refine fldi_i (by kernel_rfl) (ld_i (by kernel_rfl) hx7 rfl ?_)
    refine rr_row ⟨rfl, rfl⟩ hr7 (by omega) hrow0 fun u2 hu2 => ?_
    refine int_len rfl hu2 ?_
    rw [tab_len]
    have emul : (L.length : Int) * (VW L : Int) = ((VW L * L.length : Nat) : Int) := by rw [Nat.mul_comm, Int.natCast_mul]
    refine mul_i (.of (by omega) (by omega)) ?_
    rw [emul]
    refine geq_i ?_
    intro q2
    rw [pickS_eq, cond_false, nth0, decide_eq_false (by omega), ifB_eq, if_neg (by simp)]
    refine fldi_i (by kernel_rfl) (ld_i (by kernel_rfl) hx7 rfl ?_)
    refine rr_row ⟨rfl, rfl⟩ hr7 (by omega) hrow0 fun u3 hu3 => ?_
    refine int_len rfl hu3 ?_
    rw [tab_len]
    refine drawS_i ?_
    have hE8 := hE7.trans (Same.drew w7).ext
    generalize w7.drew = w8 at hE8
    have hV8 := hV5.ext hE8
    have hx8 := hE8.at_ hx5
    have hr8 := hr5.ext hE8
    refine fldi_i (by kernel_rfl) (ld_i (by kernel_rfl) hx8 rfl ?_)
    refine ent_get hV8 hgi (by omega) (f := 1) rfl ?_
    have hW0 : 0 < VW L := h1
    obtain ⟨y, x, hyH, hxW, hpe, hq, hm⟩ : ∃ y x : Nat, y < L.length ∧ x < VW L ∧ y * VW L + x = p ∧ (p : Int).tdiv (VW L : Int) = (y : Int) ∧ (p : Int).tmod (VW L : Int) = (x : Int) := by
      refine ⟨p / VW L, p % VW L, Nat.div_lt_of_lt_mul hp, Nat.mod_lt _ hW0, by rw [Nat.mul_comm]; exact Nat.div_add_mod p _, ?_, ?_⟩
      · rw [Int.tdiv_eq_ediv_of_nonneg (by omega)]; exact (Int.natCast_ediv _ _).symm
      · rw [Int.tmod_eq_emod_of_nonneg (by omega)]; exact (Int.natCast_emod _ _).symm
    refine quo_i (by omega) (by rw [hq]; exact .of (by omega) (by omega)) ?_
    rw [hq]
    have hrow : L[((y : Nat) : Int).toNat]? = some (tab (VW L) fun x => numL L (y * VW L + x)) := by
      have e := rect_get (W := VW L) (H := L.length) (num := numL L) (y := y) hyH
      rw [← hLe] at e
      rw [Int.toNat_natCast]; exact e
    refine rr_row ⟨rfl, rfl⟩ hr8 (by omega) hrow fun u4 hu4 => ?_
    refine ent_get hV8 hgi (by omega) (f := 1) rfl ?_
    refine rem_i (by omega) ?_
    rw [hm]
    refine int_get ⟨rfl, rfl⟩ hu4 (by omega) (n := numL L (y * VW L + x)) (by rw [Int.toNat_natCast]; exact tab_get hxW) ?_
    rw [hpe]
    refine ent_get hV8 hgi (by omega) (f := 0) rfl ?_
    refine neq_i ?_
    rw [decide_eq_false (fun h => h hb.symm), joinS_eq, ifG_eq_f, if_neg (by simp)]
    refine eql_i ?_
    refine ent_get hV8 hgi (by omega) (f := 2) rfl ?_
    refine eql_i ?_
    refine neqBool_i (by kernel_rfl) ?_
    intro q3
    have hbe : decide ((i : Int) = 0) = decide (d = -1) := decide_eq_decide.2 ⟨fun h => hd0.1 (by omega), fun h => by have := hd0.2 h; omega⟩
    rw [pickS_eq, cond_false, nth0, hbe, beq_self_eq_true, Bool.not_true, joinS_eq, ifG_eq_f, if_neg (by simp)]
    refine gtr_i ?_
    intro q4
    rw [nth0, joinS_eq]
    have fin : ∀ (z : Value), (0 < i → z = .bool false) → (∀ q5 : Fr, joinS (fun g82 s83 w =>
        pickS (Value.bool false) (Go.Value.bool Bool.true) (nth s83 0) fun t157_85 =>
        ifB t157_85 (K (Go.Value.bool Bool.false) w)
        (pur Pg (binOp Go.BinOp.add 3 (i64 (i : Int)) (Go.Value.int Go.IntKind.i64 1)) fun t59_86 =>
        (fun (s' : List Value) (w' : World) => (∃ i : Nat, s' = [i64 i] ∧ i ≤ (valsL L).length ∧ Ext w5 w') ∧ (valsL L).length - (intOf (nth s' 0)).toNat < (valsL L).length - (intOf (i64 (i : Int))).toNat) [t59_86] w)) fun J84 =>
        ifG (Value.bool false) false (pickS (Value.bool (decide ((i : Int) > 0))) z (Go.Value.bool Bool.false) fun t156_87 =>
        J84 [t156_87] w8)
        (J84 [undef] w8)) := by
      intro z hz q5
      rw [joinS_eq, ifG_eq_f, if_neg (by simp), pickS_eq]
      have e : (bif decide ((i : Int) > 0) then z else Value.bool false) = Value.bool false := by
        by_cases h : (i : Int) > 0
        · rw [decide_eq_true h, cond_true, hz (by omega)]
        · rw [decide_eq_false h, cond_false]
      rw [e]
      intro q6
      rw [pickS_eq, cond_false, nth0, ifB_eq, if_neg (by simp)]
      refine add_i (.of (by omega) (by omega)) ?_
      exact ⟨⟨i + 1, by simp, by omega, hE8⟩, by simp only [nth0, intOf]; omega⟩
    by_cases hi0 : (i : Int) > 0
    · rw [decide_eq_true hi0, ifG_eq_t, if_pos rfl]
      refine ent_get hV8 hgi (by omega) (f := 2) rfl ?_
      refine ent_get hV8 hgi (by omega) (f := 0) rfl ?_
      refine leq_i ?_
      have := hdb (by omega)
      rw [decide_eq_false (by omega)]
      intro q5
      have := fin (.bool false) (fun _ => rfl) q5
      rw [decide_eq_true hi0] at this
      rw [nth0]
      exact this
    · rw [decide_eq_false hi0, ifG_eq_t, if_neg (by simp)]
      intro q5
      have := fin undef (fun h => by omega) q5
      rw [decide_eq_false hi0] at this
      rw [nth0]
      exact this
  · -- the levels
    refine loopS_i (fun s w' => ∃ lv : Nat, s = [i64 lv] ∧ lv ≤ 10 ∧ Ext w5 w') (fun s _ => 10 - (intOf (nth s 0)).toNat) ⟨0, rfl, by omega, hE⟩ ?_
    rintro g' s w7 ⟨lv, rfl, hlv, hE7⟩
    rw [nth0]
    have hV7 := hV5.ext hE7
    have hx7 := hE7.at_ hx5
    have hr7 := hr5.ext hE7
    have hcv7 := hcv5.ext hE7
    refine leq_i (ifB_i (fun hle => ?_) (fun hle => ?_))
    · refine grey_ld hx7 ?_
      refine countBelow_c hr7 hL9 hl9 ht ⟨by omega, by omega⟩ fun w8 he8 => ?_
      refine ext_i rfl (ext_i rfl ?_)
      have hE8 := hE7.trans he8
      have hV8 := hV5.ext hE8
      have hcv8 := hcv5.ext hE8
      have hcnt := vals_count ht (lv := lv) (by omega)
      refine loopS_i (fun s w' => ∃ j : Nat, s = [i64 (((valsL L).take j).countP (aliveL lv) : Nat), i64 j] ∧ j ≤ (valsL L).length ∧ w' = w8) (fun s _ => (valsL L).length - (intOf (nth s 1)).toNat) ⟨0, by simp, by omega, rfl⟩ ?_
      rintro g2 s2 w9 ⟨j, rfl, hj, rfl⟩
      rw [nth0, nth1]
      refine rv_len rfl hV8 ?_
      refine lss_i (ifB_i (fun hlt2 => ?_) (fun hlt2 => ?_))
      · have hjl : j < (valsL L).length := by omega
        have hgj := List.getElem?_eq_getElem hjl
        obtain ⟨b, p, d, hl3, _, _, _, _⟩ := hent j _ hgj
        have htk : (valsL L).take (j + 1) = (valsL L).take j ++ [[b, (p : Int), d]] := by rw [List.take_succ_eq_append_getElem hjl, hl3]
        rw [hl3] at hgj
        have hcl : ((valsL L).take j).countP (aliveL lv) ≤ 100000 := Nat.le_trans List.countP_le_length (by rw [List.length_take]; omega)
        have hstep : ((valsL L).take (j + 1)).countP (aliveL lv) = ((valsL L).take j).countP (aliveL lv) + if b ≤ (lv : Int) ∧ (d = -1 ∨ (lv : Int) < d) then 1 else 0 := by
          rw [htk, List.countP_append, List.countP_cons, List.countP_nil]
          unfold aliveL
          simp only [List.getD_cons_zero, List.getD_cons_succ, decide_eq_true_eq]
          omega
        refine joinS_k fun J hJ => ?_
        have yes : (b ≤ (lv : Int) ∧ (d = -1 ∨ (lv : Int) < d)) → pur Pg (binOp Go.BinOp.add ty_int64 (i64 (((valsL L).take j).countP (aliveL lv) : Nat)) (i64 1)) fun t => J [t] w9 := by
          intro hy
          refine add_i (.of (by omega) (by omega)) ?_
          refine hJ _ _ fun _ => ?_
          rw [nth0]
          refine add_i (.of (by omega) (by omega)) ?_
          rw [if_pos hy] at hstep
          exact ⟨⟨j + 1, by rw [hstep]; simp, by omega, rfl⟩, by simp only [nth1, intOf]; omega⟩
        have noo : ¬ (b ≤ (lv : Int) ∧ (d = -1 ∨ (lv : Int) < d)) → J [i64 (((valsL L).take j).countP (aliveL lv) : Nat)] w9 := by
          intro hy
          refine hJ _ _ fun _ => ?_
          rw [nth0]
          refine add_i (.of (by omega) (by omega)) ?_
          rw [if_neg hy] at hstep
          exact ⟨⟨j + 1, by rw [hstep]; simp, by omega, rfl⟩, by simp only [nth1, intOf]; omega⟩
        clear hJ
        refine ent_get hV8 hgj (by omega) (f := 0) rfl ?_
        refine leq_i ?_
        rw [joinS_eq]
        by_cases hb : b ≤ (lv : Int)
        · rw [decide_eq_true hb, ifG_eq_t, if_pos rfl]
          refine ent_get hV8 hgj (by omega) (f := 2) rfl ?_
          refine eql_i ?_
          intro q1
          rw [nth0, joinS_eq]
          by_cases hd : d = -1
          · rw [decide_eq_true hd, ifG_eq_f, if_pos rfl]
            intro q2
            rw [joinS_eq, ifG_eq_t, if_pos rfl, pickS_eq, cond_true]
            intro q3
            rw [pickS_eq, cond_true, nth0, ifB_eq, if_pos rfl]
            exact yes ⟨hb, .inl hd⟩
          · rw [decide_eq_false hd, ifG_eq_f, if_neg (by simp)]
            refine ent_get hV8 hgj (by omega) (f := 2) rfl ?_
            refine gtr_i ?_
            intro q2
            rw [joinS_eq, ifG_eq_t, if_pos rfl, pickS_eq, cond_false, nth0]
            intro q3
            rw [pickS_eq, cond_true, nth0]
            refine ifB_i (fun h => yes ⟨hb, .inr h⟩) (fun h => noo fun k => ?_)
            rcases k.2 with k | k
            · exact hd k
            · exact h k
        · rw [decide_eq_false hb, ifG_eq_t, if_neg (by simp)]
          intro q1
          rw [nth0, joinS_eq, ifG_undef]
          intro q2
          rw [joinS_eq, ifG_eq_t, if_neg (by simp)]
          intro q3
          rw [pickS_eq, cond_false, ifB_eq, if_neg (by simp)]
          exact noo fun k => hb k.1
      · have : j = (valsL L).length := by omega
        subst this
        rw [List.take_length, hcnt]
        refine not_i ?_
        rw [Bool.not_true, joinS_eq, ifG_eq_f, if_neg (by simp)]
        refine neq_i ?_
        intro q1
        rw [pickS_eq, cond_false, nth0, decide_eq_false (fun h => h rfl), joinS_eq, ifG_eq_f, if_neg (by simp)]
        refine int_get ⟨rfl, rfl⟩ hcv8 (by omega) (n := (belowN (VW L) L.length (numL L) lv : Nat)) (by rw [Int.toNat_natCast]; exact tab_get (by omega)) ?_
        refine neq_i ?_
        intro q2
        rw [pickS_eq, cond_false, nth0, decide_eq_false (fun h => h rfl), ifB_eq, if_neg (by simp)]
        refine add_i (.of (by omega) (by omega)) ?_
        exact ⟨⟨lv + 1, by simp, by omega, hE8⟩, by simp only [nth0, intOf]; omega⟩
    · refine int_get ⟨rfl, rfl⟩ hcv7 (by omega) (n := (belowN (VW L) L.length (numL L) 99 : Nat)) (tab_get (i := 99) (by omega)) ?_
      rw [below_all ht]
      refine eql_i ?_
      have e1 : decide (((1 : Nat) : Int) = 1) = true := rfl
      rw [e1]
      exact hK w7 (hE5.trans hE7)
end Go.Proofs.Ytfdmphgbodmkpaa
