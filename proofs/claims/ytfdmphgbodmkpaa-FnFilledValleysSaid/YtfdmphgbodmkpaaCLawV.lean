/- The law FnExactValleysOf and FnExactSameValleys: their calls. -/
import Derived.Test.YtfdmphgbodmkpaaCLawG2
set_option linter.unusedVariables false
set_option linter.unusedSimpArgs false
namespace Go.Proofs.Ytfdmphgbodmkpaa
open Go Go.SL Go.RowKit
set_option maxRecDepth 100000

theorem RV.mod' {w w' : World} {v : Value} {L : List (List Int)} {b0 : Nat} {rb : Nat → Nat} {S : Nat → Prop} (h : RV w v L b0 rb) (hm : Mod S w w') (hc : RR w v L b0 rb → ¬ S b0 ∧ ∀ y, y < L.length → ¬ S (rb y)) : RV w' v L b0 rb :=
  h.imp id fun h => h.mod hm (hc h).1 (hc h).2
theorem markG_c {w : World} {v : Value} {L : List (List Int)} {b0 : Nat} {rb : Nat → Nat} {K : Value → World → Prop} (h : RV w v L b0 rb) (hinj : ∀ y z, y < L.length → z < L.length → rb y = rb z → y = z) (hL : L.length ≤ 1048576) (hl : ∀ l ∈ L, l.length ≤ 1048576)
    (hK : ∀ w1 w', Ext w w1 → Mod (fun b => ∃ y, y < L.length ∧ b = rb y) w1 w' → RV w' v (markL 1 L) b0 rb → K (i64 (1 + total L)) w') : callS Pg n_laws_markGrey #[.agg #[v], i64 1] w K := by
  refine call_laws_markGrey _ _ _ _ ?_
  unfold S_laws_markGrey
  refine box_i fun p w1 h1 => ?_
  refine fldi_i (by kernel_rfl) (ld_i (by kernel_rfl) h1.at_ rfl ?_)
  exact markR_c (h.ext h1.ext) hinj hL hl fun w' hm hv => hK w1 w' h1.ext hm hv
theorem total_big {L : List (List Int)} (hL : L.length ≤ 1048576) (hl : ∀ l ∈ L, l.length ≤ 1048576) : total L ≤ 1099511627776 := by
  have : ∀ (L : List (List Int)), (∀ l ∈ L, l.length ≤ 1048576) → total L ≤ L.length * 1048576 := by
    intro L
    induction L with
    | nil => intro _; simp [total]
    | cons l L ih =>
      intro h
      have h1 := ih fun l' hl' => h l' (List.mem_cons_of_mem _ hl')
      have h2 := h l (List.mem_cons_self ..)
      simp only [total, List.map_cons, List.sum_cons, List.length_cons] at h1 ⊢
      omega
  have h1 := this L hl
  have h2 : L.length * 1048576 ≤ 1048576 * 1048576 := Nat.mul_le_mul_right _ hL
  omega
theorem heldG_c {w : World} {v : Value} {L : List (List Int)} {b0 : Nat} {rb : Nat → Nat} {K : Value → World → Prop} (h : RV w v (markL 1 L) b0 rb) (hL : L.length ≤ 1048576) (hl : ∀ l ∈ L, l.length ≤ 1048576) (hK : ∀ w', Ext w w' → K (i64 (1 + total L)) w') : callS Pg n_laws_heldGrey #[.agg #[v], i64 1] w K := by
  refine call_laws_heldGrey _ _ _ _ ?_
  unfold S_laws_heldGrey
  refine box_i fun p w1 h1 => ?_
  refine fldi_i (by kernel_rfl) (ld_i (by kernel_rfl) h1.at_ rfl ?_)
  refine heldR_c (h.ext h1.ext) hL hl ?_
  refine lss_i (ifB_i (fun h2 => by omega) (fun h2 => hK w1 h1.ext))

theorem law_ValleysOf_c {w : World} {u : Value} {L : List (List Int)} {K : Value → World → Prop} (h : ArgR w u L) (hL : L.length ≤ big) (hl : ∀ l ∈ L, l.length ≤ big) (hK : ∀ w', Ext w w' → K (.bool true) w') : callS Pg n_laws_FnExactValleysOf #[.agg #[u]] w K := by
  refine call_laws_FnExactValleysOf _ _ _ ?_
  unfold S_laws_FnExactValleysOf
  refine box_i fun p w1 h1 => ?_
  have hp1 : w1.heap[p]? = some (row #[u] ty_laws_Grey) := h1.at_
  have ldA : ∀ {w' : World} {K : Value → Prop}, w'.heap[p]? = some (row #[u] ty_laws_Grey) → K (.agg #[u]) → rd Pg (Instr.loadAt ty_laws_Grey (ptr p 0)) w' K := fun hp hK => ldn_i (n := 1) (by kernel_rfl) hp (Nat.le_refl 1) rfl hK
  refine ldA hp1 ?_
  refine szG_c (h.ext h1.ext) ⟨by omega, by omega⟩ hL hl fun m w2 he2 hm0 hm1 hm2 => ?_
  have hE2 := h1.ext.trans he2
  refine lss_i (ifB_i (fun hneg => hK w2 hE2) (fun hneg => ?_))
  obtain ⟨hL2, hl2⟩ := hm2 (by omega)
  have hL9 : L.length ≤ 1000000000 := by omega
  have hl9 : ∀ l ∈ L, l.length ≤ 1000000000 := fun l hl' => by have := hl2 l hl'; omega
  have hp2 := he2.at_ hp1
  obtain ⟨hvl, hv3⟩ := valsL_le (L := L)
  have hv9 : ∀ l ∈ valsL L, l.length ≤ 1000000000 := fun l hl' => by have := hv3 l hl'; omega
  have hv20 : ∀ l ∈ valsL L, l.length ≤ 1048576 := fun l hl' => by have := hv3 l hl'; omega
  refine ldA hp2 ?_
  refine toG_c (h.ext hE2) hL2 hl2 fun v1 b1 rb1 w3 he3 hF1 hr1 => ?_
  refine specValleysOf_c hr1 hL9 hl9 fun s1 c1 rc1 w4 he4 _ hs1 => ?_
  have hs1 : RV w4 s1 (valsL L) c1 rc1 := hs1.imp id fun h => h.1
  refine ext_i rfl (ext_i rfl ?_)
  have hE4 := hE2.trans (he3.trans he4)
  have hp4 := (he3.trans he4).at_ hp2
  refine ldA hp4 ?_
  refine toG_c (h.ext hE4) hL2 hl2 fun v2 b2 rb2 w5 he5 hF2 hr2 => ?_
  have hv21 := hr2.one
  refine varn_i (n := 1) (by kernel_rfl) rfl rfl rfl (by intro x hx; simp at hx; subst hx; exact hv21) fun xb w6 h6 => ?_
  have hx6 : w6.heap[xb]? = some (row #[v2] ty_impl_Grey) := h6.at_
  refine grey_ld hx6 ?_
  have hr26 := hr2.ext h6.ext
  refine implValleysOf_c hr26 hL9 hl9 fun g1 cg rg w7 he7 hg1 => ?_
  refine ext_i rfl (ext_i rfl ?_)
  have he46 := he5.trans h6.ext
  have hs17 := hs1.ext (he46.trans he7)
  have hgF : (g1 = .slice none 0 0 ∧ valsL L = []) ∨ Fresh w6.heap.size cg rg (valsL L).length := hg1.imp id fun h => h.2
  have hg17 : RV w7 g1 (valsL L) cg rg := hg1.imp id fun h => h.1
  have hE7 := hE4.trans (he46.trans he7)
  have z4 := hE4.size; have z46 := he46.size; have z7 := he7.size
  have hp7 := (he46.trans he7).at_ hp4
  have hx7 := he7.at_ hx6
  refine eqR_c hg17 hs17 (by omega) (by omega) hv9 hv9 fun w8 he8 => ?_
  rw [decide_eq_true rfl]
  refine not_i ?_
  rw [Bool.not_true, joinS_eq, ifG_eq_f, if_neg (by simp)]
  refine neqBool_i (by kernel_rfl) ?_
  intro g
  rw [pickS_eq, cond_false, nth0, beq_self_eq_true, Bool.not_true, ifB_eq, if_neg (by simp)]
  have hd8 := (Same.drew w8).ext
  have he78 := he8.trans hd8
  refine drawF_i (fun w' => w'.heap[xb]? = some (row #[v2] ty_impl_Grey)) (he78.at_ hx7) ?_
  refine rdF_i (v := .agg #[v2]) (fun w' hw' => ldn_run (n := 1) (by kernel_rfl) hw' (Nat.le_refl 1)) ?_
  have hE8 := hE7.trans he78
  refine ldA (he78.at_ hp7) ?_
  refine toG_c (h.ext hE8) hL2 hl2 fun v3 b3 rb3 w9 he9 hF3 hr3 => ?_
  have he79 := he78.trans he9
  refine ⟨he79.at_ hx7, ?_⟩
  have hr29 := (hr26.ext he7).ext he79
  refine eqG_c (.inr hr29) (.inr hr3) hL9 hL9 hl9 hl9 fun w10 he10 => ?_
  rw [decide_eq_true rfl]
  refine not_i ?_
  rw [Bool.not_true, ifB_eq, if_neg (by simp)]
  have he710 := he79.trans he10
  refine grey_ld (he710.at_ hx7) ?_
  have hr210 := (hr26.ext he7).ext he710
  refine markG_c (.inr hr210) hF2.inj hL2 hl2 fun w11 w12 he11 hm12 _ => ?_
  have he711 := he710.trans he11
  -- what the marks leave
  have htb := total_big hL2 hl2
  refine lss_i ?_
  rw [decide_eq_false (by omega), joinS_eq, ifG_eq_f, if_neg (by simp)]
  have hb2 := fun y hy => hF2.r y hy
  have hr2l : ∀ y, y < L.length → rb2 y < w6.heap.size := fun y hy => hr26.lt hy
  have hs111 := hs17.ext he711
  have hg111 := hg17.ext he711
  have z711 := he711.size
  have hs112 : RV w12 s1 (valsL L) c1 rc1 := hs111.mod' hm12 fun hr => by
    rcases hs1 with ⟨_, h0⟩ | hs1
    · refine ⟨?_, fun y hy => by rw [h0] at hy; simp at hy⟩
      rintro ⟨y, hy, e⟩
      obtain ⟨us, q1, q2, q3⟩ := hr
      obtain ⟨c, qc⟩ := q1.cells
      obtain ⟨us2, _, _, q4⟩ := hr210.ext he11
      obtain ⟨u2, _, q5⟩ := q4 y _ (List.getElem?_eq_getElem hy)
      obtain ⟨c2, qc2⟩ := q5.cells
      exact at_ne qc qc2 (by decide) e
    · refine ⟨?_, fun y hy => ?_⟩
      · rintro ⟨z, hz, e⟩
        have := hs1.lt0; have := hF2.r z hz; omega
      · rintro ⟨z, hz, e⟩
        have := hs1.lt hy; have := hF2.r z hz; omega
  have hg112 : RV w12 g1 (valsL L) cg rg := hg111.mod' hm12 fun hr => by
    have outer : ¬ ∃ y, y < L.length ∧ cg = rb2 y := by
      rintro ⟨y, hy, e⟩
      obtain ⟨us, q1, q2, q3⟩ := hr
      obtain ⟨c, qc⟩ := q1.cells
      obtain ⟨us2, _, _, q4⟩ := hr210.ext he11
      obtain ⟨u2, _, q5⟩ := q4 y _ (List.getElem?_eq_getElem hy)
      obtain ⟨c2, qc2⟩ := q5.cells
      exact at_ne qc qc2 (by decide) e
    refine ⟨outer, fun y hy => ?_⟩
    rcases hgF with ⟨_, h0⟩ | hgF
    · rw [h0] at hy; simp at hy
    · rintro ⟨z, hz, e⟩
      have := hgF.r y hy; have := hr2l z hz; omega
  refine eqR_c hg112 hs112 (by omega) (by omega) hv9 hv9 fun w13 he13 => ?_
  rw [decide_eq_true rfl]
  refine not_i ?_
  rw [Bool.not_true]
  intro g3
  rw [pickS_eq, cond_false, nth0, joinS_eq, ifG_eq_f, if_neg (by simp)]
  refine neqBool_i (by kernel_rfl) ?_
  intro g4
  rw [pickS_eq, cond_false, nth0, beq_self_eq_true, Bool.not_true, ifB_eq, if_neg (by simp)]
  have hE11 := hE7.trans he711
  have hE12 : Ext w w12 := hE11.comp hm12 (fun _ _ h => h) fun i hi e => by
    obtain ⟨y, hy, e⟩ := e
    have := hF2.r y hy; omega
  have hp12 : w12.heap[p]? = some (row #[u] ty_laws_Grey) := hm12.at_ (he711.at_ hp7) (by
    rintro ⟨y, hy, e⟩
    have := hF2.r y hy; have := lt_of_at hp4; omega)
  have hE13 := hE12.trans he13
  have hg113 := hg112.ext he13
  have hginj : ∀ y z, y < (valsL L).length → z < (valsL L).length → rg y = rg z → y = z := by
    rcases hgF with ⟨_, h0⟩ | hgF
    · intro y z hy; rw [h0] at hy; simp at hy
    · exact hgF.inj
  have htv := total_big (L := valsL L) (by omega) hv20
  refine markR_c hg113 hginj (by omega) hv20 fun w14 hm14 hgm => ?_
  have hE14 : Ext w w14 := hE13.comp hm14 (fun _ _ h => h) fun i hi e => by
    obtain ⟨y, hy, e⟩ := e
    rcases hgF with ⟨_, h0⟩ | hgF
    · rw [h0] at hy; simp at hy
    · have := hgF.r y hy; omega
  have hs114 : RV w14 s1 (valsL L) c1 rc1 := (hs112.ext he13).mod' hm14 fun hr => by
    refine ⟨?_, fun y hy => ?_⟩
    · rintro ⟨y, hy, e⟩
      obtain ⟨us, q1, q2, q3⟩ := hr
      obtain ⟨c, qc⟩ := q1.cells
      rcases hg113 with ⟨_, h0⟩ | ⟨us2, _, _, q4⟩
      · rw [h0] at hy; simp at hy
      · obtain ⟨u2, _, q5⟩ := q4 y _ (List.getElem?_eq_getElem hy)
        obtain ⟨c2, qc2⟩ := q5.cells
        exact at_ne qc qc2 (by decide) e
    · rintro ⟨z, hz, e⟩
      rcases hgF with ⟨_, h0⟩ | hgF
      · rw [h0] at hz; simp at hz
      · rcases hs1 with ⟨_, h0⟩ | hs1
        · rw [h0] at hy; simp at hy
        · have := hs1.lt hy; have := hgF.r z hz; omega
  have hp14 : w14.heap[p]? = some (row #[u] ty_laws_Grey) := hm14.at_ (he13.at_ hp12) (by
    rintro ⟨y, hy, e⟩
    rcases hgF with ⟨_, h0⟩ | hgF
    · rw [h0] at hy; simp at hy
    · have := hgF.r y hy; have := lt_of_at hp4; omega)
  refine heldR_c hgm (by omega) hv20 ?_
  refine lss_i (ifB_i (fun hb => by omega) (fun hb => ?_))
  refine neq_i (ifB_i (fun hb => absurd rfl hb) (fun _ => ?_))
  refine ldA hp14 ?_
  refine toG_c (h.ext hE14) hL2 hl2 fun v4 b4 rb4 w15 he15 hF4 hr4 => ?_
  refine implValleysOf_c hr4 hL9 hl9 fun h1' ch rh w16 he16 hh1 => ?_
  refine ext_i rfl (ext_i rfl ?_)
  have hh16 : RV w16 h1' (valsL L) ch rh := hh1.imp id fun h => h.1
  have he1416 := he15.trans he16
  refine eqR_c hh16 (hs114.ext he1416) (by omega) (by omega) hv9 hv9 fun w17 he17 => ?_
  rw [decide_eq_true rfl]
  refine not_i ?_
  rw [Bool.not_true, joinS_eq, ifG_eq_f, if_neg (by simp)]
  refine neqBool_i (by kernel_rfl) ?_
  intro g5
  rw [pickS_eq, cond_false, nth0, beq_self_eq_true, Bool.not_true, ifB_eq, if_neg (by simp)]
  refine heldR_c (hgm.ext (he1416.trans he17)) (by omega) hv20 ?_
  refine lss_i (ifB_i (fun hb => by omega) (fun hb => ?_))
  refine neq_i (ifB_i (fun hb => absurd rfl hb) (fun _ => ?_))
  exact hK w17 (hE14.trans (he1416.trans he17))
end Go.Proofs.Ytfdmphgbodmkpaa
