/- The law FnExactFillValleys. -/
import Derived.Test.YtfdmphgbodmkpaaCFill3
set_option linter.unusedVariables false
set_option linter.unusedSimpArgs false
namespace Go.Proofs.Ytfdmphgbodmkpaa
open Go Go.SL Go.RowKit
set_option maxRecDepth 100000

theorem RV.one {w : World} {v : Value} {L : List (List Int)} {b0 : Nat} {rb : Nat → Nat} (h : RV w v L b0 rb) : SL.one v = true := by
  rcases h with ⟨rfl, _⟩ | h
  · rfl
  · exact h.one
theorem RV.offS {w : World} {v v2 : Value} {L L2 : List (List Int)} {c c2 : Nat} {rc rc2 : Nat → Nat} (h : RR w v L c rc) (h2 : RV w v2 L2 c2 rc2) : ¬ ∃ y, y < L2.length ∧ c = rc2 y := by
  rintro ⟨y, hy, e⟩
  obtain ⟨us, q1, q2, q3⟩ := h
  obtain ⟨cc, qc⟩ := q1.cells
  rcases h2 with ⟨_, h0⟩ | ⟨us2, _, _, q4⟩
  · rw [h0] at hy; simp at hy
  · obtain ⟨u2, _, q5⟩ := q4 y _ (List.getElem?_eq_getElem hy)
    obtain ⟨c3, qc3⟩ := q5.cells
    exact at_ne qc qc3 (by decide) e

theorem law_FillValleys_c {w : World} {u : Value} {L : List (List Int)} {depth : Int} {K : Value → World → Prop} (h : ArgR w u L) (hL : L.length ≤ big) (hl : ∀ l ∈ L, l.length ≤ big) (hK : ∀ w', Ext w w' → K (.bool true) w') : callS Pg n_laws_FnExactFillValleys #[.agg #[u], i64 depth] w K := by
  refine call_laws_FnExactFillValleys _ _ _ _ ?_
  unfold S_laws_FnExactFillValleys
  refine box_i fun p w1 h1 => ?_
  have hp1 : w1.heap[p]? = some (row #[u] ty_laws_Grey) := h1.at_
  have ldA : ∀ {w' : World} {K : Value → Prop}, w'.heap[p]? = some (row #[u] ty_laws_Grey) → K (.agg #[u]) → rd Pg (Instr.loadAt ty_laws_Grey (ptr p 0)) w' K := fun hp hK => ldn_i (n := 1) (by kernel_rfl) hp (Nat.le_refl 1) rfl hK
  refine ldA hp1 ?_
  refine szG_c (h.ext h1.ext) ⟨by omega, by omega⟩ hL hl fun m w2 he2 hm0 hm1 hm2 => ?_
  have hE2 := h1.ext.trans he2
  refine lss_i (ifB_i (fun hneg => hK w2 hE2) (fun hneg => ?_))
  obtain ⟨hL2, hl2⟩ := hm2 (by omega)
  have hL9 : L.length ≤ 1000000000 := by omega
  have hl9 : ∀ l ∈ L, l.length ≤ 1000000000 := fun l hl' => by have := hl2 l hl'; omega
  have hp2 := he2.at_ hp1
  obtain ⟨hvl, hv3⟩ := fillL_le (depth := depth) (L := L)
  have hv9 : ∀ l ∈ fillL depth L, l.length ≤ 1000000000 := fun l hl' => by have := hv3 l hl'; omega
  have hv20 : ∀ l ∈ fillL depth L, l.length ≤ 1048576 := fun l hl' => by have := hv3 l hl'; omega
  refine ldA hp2 ?_
  refine toG_c (h.ext hE2) hL2 hl2 fun v1 b1 rb1 w3 he3 hF1 hr1 => ?_
  refine specFill_c hr1 hL9 hl9 fun s1 c1 rc1 w4 he4 hs1 => ?_
  have hs1 : RV w4 s1 (fillL depth L) c1 rc1 := hs1.imp id fun h => h.1
  refine ext_i rfl (ext_i rfl ?_)
  have hs1o := hs1.one
  refine varn_i (n := 1) (by kernel_rfl) rfl rfl rfl (by intro x hx; simp at hx; subst hx; exact hs1o) fun ab w4b g4 => ?_
  have hab4 : w4b.heap[ab]? = some (row #[s1] ty_impl_Grey) := g4.at_
  have hE4 := (hE2.trans (he3.trans he4)).trans g4.ext
  have hp4 := g4.ext.at_ ((he3.trans he4).at_ hp2)
  have hs1b := hs1.ext g4.ext
  refine ldA hp4 ?_
  refine toG_c (h.ext hE4) hL2 hl2 fun v2 b2 rb2 w5 he5 hF2 hr2 => ?_
  have hv21 := hr2.one
  refine varn_i (n := 1) (by kernel_rfl) rfl rfl rfl (by intro x hx; simp at hx; subst hx; exact hv21) fun xb w6 h6 => ?_
  have hx6 : w6.heap[xb]? = some (row #[v2] ty_impl_Grey) := h6.at_
  refine grey_ld hx6 ?_
  have hr26 := hr2.ext h6.ext
  refine implFill_c hr26 hL9 hl9 fun g1 cg rg w7 he7 hg1 => ?_
  refine ext_i rfl (ext_i rfl ?_)
  have hgF : (g1 = .slice none 0 0 ∧ fillL depth L = []) ∨ Fresh w6.heap.size cg rg (fillL depth L).length := hg1.imp id fun h => h.2
  have hg17a : RV w7 g1 (fillL depth L) cg rg := hg1.imp id fun h => h.1
  have hg1o := hg17a.one
  refine varn_i (n := 1) (by kernel_rfl) rfl rfl rfl (by intro x hx; simp at hx; subst hx; exact hg1o) fun gb w7b g7 => ?_
  have hgb7 : w7b.heap[gb]? = some (row #[g1] ty_impl_Grey) := g7.at_
  have he46 := he5.trans h6.ext
  have he77 := he7.trans g7.ext
  have hs17 := hs1b.ext (he46.trans he77)
  have hg17 := hg17a.ext g7.ext
  have hE7 := hE4.trans (he46.trans he77)
  have z4 := hE4.size; have z46 := he46.size; have z77 := he77.size
  have z4b := g4.ext.size
  have hp7 := (he46.trans he77).at_ hp4
  have hx7 := he77.at_ hx6
  have hab7 := (he46.trans he77).at_ hab4
  refine grey_ld hgb7 ?_
  refine grey_ld hab7 ?_
  refine eqG_c hg17 hs17 (by omega) (by omega) hv9 hv9 fun w8 he8 => ?_
  rw [decide_eq_true rfl]
  refine not_i ?_
  rw [Bool.not_true, joinS_eq, ifG_eq_f, if_neg (by simp)]
  refine neqBool_i (by kernel_rfl) ?_
  intro g
  rw [pickS_eq, cond_false, nth0, beq_self_eq_true, Bool.not_true, ifB_eq, if_neg (by simp)]
  have hd8 := (Same.drew w8).ext
  have he78 := he8.trans hd8
  refine drawF_i (fun w' => w'.heap[xb]? = some (row #[v2] ty_impl_Grey)) (he78.at_ hx7) ?_
  refine rdF_i (v := .agg #[v2]) (fun w' hw' => ldn_run (n := 1) (by kernel_rfl) hw' (Nat.le_refl 1)) ?_
  have hE8 := hE7.trans he78
  refine ldA (he78.at_ hp7) ?_
  refine toG_c (h.ext hE8) hL2 hl2 fun v3 b3 rb3 w9 he9 hF3 hr3 => ?_
  have he79 := he78.trans he9
  refine ⟨he79.at_ hx7, ?_⟩
  have hr29 := (hr26.ext he77).ext he79
  refine eqG_c (.inr hr29) (.inr hr3) hL9 hL9 hl9 hl9 fun w10 he10 => ?_
  rw [decide_eq_true rfl]
  refine not_i ?_
  rw [Bool.not_true, ifB_eq, if_neg (by simp)]
  have he710 := he79.trans he10
  refine grey_ld (he710.at_ hx7) ?_
  have hr210 := (hr26.ext he77).ext he710
  refine markG_c (.inr hr210) hF2.inj hL2 hl2 fun w11 w12 he11 hm12 _ => ?_
  have he711 := he710.trans he11
  have htb := total_big hL2 hl2
  refine lss_i ?_
  rw [decide_eq_false (by omega), joinS_eq, ifG_eq_f, if_neg (by simp)]
  have hr2l : ∀ y, y < L.length → rb2 y < w6.heap.size := fun y hy => hr26.lt hy
  have hr211 : RV w11 v2 L b2 rb2 := .inr (hr210.ext he11)
  have offG : ∀ {b : Nat} {z : Value}, w11.heap[b]? = some (row #[z] ty_impl_Grey) → ¬ ∃ y, y < L.length ∧ b = rb2 y := by
    rintro b z hz ⟨y, hy, e⟩
    obtain ⟨us2, _, _, q4⟩ := hr210.ext he11
    obtain ⟨u2, _, q5⟩ := q4 y _ (List.getElem?_eq_getElem hy)
    obtain ⟨c3, qc3⟩ := q5.cells
    exact at_ne hz qc3 (by decide) e
  have hs111 := hs17.ext he711
  have hg111 := hg17.ext he711
  have z711 := he711.size
  have hs112 : RV w12 s1 (fillL depth L) c1 rc1 := hs111.mod' hm12 fun hr => by
    refine ⟨RV.offS hr hr211, fun y hy => ?_⟩
    rcases hs1 with ⟨_, h0⟩ | hs1
    · rw [h0] at hy; simp at hy
    · rintro ⟨z, hz, e⟩
      have := hs1.lt hy; have := hF2.r z hz; omega
  have hg112 : RV w12 g1 (fillL depth L) cg rg := hg111.mod' hm12 fun hr => by
    refine ⟨RV.offS hr hr211, fun y hy => ?_⟩
    rcases hgF with ⟨_, h0⟩ | hgF
    · rw [h0] at hy; simp at hy
    · rintro ⟨z, hz, e⟩
      have := hgF.r y hy; have := hr2l z hz; omega
  have hgb12 := hm12.at_ (he711.at_ hgb7) (offG (he711.at_ hgb7))
  have hab12 := hm12.at_ (he711.at_ hab7) (offG (he711.at_ hab7))
  refine grey_ld hgb12 ?_
  refine grey_ld hab12 ?_
  refine eqG_c hg112 hs112 (by omega) (by omega) hv9 hv9 fun w13 he13 => ?_
  rw [decide_eq_true rfl]
  refine not_i ?_
  rw [Bool.not_true]
  intro g3
  rw [pickS_eq, cond_false, nth0, joinS_eq, ifG_eq_f, if_neg (by simp)]
  refine neqBool_i (by kernel_rfl) ?_
  intro g4
  rw [pickS_eq, cond_false, nth0, beq_self_eq_true, Bool.not_true, ifB_eq, if_neg (by simp)]
  have hE11 := hE7.trans he711
  have hE12 : Ext w w12 := hE11.comp hm12 (fun _ _ h => h) fun i hi e => by
    obtain ⟨y, hy, e⟩ := e
    have := hF2.r y hy; omega
  have hp12 : w12.heap[p]? = some (row #[u] ty_laws_Grey) := hm12.at_ (he711.at_ hp7) (by
    rintro ⟨y, hy, e⟩
    have := hF2.r y hy; have := lt_of_at hp4; omega)
  have hE13 := hE12.trans he13
  have hg113 := hg112.ext he13
  have hginj : ∀ y z, y < (fillL depth L).length → z < (fillL depth L).length → rg y = rg z → y = z := by
    rcases hgF with ⟨_, h0⟩ | hgF
    · intro y z hy; rw [h0] at hy; simp at hy
    · exact hgF.inj
  have htv := total_big (L := fillL depth L) (by omega) hv20
  refine grey_ld (he13.at_ hgb12) ?_
  refine markG_c hg113 hginj (by omega) hv20 fun w13b w14 he13b hm14 hgm => ?_
  have hE13b := hE13.trans he13b
  have hE14 : Ext w w14 := hE13b.comp hm14 (fun _ _ h => h) fun i hi e => by
    obtain ⟨y, hy, e⟩ := e
    rcases hgF with ⟨_, h0⟩ | hgF
    · rw [h0] at hy; simp at hy
    · have := hgF.r y hy; omega
  have he1213 := he13.trans he13b
  have hg113b := hg113.ext he13b
  have offG2 : ∀ {b : Nat} {z : Value}, w13b.heap[b]? = some (row #[z] ty_impl_Grey) → ¬ ∃ y, y < (fillL depth L).length ∧ b = rg y := by
    rintro b z hz ⟨y, hy, e⟩
    rcases hg113b with ⟨_, h0⟩ | ⟨us2, _, _, q4⟩
    · rw [h0] at hy; simp at hy
    · obtain ⟨u2, _, q5⟩ := q4 y _ (List.getElem?_eq_getElem hy)
      obtain ⟨c3, qc3⟩ := q5.cells
      exact at_ne hz qc3 (by decide) e
  have hs114 : RV w14 s1 (fillL depth L) c1 rc1 := (hs112.ext he1213).mod' hm14 fun hr => by
    refine ⟨RV.offS hr hg113b, fun y hy => ?_⟩
    rintro ⟨z, hz, e⟩
    rcases hgF with ⟨_, h0⟩ | hgF
    · rw [h0] at hz; simp at hz
    · rcases hs1 with ⟨_, h0⟩ | hs1
      · rw [h0] at hy; simp at hy
      · have := hs1.lt hy; have := hgF.r z hz; omega
  have hp14 : w14.heap[p]? = some (row #[u] ty_laws_Grey) := hm14.at_ (he1213.at_ hp12) (by
    rintro ⟨y, hy, e⟩
    rcases hgF with ⟨_, h0⟩ | hgF
    · rw [h0] at hy; simp at hy
    · have := hgF.r y hy; have := lt_of_at hp4; omega)
  have hgb14 := hm14.at_ (he1213.at_ hgb12) (offG2 (he1213.at_ hgb12))
  have hab14 := hm14.at_ (he1213.at_ hab12) (offG2 (he1213.at_ hab12))
  refine grey_ld hgb14 ?_
  refine heldG_c hgm (by omega) hv20 fun w14b he14b => ?_
  refine lss_i (ifB_i (fun hb => by omega) (fun hb => ?_))
  refine neq_i (ifB_i (fun hb => absurd rfl hb) (fun _ => ?_))
  have hE14b := hE14.trans he14b
  refine ldA (he14b.at_ hp14) ?_
  refine toG_c (h.ext hE14b) hL2 hl2 fun v4 b4 rb4 w15 he15 hF4 hr4 => ?_
  refine implFill_c hr4 hL9 hl9 fun h1' ch rh w16 he16 hh1 => ?_
  refine ext_i rfl (ext_i rfl ?_)
  have hh16 : RV w16 h1' (fillL depth L) ch rh := hh1.imp id fun h => h.1
  have hh1o := hh16.one
  refine varn_i (n := 1) (by kernel_rfl) rfl rfl rfl (by intro x hx; simp at hx; subst hx; exact hh1o) fun hb w17 g17 => ?_
  have hhb17 : w17.heap[hb]? = some (row #[h1'] ty_impl_Grey) := g17.at_
  have he1417 := he14b.trans ((he15.trans he16).trans g17.ext)
  refine grey_ld hhb17 ?_
  refine grey_ld (he1417.at_ hab14) ?_
  refine eqG_c (hh16.ext g17.ext) (hs114.ext he1417) (by omega) (by omega) hv9 hv9 fun w18 he18 => ?_
  rw [decide_eq_true rfl]
  refine not_i ?_
  rw [Bool.not_true, joinS_eq, ifG_eq_f, if_neg (by simp)]
  refine neqBool_i (by kernel_rfl) ?_
  intro g5
  rw [pickS_eq, cond_false, nth0, beq_self_eq_true, Bool.not_true, ifB_eq, if_neg (by simp)]
  have he1418 := he1417.trans he18
  refine grey_ld (he1418.at_ hgb14) ?_
  refine heldG_c (hgm.ext he1418) (by omega) hv20 fun w19 he19 => ?_
  refine lss_i (ifB_i (fun hb => by omega) (fun hb => ?_))
  refine neq_i (ifB_i (fun hb => absurd rfl hb) (fun _ => ?_))
  exact hK w19 (hE14.trans (he1418.trans he19))
end Go.Proofs.Ytfdmphgbodmkpaa
