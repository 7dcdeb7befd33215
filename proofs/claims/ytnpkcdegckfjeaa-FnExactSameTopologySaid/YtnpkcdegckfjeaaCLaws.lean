/- The laws themselves, as contracts. -/
import Derived.Test.YtnpkcdegckfjeaaCLaw
namespace Go.Proofs.Ytnpkcdegckfjeaa
open Go Go.SL Go.RowKit
set_option maxRecDepth 100000

theorem AVal.var {w : World} {T b : Nat} {v : Value} {rows : List ByteArray} {K : Value → World → Prop} (hT : T = ty_impl_Picture) (h : AVal w v b rows) (hK : ∀ p w1, Ext w w1 → w.heap.size ≤ p → APic w1 p b rows → K (ptr p 0) w1) :
    eff Pg (Instr.alloc T true (.tuple #[])) w fun t w => effU Pg (Instr.storeAt T t v) w fun w => K t w := by
  subst hT
  obtain ⟨u, rfl, a2⟩ := h
  have h1 := a2.one
  refine varn_i (n := 1) (by kernel_rfl) rfl rfl rfl (by intro v hv; simp at hv; subst hv; exact h1) fun p w1 hn => ?_
  exact hK p w1 hn.ext hn.old ⟨u, hn.at_, a2.ext hn.ext⟩
theorem lawArg_i {w : World} {p : Nat} {u : Value} {T : TypeId} {K : Value → Prop} (hT : T = ty_laws_Picture) (h : w.heap[p]? = some (row #[u] ty_laws_Picture)) (hK : K (.agg #[u])) : rd Pg (Instr.loadAt T (ptr p 0)) w K := by
  subst hT
  exact ldn_i (n := 1) (by kernel_rfl) h (Nat.le_refl 1) rfl hK
theorem lawArgF_i {S : World → Prop} {p : Nat} {u : Value} {T : TypeId} {K : Value → Prop} (hT : T = ty_laws_Picture) (hS : ∀ w, S w → w.heap[p]? = some (row #[u] ty_laws_Picture)) (hK : K (.agg #[u])) : rdF Pg S (Instr.loadAt T (ptr p 0)) K := by
  subst hT
  exact rdF_i (fun w' hw => ldn_run (n := 1) (by kernel_rfl) (hS w' hw) (Nat.le_refl 1)) hK

/-- The last part of the laws: the argument stands as it stood. -/
theorem tail_c {w : World} {ap op b : Nat} {u : Value} {rows : List ByteArray} {T : TypeId} {A : World → Prop} {K : World → Prop} (hT : T = ty_laws_Picture) (hl : rows.length ≤ 1048576) (hu : ArgS w u rows) (hc : w.heap[ap]? = some (row #[u] ty_laws_Picture)) (hp : APic w op b rows)
    (hK : ∀ w', Ext w w' → K w') :
    drawF w fun S w =>
    rdF Pg S (Instr.loadAt ty_impl_Picture (ptr op 0)) fun t35 =>
    rd Pg (Instr.loadAt T (ptr ap 0)) w fun t36 =>
    callS Pg n_laws_toPicture #[t36] w fun t37 w =>
    S w ∧
    callS Pg n_laws_eqPicture #[t35, t37] w fun t38 w =>
    pur Pg (Op.unary Go.UnOp.not t38) fun t39 =>
    ifB t39 (A w) (K w) := by
  have hd := (Same.drew w).ext
  obtain ⟨x, a1, a2⟩ := hp
  have a1' := hd.at_ a1
  refine drawF_i (fun w' => w'.heap[op]? = some (row #[x] ty_impl_Picture)) a1' ?_
  refine rdF_i (fun w' hw => ldn_run (n := 1) (by kernel_rfl) hw (Nat.le_refl 1)) ?_
  refine lawArg_i hT (hd.at_ hc) ?_
  refine toP_c (hu.ext hd) hl fun v b2 w2 he2 _ hv => ?_
  refine ⟨he2.at_ a1', ?_⟩
  refine eqP_c (b1 := b) (rows := rows) ⟨x, rfl, (a2.ext hd).ext he2⟩ hv hl fun w3 he3 => ?_
  refine not_i ?_
  rw [ifB_eq, if_neg (by simp)]
  exact hK w3 ((hd.trans he2).trans he3)

theorem law_TreeCode_c {w : World} {u : Value} {rows : List ByteArray} {K : Value → World → Prop} (h : ArgS w u rows) (hrl : rows.length ≤ 9223372036854775807) (hrs : ∀ r ∈ rows, r.size ≤ 9223372036854775807)
    (hK : ∀ w', Ext w w' → K (.bool true) w') : callS Pg n_laws_FnExactTreeCode #[.agg #[u]] w K := by
  refine call_laws_FnExactTreeCode _ _ _ ?_
  unfold S_laws_FnExactTreeCode
  refine box_i fun ap w1 h1 => ?_
  refine lawArg_i rfl h1.at_ ?_
  refine szP_c (h.ext h1.ext) ⟨by omega, by omega⟩ hrl hrs fun m w2 he2 hm0 hm1 hml => ?_
  have hE2 := h1.ext.trans he2
  refine lss_i (ifB_i (fun _ => hK _ hE2) (fun hm => ?_))
  have hl := hml (by omega)
  have hc2 : w2.heap[ap]? = some (row #[u] ty_laws_Picture) := he2.at_ h1.at_
  refine lawArg_i rfl hc2 ?_
  refine toP_c (h.ext hE2) hl fun v1 b1 w3 he3 _ hv1 => ?_
  have hE3 := hE2.trans he3
  refine spec_TreeCode_c hv1 (fun cd d w4 he4 ht => ?_) (fun w4 he4 hn => ?_)
  all_goals
    have hE4 := hE3.trans he4
    have hc4 : w4.heap[ap]? = some (row #[u] ty_laws_Picture) := he4.at_ (he3.at_ hc2)
    refine ext20_i (ext21_i ?_)
    refine lawArg_i rfl hc4 ?_
    refine toP_c (h.ext hE4) hl fun v2 b2 w5 he5 _ hv2 => ?_
    refine AVal.var rfl hv2 fun op w6 he6 _ hP6 => ?_
    refine ldA_i rfl hP6 fun v3 hv3 => ?_
    refine impl_TreeCode_c hv3 (fun cd' d' w7 he7 ht' => ?_) (fun w7 he7 hn' => ?_)
  · obtain ⟨rfl, rfl⟩ := ht.same ht'
    refine ext20_i (ext21_i ?_)
    refine neqStr_i ?_
    have e : decide (cd ≠ cd) = false := by simp
    rw [e, joinS_eq, ifG_eq_f, if_neg (by simp)]
    refine neqBool_i (by kernel_rfl) ?_
    intro g
    rw [pickS_eq, nth0, cond_false, ifB_eq, if_neg (by simp)]
    have hE7 := ((hE4.trans he5).trans he6).trans he7
    exact tail_c (T := ty_laws_Picture) (A := fun w => K (.bool false) w) (K := fun w => K (.bool true) w) rfl hl (h.ext hE7) (he7.at_ (he6.at_ (he5.at_ hc4))) (hP6.ext he7) fun w8 he8 => hK w8 (hE7.trans he8)
  · exact absurd ht.good hn'
  · exact absurd ht'.good hn
  · refine ext20_i (ext21_i ?_)
    refine neqStr_i ?_
    have e : decide (ByteArray.mk #[] ≠ ByteArray.mk #[]) = false := by simp
    rw [e, joinS_eq, ifG_eq_f, if_neg (by simp)]
    refine neqBool_i (by kernel_rfl) ?_
    intro g
    rw [pickS_eq, nth0, cond_false, ifB_eq, if_neg (by simp)]
    have hE7 := ((hE4.trans he5).trans he6).trans he7
    exact tail_c (T := ty_laws_Picture) (A := fun w => K (.bool false) w) (K := fun w => K (.bool true) w) rfl hl (h.ext hE7) (he7.at_ (he6.at_ (he5.at_ hc4))) (hP6.ext he7) fun w8 he8 => hK w8 (hE7.trans he8)

theorem law_DepthOf_c {w : World} {u : Value} {rows : List ByteArray} {K : Value → World → Prop} (h : ArgS w u rows) (hrl : rows.length ≤ 9223372036854775807) (hrs : ∀ r ∈ rows, r.size ≤ 9223372036854775807)
    (hK : ∀ w', Ext w w' → K (.bool true) w') : callS Pg n_laws_FnExactDepthOf #[.agg #[u]] w K := by
  refine call_laws_FnExactDepthOf _ _ _ ?_
  unfold S_laws_FnExactDepthOf
  refine box_i fun ap w1 h1 => ?_
  refine lawArg_i rfl h1.at_ ?_
  refine szP_c (h.ext h1.ext) ⟨by omega, by omega⟩ hrl hrs fun m w2 he2 hm0 hm1 hml => ?_
  have hE2 := h1.ext.trans he2
  refine lss_i (ifB_i (fun _ => hK _ hE2) (fun hm => ?_))
  have hl := hml (by omega)
  have hc2 : w2.heap[ap]? = some (row #[u] ty_laws_Picture) := he2.at_ h1.at_
  refine lawArg_i rfl hc2 ?_
  refine toP_c (h.ext hE2) hl fun v1 b1 w3 he3 _ hv1 => ?_
  have hE3 := hE2.trans he3
  refine spec_DepthOf_c hv1 (fun cd d w4 he4 ht => ?_) (fun w4 he4 hn => ?_)
  all_goals
    have hE4 := hE3.trans he4
    have hc4 : w4.heap[ap]? = some (row #[u] ty_laws_Picture) := he4.at_ (he3.at_ hc2)
    refine ext20_i (ext21_i ?_)
    refine lawArg_i rfl hc4 ?_
    refine toP_c (h.ext hE4) hl fun v2 b2 w5 he5 _ hv2 => ?_
    refine AVal.var rfl hv2 fun op w6 he6 _ hP6 => ?_
    refine ldA_i rfl hP6 fun v3 hv3 => ?_
    refine impl_DepthOf_c hv3 (fun cd' d' w7 he7 ht' => ?_) (fun w7 he7 hn' => ?_)
  · obtain ⟨rfl, rfl⟩ := ht.same ht'
    refine ext20_i (ext21_i ?_)
    refine neq_i ?_
    have e : decide (d ≠ d) = false := by simp
    rw [e, joinS_eq, ifG_eq_f, if_neg (by simp)]
    refine neqBool_i (by kernel_rfl) ?_
    intro g
    rw [pickS_eq, nth0, cond_false, ifB_eq, if_neg (by simp)]
    have hE7 := ((hE4.trans he5).trans he6).trans he7
    exact tail_c (T := ty_laws_Picture) (A := fun w => K (.bool false) w) (K := fun w => K (.bool true) w) rfl hl (h.ext hE7) (he7.at_ (he6.at_ (he5.at_ hc4))) (hP6.ext he7) fun w8 he8 => hK w8 (hE7.trans he8)
  · exact absurd ht.good hn'
  · exact absurd ht'.good hn
  · refine ext20_i (ext21_i ?_)
    refine neq_i ?_
    have e : decide ((0 : Int) ≠ 0) = false := by simp
    rw [e, joinS_eq, ifG_eq_f, if_neg (by simp)]
    refine neqBool_i (by kernel_rfl) ?_
    intro g
    rw [pickS_eq, nth0, cond_false, ifB_eq, if_neg (by simp)]
    have hE7 := ((hE4.trans he5).trans he6).trans he7
    exact tail_c (T := ty_laws_Picture) (A := fun w => K (.bool false) w) (K := fun w => K (.bool true) w) rfl hl (h.ext hE7) (he7.at_ (he6.at_ (he5.at_ hc4))) (hP6.ext he7) fun w8 he8 => hK w8 (hE7.trans he8)

theorem law_Same_c {w : World} {u1 u2 : Value} {r1 r2 : List ByteArray} {K : Value → World → Prop} (h1 : ArgS w u1 r1) (h2 : ArgS w u2 r2) (hrl1 : r1.length ≤ 9223372036854775807) (hrs1 : ∀ r ∈ r1, r.size ≤ 9223372036854775807) (hrl2 : r2.length ≤ 9223372036854775807) (hrs2 : ∀ r ∈ r2, r.size ≤ 9223372036854775807)
    (hK : ∀ w', Ext w w' → K (.bool true) w') : callS Pg n_laws_FnExactSameTopology #[.agg #[u1], .agg #[u2]] w K := by
  refine call_laws_FnExactSameTopology _ _ _ _ ?_
  unfold S_laws_FnExactSameTopology
  refine box_i fun ap w1 ha => ?_
  refine box_i fun bp w2 hb => ?_
  have hE2 := ha.ext.trans hb.ext
  refine lawArg_i rfl (hb.ext.at_ ha.at_) ?_
  refine szP_c (h1.ext hE2) ⟨by omega, by omega⟩ hrl1 hrs1 fun m w3 he3 hm0 hm1 hml => ?_
  have hE3 := hE2.trans he3
  refine lss_i (ifB_i (fun _ => hK _ hE3) (fun hm => ?_))
  have hl1 := hml (by omega)
  refine lawArg_i rfl (he3.at_ hb.at_) ?_
  refine szP_c (h2.ext hE3) ⟨by omega, by omega⟩ hrl2 hrs2 fun m2 w4 he4 hm20 hm21 hml2 => ?_
  have hE4 := hE3.trans he4
  refine lss_i (ifB_i (fun _ => hK _ hE4) (fun hm2 => ?_))
  have hl2 := hml2 (by omega)
  have hd := (Same.drew w4).ext
  have hE5 : Ext w w4.drew := hE4.trans hd
  have hca : w4.drew.heap[ap]? = some (row #[u1] ty_laws_Picture) := hd.at_ (he4.at_ (he3.at_ (hb.ext.at_ ha.at_)))
  have hcb : w4.drew.heap[bp]? = some (row #[u2] ty_laws_Picture) := hd.at_ (he4.at_ (he3.at_ hb.at_))
  refine drawF_i (fun w' => w'.heap[bp]? = some (row #[u2] ty_laws_Picture)) hcb ?_
  refine lawArg_i rfl hca ?_
  refine lawArgF_i rfl (fun _ h => h) ?_
  refine toP_c (h1.ext hE5) hl1 fun v1 b1 w6 he6 _ hv1 => ?_
  have hcb6 := he6.at_ hcb
  refine ⟨hcb6, ?_⟩
  have hE6 := hE5.trans he6
  refine toP_c (h2.ext hE6) hl2 fun v2 b2 w7 he7 _ hv2 => ?_
  have hE7 := hE6.trans he7
  refine spec_Same_c (hv1.ext he7) hv2 fun g w8 he8 hg => ?_
  have hE8 := hE7.trans he8
  have hca8 := he8.at_ (he7.at_ (he6.at_ hca))
  have hcb8 := he8.at_ (he7.at_ hcb6)
  refine lawArg_i rfl hca8 ?_
  refine toP_c (h1.ext hE8) hl1 fun v3 b3 w9 he9 _ hv3 => ?_
  refine AVal.var rfl hv3 fun op w10 he10 _ hP10 => ?_
  have hE10 := (hE8.trans he9).trans he10
  have hcb10 := he10.at_ (he9.at_ hcb8)
  refine lawArg_i rfl hcb10 ?_
  refine toP_c (h2.ext hE10) hl2 fun v4 b4 w11 he11 _ hv4 => ?_
  refine AVal.var rfl hv4 fun oq w12 he12 _ hP12 => ?_
  have hE12 := (hE10.trans he11).trans he12
  have hP10' := (hP10.ext he11).ext he12
  refine ldA_i rfl hP10' fun v5 hv5 => ?_
  refine ldA_i rfl hP12 fun v6 hv6 => ?_
  refine impl_Same_c hv5 hv6 fun g' w13 he13 hg' => ?_
  have hgg : g' = g := by
    cases g <;> cases g'
    · rfl
    · have := hg.2 (hg'.1 rfl); cases this
    · have := hg'.2 (hg.1 rfl); cases this
    · rfl
  subst hgg
  refine neqBool_i (by kernel_rfl) ?_
  rw [beq_self_eq_true, ifB_eq, if_neg (by simp)]
  have hE13 := hE12.trans he13
  have hca13 := he13.at_ (he12.at_ (he11.at_ (he10.at_ (he9.at_ hca8))))
  have hcb13 := he13.at_ (he12.at_ (he11.at_ hcb10))
  refine tail_c (T := ty_laws_Picture) (A := fun w => K (.bool false) w) rfl hl1 (h1.ext hE13) hca13 (hP10'.ext he13) fun w14 he14 => ?_
  have hE14 := hE13.trans he14
  exact tail_c (T := ty_laws_Picture) (A := fun w => K (.bool false) w) (K := fun w => K (.bool true) w) rfl hl2 (h2.ext hE14) (he14.at_ hcb13) ((hP12.ext he13).ext he14) fun w15 he15 => hK w15 (hE14.trans he15)
end Go.Proofs.Ytnpkcdegckfjeaa
