/- Contract of the program's valleys: all pixels in their order. -/
import Derived.Test.YtfdmphgbodmkpaaCVal6
set_option linter.unusedVariables false
set_option linter.unusedSimpArgs false
namespace Go.Proofs.Ytfdmphgbodmkpaa
open Go Go.SL Go.RowKit
set_option maxRecDepth 100000

section
variable {w : World} {W H : Nat}
theorem tab_getElem {α : Type} {n i : Nat} {f : Nat → α} (h : i < (tab n f).length) : (tab n f)[i] = f i := by simp [tab]
/-- The comparison by numbers. -/
theorem cmpGrey {w1 : World} {gp gc b b0 : Nat} {rb : Nat → Nat} {num : Nat → Int} (hg : GP w gp W H num b0 rb) (hE : Ext w w1) (hgc : w1.heap[gc]? = some (row #[ptr gp 0] ty_Pimpl_Grey)) (hb : w.heap.size ≤ b) (hgb : gc ≠ b) :
    CmpOk w1 b (.func (.func n_Grey_valleys_1) #[] #[ptr gc 0]) (fun p => num (idx2 W p)) (fun p => inB W H p = true) := by
  refine ⟨fun x y w2 hx hy hm K hK => ?_⟩
  have hE2 : Ext w w2 := hE.own hm hb
  have hgc2 := hm.at_ hgc hgb
  refine callV_i ?_
  refine call_Grey_valleys_1 _ _ _ _ _ ?_
  unfold S_Grey_valleys_1
  refine spot_box rfl fun xb w3 h3 => ?_
  refine spot_box rfl fun yb w4 h4 => ?_
  have hd := Same.drew w4
  have e24 : Ext w2 w4.drew := (h3.ext.trans h4.ext).trans hd.ext
  have hgc4 := e24.at_ hgc2
  have hxb : w4.drew.heap[xb]? = some (row #[i64 x.1, i64 x.2] ty_impl_Spot) := h4.ext.at_ h3.at_
  have hyb : w4.drew.heap[yb]? = some (row #[i64 y.1, i64 y.2] ty_impl_Spot) := h4.at_
  refine drawF_i (fun w' => w'.heap[gc]? = some (row #[ptr gp 0] ty_Pimpl_Grey) ∧ w'.heap[yb]? = some (row #[i64 y.1, i64 y.2] ty_impl_Spot)) ⟨hgc4, hyb⟩ ?_
  refine ld_i (by kernel_rfl) hgc4 rfl ?_
  refine ldS_i rfl hxb ?_
  refine rdF_i (fun w' hw' => ld_run (by kernel_rfl) hw'.1 rfl) ?_
  refine rdF_i (v := pairV y) (fun w' hw' => ldn_run (n := 2) (by kernel_rfl) hw'.2 (Nat.le_refl 2)) ?_
  have hE4 := hE2.trans e24
  have ex := sp_idx2 hx
  have ey := sp_idx2 hy
  rw [← ex, ← ey]
  refine at_sp (hg.ext hE4) (idx2_lt hx) fun w5 he5 => ?_
  refine ⟨⟨he5.at_ hgc4, by rw [ey]; exact he5.at_ hyb⟩, ?_⟩
  refine at_sp (hg.ext (hE4.trans he5)) (idx2_lt hy) fun w6 he6 => ?_
  refine cmpInt64_c fun c hc => hK c w6 ((e24.trans he5).trans he6) ?_
  rw [hc]

theorem valleys_c {gp b0 : Nat} {rb : Nat → Nat} {num : Nat → Int} {K : Value → World → Prop} (hg : GP w gp W H num b0 rb) (hn : ∀ i, 0 ≤ num i ∧ num i ≤ 99)
    (hK : ∀ outv outb S w', Ext w w' → w.heap.size ≤ outb → PtrSl w' outv (S.map (·.pb)) outb → (∀ r ∈ S, cellV r w') → (∀ r ∈ S, PixOk w' W (W * H) r) → (∀ r ∈ S, r.set ≠ []) → (∀ r ∈ S, w.heap.size ≤ r.pb ∧ w.heap.size ≤ r.qb) → RelI (runV num (near W H) (ordK (W * H) num 100 0)) S → S.length ≤ 100000 → K outv w') :
    callS Pg n_Grey_valleys #[ptr gp 0] w K := by
  refine call_Grey_valleys _ _ _ ?_
  unfold S_Grey_valleys
  have hW : 0 < W := hg.w1
  have ha := hg.area
  refine box_i fun gc w1 h1 => ?_
  have hgc1 : w1.heap[gc]? = some (row #[ptr gp 0] ty_Pimpl_Grey) := h1.at_
  refine ld_i (by kernel_rfl) hgc1 rfl ?_
  refine spotsG_c (hg.ext h1.ext) fun ordv ordb w2 he2 hob hord => ?_
  have hgc2 := he2.at_ hgc1
  have hE2 := h1.ext.trans he2
  have z1 := h1.ext.size
  have hobw : w.heap.size ≤ ordb := by omega
  obtain ⟨cord, hcord⟩ := hord.row
  refine sortStable_c (n := W * H) (lt := fun p q => ltV num (idx2 W p) (idx2 W q)) (bf := fun p q => idx2 W p < idx2 W q) (cmpGrey hg hE2 hgc2 hobw (at_ne hgc2 hcord (by decide))) (by omega) (fun x y h => .inl h) (fun x y h k => by unfold ltV; have k' : num (idx2 W x) ≤ num (idx2 W y) := k; omega)
    (fun x y z h k => by unfold ltV at *; omega) (fun k hk => inB_sp hW hk) (fun p q hpq hq => by rw [idx2_sp, idx2_sp]; exact hpq) hord fun f' w3 hm3 hord3 hperm hsrt => ?_
  have hgc3 := hm3.at_ hgc2 (at_ne hgc2 hcord (by decide))
  have hE3 : Ext w w3 := hE2.own hm3 hobw
  -- the order
  have hin' : ∀ k, k < W * H → inB W H (f' k) = true := fun k hk => by
    obtain ⟨i, q1, q2⟩ := mem_tab.1 (hperm.mem_iff.1 (mem_tab.2 ⟨k, hk, rfl⟩))
    rw [← q2]; exact inB_sp hW q1
  have hordeq : (tab (W * H) fun k => idx2 W (f' k)) = ordK (W * H) num 100 0 := by
    refine sorted_ord hn ?_ fun x => ?_
    · rw [List.pairwise_iff_getElem]
      intro i k hi hk hik
      rw [tab_len] at hi hk
      have e1 : ∀ (i : Nat) (h : i < (tab (W * H) fun k => idx2 W (f' k)).length), (tab (W * H) fun k => idx2 W (f' k))[i] = idx2 W (f' i) := fun i h => by simp [tab]
      rw [e1, e1]
      exact hsrt i k (by omega) hik hk
    · rw [mem_tab]
      constructor
      · rintro ⟨i, hi, rfl⟩
        exact idx2_lt (hin' i hi)
      · intro hx
        obtain ⟨i, q1, q2⟩ := mem_tab.1 (hperm.symm.mem_iff.1 (mem_tab.2 ⟨x, hx, rfl⟩))
        exact ⟨i, q1, by rw [q2, idx2_sp]⟩
  clear hord hperm hsrt hm3
  refine sl1_nil (E := ty_Pimpl_valley) (by kernel_rfl) fun outv0 outb0 w4 he4 hob4 hout4 => ?_
  refine makeMap_i pairV fun r1 w5 he5 hr1 hmap5 => ?_
  refine makeMap_i pk fun r2 w6 he6 hr2 hmap6 => ?_
  refine var1_i (by kernel_rfl) rfl rfl rfl fun rc w7 h7 => ?_
  have hE7 : Ext w w7 := hE3.trans (he4.trans (he5.trans (he6.trans h7.ext)))
  have z4 := he4.size; have z5 := he5.size; have z6 := he6.size; have z3 := hE3.size
  have hr1l := hmap5.lt; have hr2l := hmap6.lt
  have hout0l := Sl1.lt hout4
  have e37 : Ext w3 w7 := he4.trans (he5.trans (he6.trans h7.ext))
  have hrco := h7.old
  have hord7 := hord3.ext e37
  refine spots_len_i rfl hord7 ?_
  rw [tab_len]
  have hIM0 : IM w w7 W H r1 r2 rc outb0 outv0 [] (runV num (near W H) []) := by
    refine ⟨hE7, fun r hr => (by cases hr), fun r hr => (by cases hr), ⟨[], hmap5.ext (he6.trans h7.ext), fun q _ => rfl, fun p _ => rfl⟩, hmap6.ext h7.ext, h7.at_, hout4.ext (he5.trans (he6.trans h7.ext)), ⟨rfl, fun j r hr => (by simp at hr)⟩, InvV.start, by omega, by omega, by omega, by omega, fun r hr => (by cases hr), fun r hr => (by cases hr), by omega, List.nodup_nil, List.nodup_nil⟩
  have hordl := hord3.lt
  have htk : ∀ i, i < W * H → (ordK (W * H) num 100 0).take (i + 1) = (ordK (W * H) num 100 0).take i ++ [idx2 W (f' i)] := fun i hi => by
    rw [← hordeq, List.take_succ_eq_append_getElem (by rw [tab_len]; exact hi)]
    rw [tab_getElem]
  have hordlen : (ordK (W * H) num 100 0).length = W * H := by rw [← hordeq, tab_len]
  have hnotin : ∀ i, i < W * H → idx2 W (f' i) ∉ (ordK (W * H) num 100 0).take i := fun i hi h => by
    have hp := ordK_sorted (W * H) num 100 0
    have h2 : ((ordK (W * H) num 100 0).take (i + 1)).Pairwise (ltV num) := List.Pairwise.sublist (List.take_sublist _ _) hp
    rw [htk i hi, List.pairwise_append] at h2
    have := h2.2.2 (idx2 W (f' i)) h (idx2 W (f' i)) (List.mem_singleton_self _)
    unfold ltV at this
    omega
  refine loopS_i (fun s w' => ∃ (outv : Value) (outb : Nat) (S : List IV) (i : Nat), s = [outv, i64 i] ∧ i ≤ W * H ∧ IM w w' W H r1 r2 rc outb outv S (runV num (near W H) ((ordK (W * H) num 100 0).take i)) ∧ (∀ r ∈ S, r.set ≠ []) ∧ OwnSpots w' ordv (tab (W * H) f') ordb ∧ w'.heap[gc]? = some (row #[ptr gp 0] ty_Pimpl_Grey) ∧ (∀ r ∈ S, r.qb ≠ ordb)) (fun s _ => W * H - (intOf (nth s 1)).toNat)
    ⟨outv0, outb0, [], 0, rfl, by omega, by rw [List.take_zero]; exact hIM0, fun r hr => (by cases hr), hord7, e37.at_ hgc3, fun r hr => (by cases hr)⟩ ?_
  clear hIM0 hord7 hord3 hgc1 hgc2 hgc3 hout4 hmap5 hmap6 hr1l hr2l hout0l
  rintro g s w8 ⟨outv, outb, S, i, rfl, hi, hS, hne, hord, hgc, hqo⟩
  rw [nth0, nth1]
  have hSl : S.length ≤ 100000 := by
    rw [hS.len]
    refine Nat.le_trans (run_len _) ?_
    rw [List.length_take, hordlen]; omega
  refine lss_i (ifB_i (fun hlt => ?_) (fun hlt => ?_))
  · have hiN : i < W * H := by omega
    have hjN := idx2_lt (hin' i hiN)
    have hnj : (runV num (near W H) ((ordK (W * H) num 100 0).take i)).of (idx2 W (f' i)) = none := run_none.2 (hnotin i hiN)
    have htki := htk i hiN
    have hsp := sp_idx2 (hin' i hiN)
    refine spotV_i ⟨rfl, rfl⟩ hord (by omega) (tab_get (i := i) hiN) ?_
    generalize idx2 W (f' i) = j at hjN hnj htki hsp
    rw [← hsp]
    have hnext : runV num (near W H) ((ordK (W * H) num 100 0).take (i + 1)) = stepV num (near W H) (runV num (near W H) ((ordK (W * H) num 100 0).take i)) j := by rw [htki, run_snoc]
    have hvsl : (runV num (near W H) ((ordK (W * H) num 100 0).take i)).vs.length ≤ 100000 := by rw [← hS.len]; exact hSl
    refine varS_i (p := sp W j) rfl fun sb w9 h9 => ?_
    have hspot9 := h9.at_
    have hsbo := h9.old
    have hS9 := hS.step h9.ext
    have hord9 := hord.ext h9.ext
    have hgc9 := h9.ext.at_ hgc
    have hqbl : ∀ r ∈ S, r.qb < w8.heap.size := fun r hr => (hS.pix _ hr).blk
    have z9 := h9.ext.size
    have zw8 := hS.ext.size
    have hsq9 : ∀ r ∈ S, r.qb ≠ sb := fun r hr => by have := hqbl r hr; omega
    have hordbl := hord.lt
    have houtl8 := Sl1.lt hS.out
    have hob_sb : ordb ≠ sb := by omega
    clear hS hord hgc hqbl
    refine sl1_nil (E := ty_Pimpl_valley) (by kernel_rfl) fun nv0 nb0 wa hea hnb0 hnv0 => ?_
    have hspota := hea.at_ hspot9
    refine fldi_i (by kernel_rfl) (ld_i (by kernel_rfl) hspota rfl ?_)
    refine fldi_i (by kernel_rfl) (ld_i (by kernel_rfl) hspota rfl ?_)
    have hspb := inB_iff.1 (inB_sp hW hjN)
    have hw2 := hg.w2; have hh2 := hg.h2
    refine around_c ⟨by omega, by omega⟩ ⟨by omega, by omega⟩ fun av ab wb heb hab hav => ?_
    have hab9 : Ext w9 wb := hea.trans heb
    have hnvb := Sl1.ext hnv0 heb
    have hnb0l := Sl1.lt hnv0
    have za := hea.size
    refine nearI (j := j) (nb0 := nb0) (hS9.step hab9) hSl (by exact hav) (by exact hnvb) (by omega) (by omega) fun nv nb R wc hmc hSc hnb hnbo hnvc hnbor hRn hRl hRm hRS kk => ?_
    rw [nth0]
    -- after the neighbours
    have hcnv0 := hnvb.cells
    obtain ⟨cn0, hcn0⟩ := hcnv0
    have hspotb := hab9.at_ hspot9
    have hgcb := hab9.at_ hgc9
    have hspotc := hmc.at_ hspotb (at_ne hspotb hcn0 (by decide))
    have hgcc := hmc.at_ hgcb (at_ne hgcb hcn0 (by decide))
    have hordb := hord9.ext hab9
    have hordc := hordb.mod hmc (by obtain ⟨co, qo⟩ := hordb.row; exact at_ne qo hcn0 (by decide))
    have zb := hab9.size
    have zc := hmc.size
    have hnbge : w8.heap.size ≤ nb := by rcases hnbor with rfl | h <;> omega
    clear hmc hnvb hnv0 hcn0 hnbor hav hS9 hord9 hgc9 hspot9 hspota hspotb hgcb hordb heb hea h9
    generalize runV num (near W H) ((ordK (W * H) num 100 0).take i) = st at *
    refine joinS_k fun J hJ => ?_
    -- what the tail leaves goes on
    have fin : ∀ (outv' : Value) (outb' : Nat) (S' : List IV) (w' : World), IM w w' W H r1 r2 rc outb' outv' S' (stepV num (near W H) st j) → (∀ r ∈ S', r.set ≠ []) → OwnSpots w' ordv (tab (W * H) f') ordb → w'.heap[gc]? = some (row #[ptr gp 0] ty_Pimpl_Grey) → (∀ r ∈ S', r.qb ≠ ordb) →
        pur Pg (binOp Go.BinOp.add ty_int (i64 (i : Int)) (Go.Value.int Go.IntKind.i64 1)) fun t => (∃ (outv : Value) (outb : Nat) (S : List IV) (i : Nat), [outv', t] = [outv, i64 i] ∧ i ≤ W * H ∧ IM w w' W H r1 r2 rc outb outv S (runV num (near W H) ((ordK (W * H) num 100 0).take i)) ∧ (∀ r ∈ S, r.set ≠ []) ∧ OwnSpots w' ordv (tab (W * H) f') ordb ∧ w'.heap[gc]? = some (row #[ptr gp 0] ty_Pimpl_Grey) ∧ (∀ r ∈ S, r.qb ≠ ordb)) ∧ W * H - (intOf (nth [outv', t] 1)).toNat < W * H - (intOf (nth [outv, i64 (i : Int)] 1)).toNat := by
      intro outv' outb' S' w' a1 a2 a3 a4 a5
      refine add_i (.of (by omega) (by omega)) ?_
      exact ⟨⟨outv', outb', S', i + 1, by simp, by omega, by rw [hnext]; exact a1, a2, a3, a4, a5⟩, by simp only [nth1, intOf]; omega⟩
    have fr : ∀ {b T : Nat} {cs : Array Value} {w' : World} {S' : List IV} {outb' : Nat} {outv' : Value} {st' : VSt} {nb' : Nat}, IM w w' W H r1 r2 rc outb' outv' S' st' → w'.heap[b]? = some (row cs T) → T ≠ ty_impl_valley → (T = ty_impl_Spot → ∀ r ∈ S', r.qb ≠ b) → b ≠ nb' → ¬ (b = r1 ∨ b = nb' ∨ ∃ r ∈ S', b = r.pb ∨ b = r.qb) := by
      intro b T cs w' S' outb' outv' st' nb' hS' hb hT hsp hnb'
      rintro (e | e | ⟨r, hr, e | e⟩)
      · exact rowne1 hS' hb e
      · exact hnb' e
      · exact at_ne hb (hS'.cell _ hr) hT e
      · by_cases hTs : T = ty_impl_Spot
        · exact hsp hTs r hr e.symm
        · obtain ⟨cs', q⟩ := (hS'.pix _ hr).ty
          exact at_ne hb q hTs e
    have hrooteq : stepV num (near W H) st j = if roots st (near W H j) = [] then addV (bornV num st j) st.vs.length j else addV (mergeV st (minL (roots st (near W H j))) (roots st (near W H j)) (num j)) (minL (roots st (near W H j))) j := rfl
    refine sl1_len (by kernel_rfl) hnvc ?_
    rw [List.length_map, List.length_map]
    refine eql_i (ifB_i (fun hR0 => ?_) (fun hR0 => ?_))
    · have hRnil : R = [] := List.length_eq_zero_iff.1 (by omega)
      subst hRnil
      have hroots : roots st (near W H j) = [] := by
        rcases hq : roots st (near W H j) with _ | ⟨x, l⟩
        · rfl
        · have := (hRm x).2 (by rw [hq]; exact List.mem_cons_self ..)
          cases this
      rw [if_pos hroots] at hrooteq
      refine birthI hSc hg hgcc hspotc hjN hSl hnvc hnb hnbo hsq9 (by omega) fun nv' nb' outv' outb' r0 w' hIM hr0 hr0q hnv' hnb'0 hnbo' hnbor' houtor' hr0pb hm' => ?_
      refine hJ _ _ fun _ => ?_
      clear hJ
      rw [nth0, nth1]
      have hlast : (S ++ [r0])[S.length]? = some r0 := by rw [List.getElem?_append_right (Nat.le_refl _), Nat.sub_self]; rfl
      have pst : ∀ {b T : Nat} {cs : Array Value}, wc.heap[b]? = some (row cs T) → T ≠ ty_Pimpl_valley → w'.heap[b]? = some (row cs T) := fun {b T cs} hb hT => by
        refine hm'.at_ hb ?_
        rintro (e | e | e)
        · obtain ⟨c, q⟩ := Sl1.cells hnvc
          exact at_ne hb q hT e
        · obtain ⟨c, q⟩ := Sl1.cells hSc.out
          exact at_ne hb q hT e
        · exact row_ne_pk hb hSc.rank e
      have hord' : OwnSpots w' ordv (tab (W * H) f') ordb := by
        obtain ⟨c, q⟩ := hordc.row
        refine hordc.mod hm' ?_
        rintro (e | e | e)
        · obtain ⟨c', q'⟩ := Sl1.cells hnvc
          exact at_ne q q' (by decide) e
        · obtain ⟨c', q'⟩ := Sl1.cells hSc.out
          exact at_ne q q' (by decide) e
        · exact row_ne_pk q hSc.rank e
      refine tailI (R := [S.length]) hIM hg (pst hgcc (by decide)) (pst hspotc (by decide)) hjN (by exact hnj) (by simp) (by simp) (by simp) (fun v hv => by rw [List.mem_singleton] at hv; subst hv; rw [List.length_append, List.length_singleton]; omega) ?_ hnbo' hnb'0 (fun r hr hrne => ?_) (.inr ⟨S.length, r0, rfl, hlast, hr0, fun k r' hk hr' => ?_⟩) fun S' w'' hS' hne' hm'' hqd' => ?_
      · show PtrSl w' nv' [pbAt (S ++ [r0]) S.length] nb'
        rw [pbAt_of hlast]; exact hnv'
      · rcases List.mem_append.1 hr with hr | hr
        · exact hsq9 r hr
        · rw [List.mem_singleton] at hr; subst hr; exact absurd hr0 hrne
      · have hkl : k < S.length := by
          have := (List.getElem?_eq_some_iff.1 hr').1
          rw [List.length_append, List.length_singleton] at this; omega
        rw [List.getElem?_append_left hkl] at hr'
        exact hne r' (List.mem_of_getElem? hr')
      · have e1 : mergeV (bornV num st j) S.length [S.length] (num j) = bornV num st j := by
          rw [merge_self (fun _ => trivial), merge_nil]
        have hS' : IM w w'' W H r1 r2 rc outb' outv' S' (addV (mergeV (bornV num st j) S.length [S.length] (num j)) S.length j) := hS'
        rw [e1] at hS'
        have hlen : S.length = st.vs.length := hSc.len
        rw [hlen, ← hrooteq] at hS'
        have hqo' : ∀ r ∈ S ++ [r0], r.qb ≠ ordb := fun r hr => by
          rcases List.mem_append.1 hr with hr | hr
          · exact hqo r hr
          · rw [List.mem_singleton] at hr; subst hr; rw [hr0q]; exact fun e => hob_sb e.symm
        obtain ⟨co', qo'⟩ := hord'.row
        have hgc' := pst hgcc (by decide)
        have hnb'wc : nb' = nb ∨ wc.heap.size ≤ nb' := hnbor'
        have hord'' := hord'.mod hm'' (fr hIM qo' (by decide) (fun _ => hqo') (by
          obtain ⟨c', q'⟩ := Sl1.cells hnv'
          exact at_ne qo' q' (by decide)))
        refine fin outv' outb' S' w'' hS' hne' hord'' (hm''.at_ hgc' (fr hIM hgc' (by decide) (fun e => absurd e (by decide)) (by
          obtain ⟨c', q'⟩ := Sl1.cells hnv'
          exact at_ne hgc' q' (by decide)))) fun r hr => ?_
        rcases hqd' r hr with ⟨r', hr', e⟩ | h
        · rw [e]; exact hqo' r' hr'
        · have := hord'.lt; omega
    · have hRne : R ≠ [] := fun e => hR0 (by rw [e]; rfl)
      have hrne : roots st (near W H j) ≠ [] := fun e => by
        obtain ⟨x, hx⟩ := List.exists_mem_of_ne_nil _ hRne
        have := (hRm x).1 hx
        rw [e] at this; cases this
      rw [if_neg hrne] at hrooteq
      have hmin : minL R = minL (roots st (near W H j)) := by
        obtain ⟨h1, h2⟩ := minL_mem hrne
        exact minL_eq ((hRm _).2 h1) fun x hx => h2 x ((hRm x).1 hx)
      refine hJ _ _ fun _ => ?_
      clear hJ
      rw [nth0, nth1]
      refine tailI hSc hg hgcc hspotc hjN hnj hRne hRn (by omega) hRS hnvc hnbo hnb (fun r hr _ => hsq9 r hr) (.inl ⟨fun v hv => ?_, hne⟩) fun S' w'' hS' hne' hm'' hqd' => ?_
      · obtain ⟨q, _, hq⟩ := roots_mem.1 ((hRm v).1 hv)
        exact ⟨q, hq⟩
      · rw [merge_congr hRm, hmin, ← hrooteq] at hS'
        obtain ⟨co', qo'⟩ := hordc.row
        have hord'' := hordc.mod hm'' (fr hSc qo' (by decide) (fun _ => hqo) (by
          obtain ⟨c', q'⟩ := Sl1.cells hnvc
          exact at_ne qo' q' (by decide)))
        refine fin outv outb S' w'' hS' hne' hord'' (hm''.at_ hgcc (fr hSc hgcc (by decide) (fun e => absurd e (by decide)) (by
          obtain ⟨c', q'⟩ := Sl1.cells hnvc
          exact at_ne hgcc q' (by decide)))) fun r hr => ?_
        rcases hqd' r hr with ⟨r', hr', e⟩ | h
        · rw [e]; exact hqo r' hr'
        · have := hordc.lt; omega
  · have : i = W * H := by omega
    subst this
    rw [List.take_of_length_le (by rw [hordlen]; exact Nat.le_refl _)] at hS
    exact hK outv outb S w8 hS.ext hS.oout hS.out hS.cell hS.pix hne (fun r hr => ⟨hS.opb r hr, hS.oqb r hr⟩) hS.rel hSl
end
end Go.Proofs.Ytfdmphgbodmkpaa
