/- Contract of the program's valleys. -/
import Derived.Test.YtfdmphgbodmkpaaCVal5
set_option linter.unusedVariables false
set_option linter.unusedSimpArgs false
namespace Go.Proofs.Ytfdmphgbodmkpaa
open Go Go.SL Go.RowKit
set_option maxRecDepth 100000

section
variable {w0 w : World} {W H r1 r2 rc outb : Nat} {outv : Value} {S : List IV} {st : VSt}

theorem birthI {num : Nat → Int} {gc gp sb j b0 nb : Nat} {rb : Nat → Nat} {nv : Value} {K : Value → Value → World → Prop} (hS : IM w0 w W H r1 r2 rc outb outv S st) (hg : GP w0 gp W H num b0 rb) (hgc : w.heap[gc]? = some (row #[ptr gp 0] ty_Pimpl_Grey)) (hspot : w.heap[sb]? = some (row #[i64 (sp W j).1, i64 (sp W j).2] ty_impl_Spot))
    (hj : j < W * H) (hSl : S.length ≤ 100000) (hnear : PtrSl w nv [] nb) (hnb0 : w0.heap.size ≤ nb) (hnbo : nb ≠ outb) (hsq : ∀ r ∈ S, r.qb ≠ sb) (hsb0 : w0.heap.size ≤ sb)
    (hK : ∀ nv' nb' outv' outb' r0 w', IM w0 w' W H r1 r2 rc outb' outv' (S ++ [r0]) (bornV num st j) → r0.set = [] → r0.qb = sb → PtrSl w' nv' [r0.pb] nb' → w0.heap.size ≤ nb' → nb' ≠ outb' → (nb' = nb ∨ w.heap.size ≤ nb') → (outb' = outb ∨ w.heap.size ≤ outb') → w.heap.size ≤ r0.pb → Mod (fun b => b = nb ∨ b = outb ∨ b = r2) w w' → K nv' outv' w') :
  drawF w fun S101 w =>
  rd Pg (Instr.loadAt ty_Pimpl_Grey (ptr gc 0)) w fun t63_102 =>
  rd Pg (Instr.loadAt ty_impl_Spot (ptr sb 0)) w fun t64_103 =>
  rdF Pg S101 (Instr.loadAt ty_Pimpl_Grey (ptr gc 0)) fun t66_104 =>
  rdF Pg S101 (Instr.loadAt ty_impl_Spot (ptr sb 0)) fun t67_105 =>
  callS Pg n_Grey_at #[t63_102, t64_103] w fun t65_106 w =>
  S101 w ∧
  callS Pg n_Grey_place #[t66_104, t67_105] w fun t68_107 w =>
  pur Pg (Instr.build ty_impl_valley #[(0, t65_106), (1, t68_107), (2, (Go.Value.int Go.IntKind.i64 (-1))), (3, (Go.Value.slice Option.none 0 0))]) fun t69_108 =>
  eff Pg (Instr.box ty_impl_valley t69_108) w fun t70_109 w =>
  eff Pg (Instr.buildSlice ty_SPimpl_valley 1 #[(0, t70_109)]) w fun t71_110 w =>
  eff Pg (Builtin.append_ #[ty_SPimpl_valley, ty_SPimpl_valley] ty_SPimpl_valley #[nv, t71_110]) w fun t72_111 w =>
  drawS w fun w =>
  rd Pg (Instr.loadAt ty_M_Pimpl_valley_int (ptr rc 0)) w fun t73_112 =>
  pur Pg (Instr.indexAt ty_SPimpl_valley t72_111 (Go.Value.int Go.IntKind.i64 0)) fun t75_113 =>
  rd Pg (Instr.loadAt ty_Pimpl_valley t75_113) w fun t76_114 =>
  rd Pg (Builtin.len_ #[ty_SPimpl_valley] ty_int #[outv]) w fun t78_115 =>
  effU Pg (Instr.mapUpdate ty_M_Pimpl_valley_int t73_112 t76_114 t78_115) w fun w =>
  pur Pg (Instr.indexAt ty_SPimpl_valley t72_111 (Go.Value.int Go.IntKind.i64 0)) fun t81_116 =>
  rd Pg (Instr.loadAt ty_Pimpl_valley t81_116) w fun t82_117 =>
  eff Pg (Instr.buildSlice ty_SPimpl_valley 1 #[(0, t82_117)]) w fun t83_118 w =>
  eff Pg (Builtin.append_ #[ty_SPimpl_valley, ty_SPimpl_valley] ty_SPimpl_valley #[outv, t83_118]) w fun t84_119 w =>
  K t72_111 t84_119 w := by
  have hSlen := hS.len
  obtain ⟨cn, hcn⟩ := Sl1.cells hnear
  obtain ⟨co, hco⟩ := Sl1.cells hS.out
  have hd := Same.drew w
  have hgc0 : w.drew.heap[gc]? = some (row #[ptr gp 0] ty_Pimpl_Grey) := hgc
  have hsp0 : w.drew.heap[sb]? = some (row #[i64 (sp W j).1, i64 (sp W j).2] ty_impl_Spot) := hspot
  refine drawF_i (fun w' => w'.heap[gc]? = some (row #[ptr gp 0] ty_Pimpl_Grey) ∧ w'.heap[sb]? = some (row #[i64 (sp W j).1, i64 (sp W j).2] ty_impl_Spot)) ⟨hgc0, hsp0⟩ ?_
  refine ld_i (by kernel_rfl) hgc0 rfl ?_
  refine ldS_i rfl hsp0 ?_
  refine rdF_i (fun w' hw' => ld_run (by kernel_rfl) hw'.1 rfl) ?_
  refine rdF_i (v := pairV (sp W j)) (fun w' hw' => ldn_run (n := 2) (by kernel_rfl) hw'.2 (Nat.le_refl 2)) ?_
  have hE0 := hS.ext.trans hd.ext
  refine at_sp (hg.ext hE0) hj fun w1 he1 => ?_
  refine ⟨⟨he1.at_ hgc0, he1.at_ hsp0⟩, ?_⟩
  refine place_sp (hg.ext (hE0.trans he1)) hj fun w2 he2 => ?_
  refine build_i rfl rfl ?_
  refine box_i fun vb w3 h3 => ?_
  have he3 : Ext w w3 := (hd.ext.trans (he1.trans he2)).trans h3.ext
  have z3 := he3.size
  have hvb : w.heap.size ≤ vb := by
    have h1 := (hd.ext.trans (he1.trans he2)).size
    have h2 := h3.old
    omega
  have hcell3 : w3.heap[vb]? = some (row #[i64 (num j), i64 (j : Int), i64 (-1), .slice none 0 0] ty_impl_valley) := h3.at_
  have hS3 := hS.step he3
  have hnear3 := hnear.ext he3
  refine sl1_app (E := ty_Pimpl_valley) (x := ptr vb 0) (by kernel_rfl) rfl hnear3 (by simp) fun nv' w4 nb' hor4 hm4 hnv4 => ?_
  have hnv4 : PtrSl w4 nv' [vb] nb' := hnv4
  have nne : ∀ {b T : Nat} {cs : Array Value}, w3.heap[b]? = some (row cs T) → T ≠ ty_Pimpl_valley → b ≠ nb := fun h hT => at_ne h (he3.at_ hcn) hT
  have hcell4 := hm4.at_ hcell3 (nne hcell3 (by decide))
  have hnbl := lt_of_at hcn; have houtl := lt_of_at hco
  have hz0 := hS.ext.size
  have hS4 : IM w0 w4 W H r1 r2 rc outb outv S st := { hS3 with
    ext := hS3.ext.own hm4 hnb0
    cell := fun r hr => hm4.at_ (hS3.cell _ hr) (nne (hS3.cell _ hr) (by decide))
    pix := fun r hr => (hS3.pix _ hr).mod hm4 (by obtain ⟨cs, q⟩ := (hS3.pix _ hr).ty; exact nne q (by decide))
    of := hS3.of.mod hm4 fun e => rowne1 hS3 (he3.at_ hcn) e.symm
    rank := hS3.rank.mod hm4 fun e => row_ne_pk (he3.at_ hcn) hS3.rank e.symm
    rcell := hm4.at_ hS3.rcell (nne hS3.rcell (by decide))
    out := hS3.out.mod hm4 fun e => hnbo e.symm }
  have z4 := hm4.size
  refine drawS_i ?_
  have hd4 := Same.drew w4
  have hS5 := hS4.step hd4.ext
  have hnv5 := hnv4.ext hd4.ext
  have hcell5 : w4.drew.heap[vb]? = some (row #[i64 (num j), i64 (j : Int), i64 (-1), .slice none 0 0] ty_impl_valley) := hcell4
  have hm5 : Mod (· = nb) w w4.drew := (he3.mod.trans hm4).trans hd4.mod
  have z5 : w4.heap.size = w4.drew.heap.size := rfl
  generalize w4.drew = w5 at hS5 hnv5 hcell5 hm5 z5
  clear hS4 hS3 hnear3 hnv4 hcell4 hcell3 hd4 hm4
  refine ld_i (by kernel_rfl) hS5.rcell rfl ?_
  refine ptrs_ld hnv5 (by omega) (p := vb) rfl ?_
  refine sl1_len (by kernel_rfl) hS5.out ?_
  rw [List.length_map, List.length_map]
  have hpne : ∀ r ∈ S, vb ≠ r.pb := fun r hr => by have := lt_of_at (hS.cell r hr); omega
  have hnin : vb ∉ (ranks S).map Prod.fst := by
    rw [ranks_fst]
    intro h
    obtain ⟨r, hr, e⟩ := List.mem_map.1 h
    exact hpne r hr e.symm
  refine newPtr_i (T := ty_Pimpl_valley) (z := i64 0) (by kernel_rfl) (by kernel_rfl) hS5.rank (Plain.of hcell5) (fun p hp => rank_plain hS5 hp) hnin fun w6 hm6 hrank6 => ?_
  have mne : ∀ {b T : Nat} {cs : Array Value}, w5.heap[b]? = some (row cs T) → b ≠ r2 := fun h => row_ne_pk h hS5.rank
  obtain ⟨cv5, hcv5⟩ := Sl1.cells hnv5
  obtain ⟨co5, hco5⟩ := Sl1.cells hS5.out
  have hnv6 := hnv5.mod hm6 (mne hcv5)
  have hout6 := hS5.out.mod hm6 (mne hco5)
  have hcell6 := hm6.at_ hcell5 (mne hcell5)
  refine ptrs_ld hnv6 (by omega) (p := vb) rfl ?_
  refine sl1_app (E := ty_Pimpl_valley) (x := ptr vb 0) (by kernel_rfl) rfl hout6 (by rw [List.length_map, List.length_map]; omega) fun outv' w7 outb' hor7 hm7 hout7 => ?_
  have z6 := hm6.size
  have hE6 : Ext w0 w6 := hS5.ext.own hm6 hS5.o2
  have hco6 := hm6.at_ hco5 (mne hco5)
  have one : ∀ {b T : Nat} {cs : Array Value}, w6.heap[b]? = some (row cs T) → T ≠ ty_Pimpl_valley → b ≠ outb := fun h hT => at_ne h hco6 hT
  let r0 : IV := ⟨vb, num j, j, -1, .slice none 0 0, [], sb⟩
  have hcellv : ∀ r ∈ S, cellV r w6 := fun r hr => hm6.at_ (hS5.cell _ hr) (mne (hS5.cell _ hr))
  have hpixv : ∀ r ∈ S, PixOk w6 W (W * H) r := fun r hr => (hS5.pix _ hr).mod hm6 (by obtain ⟨cs, q⟩ := (hS5.pix _ hr).ty; exact mne q)
  have hsp5 : w5.heap[sb]? = some (row #[i64 (sp W j).1, i64 (sp W j).2] ty_impl_Spot) := hm5.at_ hspot (fun e => at_ne hspot hcn (by decide) e)
  have hsp6 := hm6.at_ hsp5 (mne hsp5)
  have hsp7 := hm7.at_ hsp6 (one hsp6 (by decide))
  have hnb'0 : w0.heap.size ≤ nb' := by rcases hor4 with rfl | h <;> omega
  have hnb'l := hnv5.lt
  have hIM : IM w0 w7 W H r1 r2 rc outb' outv' (S ++ [r0]) (bornV num st j) := by
    refine ⟨hE6.own hm7 hS.oout, ?_, ?_, ?_, ?_, ?_, ?_, ⟨?_, ?_⟩, hS.inv.born num j, hS.o1, hS.o2, hS.orc, ?_, ?_, ?_, hS.r12, ?_, ?_⟩
    · intro r hr
      rcases List.mem_append.1 hr with hr | hr
      · exact hm7.at_ (hcellv r hr) (one (hcellv r hr) (by decide))
      · rw [List.mem_singleton] at hr; subst hr
        exact hm7.at_ hcell6 (one hcell6 (by decide))
    · intro r hr
      rcases List.mem_append.1 hr with hr | hr
      · exact (hpixv r hr).mod hm7 (by obtain ⟨cs, q⟩ := (hpixv r hr).ty; exact one q (by decide))
      · rw [List.mem_singleton] at hr; subst hr
        exact ⟨⟨_, hsp7⟩, fun h => absurd rfl h, fun _ => rfl, List.nodup_nil, fun q hq => by cases hq⟩
    · have h6 : OfM w6 W H r1 S st.of := hS5.of.mod hm6 hS.r12
      obtain ⟨m, hm, k1, k2⟩ := h6.mod hm7 (fun e => by obtain ⟨m, hm, _⟩ := h6; exact row_ne_map hco6 hm e.symm)
      refine ⟨m, hm, fun q hq => ?_, k2⟩
      rw [k1 q hq]
      show ptrOf S (st.of q) = ptrOf (S ++ [r0]) (st.of q)
      rcases hq' : st.of q with _ | v
      · rfl
      · have hvl := hS.lt hq'
        simp only [ptrOf]
        rw [List.getElem?_append_left hvl]
    · have e : ranks (S ++ [r0]) = ranks S ++ [(vb, i64 (S.length : Int))] := by
        unfold ranks
        rw [List.mapIdx_append]
        simp [r0]
      rw [e]
      exact hrank6.mod hm7 (fun e => row_ne_pk hco6 hrank6 e.symm)
    · have hrc6 := hm6.at_ hS5.rcell (mne hS5.rcell)
      exact hm7.at_ hrc6 (one hrc6 (by decide))
    · show Sl1 w7 ty_Pimpl_valley outv' (((S ++ [r0]).map (·.pb)).map pk) outb'
      rw [List.map_append, List.map_append]
      exact hout7
    · rw [List.map_append, hS.rel.vs]; rfl
    · intro x r hx q
      show _ ↔ st.mem x q
      by_cases hxl : x < S.length
      · rw [List.getElem?_append_left hxl] at hx
        exact hS.rel.mem x r hx q
      · have hxe : x = S.length := by
          have := (List.getElem?_eq_some_iff.1 hx).1
          simp at this; omega
        subst hxe
        rw [List.getElem?_append_right (Nat.le_refl _), Nat.sub_self, List.getElem?_cons_zero, Option.some.injEq] at hx
        subst hx
        have hno : ¬ st.mem S.length q := fun hm => by have := hS.inv.mlt _ _ hm; omega
        simp [r0, hno]
    · have := hS.oout
      have := hE6.size
      rcases hor7 with rfl | h <;> omega
    · intro r hr
      rcases List.mem_append.1 hr with hr | hr
      · exact hS.opb r hr
      · rw [List.mem_singleton] at hr; subst hr
        show w0.heap.size ≤ vb; omega
    · intro r hr
      rcases List.mem_append.1 hr with hr | hr
      · exact hS.oqb r hr
      · rw [List.mem_singleton] at hr; subst hr; exact hsb0
    · rw [List.map_append, List.nodup_append]
      refine ⟨hS.ndp, by simp, fun a ha b hb e => ?_⟩
      simp only [List.map_cons, List.map_nil, List.mem_singleton, r0] at hb
      obtain ⟨r, hr, rfl⟩ := List.mem_map.1 ha
      subst hb
      exact hpne r hr e.symm
    · rw [List.map_append, List.nodup_append]
      refine ⟨hS.ndq, by simp, fun a ha b hb e => ?_⟩
      simp only [List.map_cons, List.map_nil, List.mem_singleton, r0] at hb
      obtain ⟨r, hr, rfl⟩ := List.mem_map.1 ha
      subst hb
      exact hsq r hr e
  have hno : nb' ≠ outb := by
    rcases hor4 with rfl | h
    · exact hnbo
    · omega
  refine hK nv' nb' outv' outb' r0 w7 hIM rfl rfl (hnv6.mod hm7 hno) hnb'0 ?_ ?_ ?_ hvb ?_
  · rcases hor7 with rfl | h
    · exact hno
    · omega
  · rcases hor4 with rfl | h
    · exact .inl rfl
    · exact .inr (by omega)
  · rcases hor7 with rfl | h
    · exact .inl rfl
    · exact .inr (by have := hm5.size; omega)
  · exact ((hm5.mono fun k _ e => .inl e).trans (hm6.mono fun k _ e => .inr (.inr e))).trans (hm7.mono fun k _ e => .inr (.inl e))
end
end Go.Proofs.Ytfdmphgbodmkpaa
