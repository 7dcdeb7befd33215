/- Contracts of the program's valleys, continued: the step of a pixel. -/
import Derived.Test.YtfdmphgbodmkpaaCVal2
set_option linter.unusedVariables false
set_option linter.unusedSimpArgs false
namespace Go.Proofs.Ytfdmphgbodmkpaa
open Go Go.SL Go.RowKit
set_option maxRecDepth 100000

section
variable {w0 w : World} {W H r1 r2 rc outb : Nat} {outv : Value} {S : List IV} {st : VSt}

theorem r1lt (hS : IM w0 w W H r1 r2 rc outb outv S st) : r1 < w.heap.size := by obtain ⟨m, hm, _⟩ := hS.of; exact hm.lt
theorem rowne1 (hS : IM w0 w W H r1 r2 rc outb outv S st) {b T : Nat} {cs : Array Value} (h : w.heap[b]? = some (row cs T)) : b ≠ r1 := by obtain ⟨m, hm, _⟩ := hS.of; exact row_ne_map h hm
theorem offP (hS : IM w0 w W H r1 r2 rc outb outv S st) {r : IV} (hr : r ∈ S) : Off w r1 r2 rc outb S r.pb := hS.off (hS.cell _ hr) (by decide) (by decide)
theorem offQ (hS : IM w0 w W H r1 r2 rc outb outv S st) {r : IV} (hr : r ∈ S) : Off w r1 r2 rc outb S r.qb := by
  obtain ⟨cs, q⟩ := (hS.pix _ hr).ty
  exact hS.off q (by decide) (by decide)
theorem pq (hS : IM w0 w W H r1 r2 rc outb outv S st) {r r' : IV} (hr : r ∈ S) (hr' : r' ∈ S) : r.pb ≠ r'.qb := by
  obtain ⟨cs, q⟩ := (hS.pix _ hr').ty
  exact at_ne (hS.cell _ hr) q (by decide)

/-- A pixel joins a valley. -/
theorem addI {s j sb : Nat} {rs : IV} {K : World → Prop} (hS : IM w0 w W H r1 r2 rc outb outv S st) (hW : 0 < W) (hN : W * H ≤ 256) (hrs : S[s]? = some rs) (has : (∃ q, st.of q = some s) ∨ rs.set = []) (hj : j < W * H) (hnj : st.of j = none)
    (hsb : w.heap[sb]? = some (row #[i64 (sp W j).1, i64 (sp W j).2] ty_impl_Spot)) (hsq : rs.set ≠ [] → rs.qb ≠ sb)
    (hK : ∀ S' w', IM w0 w' W H r1 r2 rc outb outv S' (addV st s j) → (∀ k r', S'[k]? = some r' → r'.set ≠ [] ∨ (k ≠ s ∧ S[k]? = some r')) → Mod (fun b => b = r1 ∨ ∃ r ∈ S, b = r.pb ∨ b = r.qb) w w' → (∀ r' ∈ S', (∃ r ∈ S, r'.qb = r.qb) ∨ w.heap.size ≤ r'.qb) → K w') :
  drawF w fun S88 w =>
  nilS (ptr rs.pb 0) fun t132_89 =>
  pur Pg (Instr.fieldAt ty_impl_valley t132_89 3) fun t133_90 =>
  rdF Pg S88 (Instr.loadAt ty_Simpl_Spot t133_90) fun t134_91 =>
  rd Pg (Instr.loadAt ty_impl_Spot (ptr sb 0)) w fun t135_92 =>
  eff Pg (Instr.buildSlice ty_Simpl_Spot 1 #[(0, t135_92)]) w fun t136_93 w =>
  S88 w ∧
  eff Pg (Builtin.append_ #[ty_Simpl_Spot, ty_Simpl_Spot] ty_Simpl_Spot #[t134_91, t136_93]) w fun t137_94 w =>
  nilS (ptr rs.pb 0) fun t138_95 =>
  pur Pg (Instr.fieldAt ty_impl_valley t138_95 3) fun t139_96 =>
  effU Pg (Instr.storeAt ty_Simpl_Spot t139_96 t137_94) w fun w =>
  rd Pg (Instr.loadAt ty_impl_Spot (ptr sb 0)) w fun t141_97 =>
  effU Pg (Instr.mapUpdate ty_M_impl_Spot_Pimpl_valley (.map (some r1)) t141_97 (ptr rs.pb 0)) w fun w =>
  K w := by
  have hsl : s < S.length := (List.getElem?_eq_some_iff.1 hrs).1
  have hms : rs ∈ S := List.mem_of_getElem? hrs
  have hsset := hS.pix _ hms
  have hsn := hsset.len
  have hF : fieldOff Pg ty_impl_valley 3 = some 3 := by kernel_rfl
  have hall : ∀ q, st.mem s q → st.of q = some s := fun q hm => by
    rcases has with ⟨q2, hq2⟩ | h0
    · exact hS.inv.all q2 s q hq2 hm
    · have := (hS.rel.mem s rs hrs q).2 hm
      rw [h0] at this; cases this
  have hjr : j ∉ rs.set := fun h => by
    have := hall j ((hS.rel.mem s rs hrs j).1 h)
    rw [hnj] at this; cases this
  have hd := Same.drew w
  have hc0 : cellV rs w.drew := hd.ext.at_ (hS.cell _ hms)
  have hsb0 : w.drew.heap[sb]? = some (row #[i64 (sp W j).1, i64 (sp W j).2] ty_impl_Spot) := hsb
  refine drawF_i (fun w' => cellV rs w') hc0 ?_
  refine nilS_i (fldi_i hF ?_)
  refine rdF_i (fun w' hw' => ld_run (by kernel_rfl) hw' rfl) ?_
  refine ldS_i rfl hsb0 ?_
  refine spots_one_i rfl fun ov ob w1 he1 hob hov => ?_
  have he01 : Ext w w1 := hd.ext.trans he1
  have hc1 : cellV rs w1 := he1.at_ hc0
  refine ⟨hc1, ?_⟩
  have hsb1 := he1.at_ hsb0
  have z1 := he01.size
  have hqbl : ∀ r ∈ S, r.qb < w.heap.size := fun r hr => (hS.pix _ hr).blk
  have hpbl : ∀ r ∈ S, r.pb < w.heap.size := fun r hr => lt_of_at (hS.cell _ hr)
  have hsbl := lt_of_at hsb
  -- behind the appending
  have go : ∀ (nv : Value) (nb : Nat) (w2 : World), ((rs.set ≠ [] ∧ nb = rs.qb) ∨ w.heap.size ≤ nb) → Mod (fun b => b = rs.qb ∧ rs.set ≠ []) w1 w2 → OwnSpots w2 nv ((rs.set ++ [j]).map (sp W)) nb →
      nilS (ptr rs.pb 0) fun t138_95 =>
      pur Pg (Instr.fieldAt ty_impl_valley t138_95 3) fun t139_96 =>
      effU Pg (Instr.storeAt ty_Simpl_Spot t139_96 nv) w2 fun w =>
      rd Pg (Instr.loadAt ty_impl_Spot (ptr sb 0)) w fun t141_97 =>
      effU Pg (Instr.mapUpdate ty_M_impl_Spot_Pimpl_valley (.map (some r1)) t141_97 (ptr rs.pb 0)) w fun w =>
      K w := by
    intro nv nb w2 hor hm2 hnv
    have hnv1 : SL.one nv = true := by obtain ⟨o, c, rfl, _⟩ := hnv; rfl
    have hc2 : cellV rs w2 := hm2.at_ hc1 (fun e => pq hS hms hms e.1)
    refine cell_set (r' := { rs with pv := nv, set := rs.set ++ [j], qb := nb }) hc2 (by decide) (by kernel_rfl) hnv1 rfl rfl fun w3 hm3 hc3 => ?_
    have hsb2 := hm2.at_ hsb1 (fun e => hsq e.2 e.1.symm)
    have hsb3 := hm3.at_ hsb2 (fun e => at_ne hsb (hS.cell _ hms) (by decide) e)
    refine ldS_i rfl hsb3 ?_
    have hm13 : Mod (fun b => (b = rs.qb ∧ rs.set ≠ []) ∨ b = rs.pb) w w3 := (he01.mod.trans (hm2.mono fun k _ e => .inl e)).trans (hm3.mono fun k _ e => .inr e)
    have hof3 : OfM w3 W H r1 S st.of := hS.of.mod hm13 (by
      rintro (e | e)
      · exact (offQ hS hms).n1 e.1.symm
      · exact (offP hS hms).n1 e.symm)
    refine of_put hof3 hW hj hrs fun w4 hm4 hof4 => ?_
    have hm14 : Mod (fun b => (b = rs.qb ∧ rs.set ≠ []) ∨ b = rs.pb ∨ b = r1) w w4 := (hm13.mono fun k _ e => e.elim .inl fun e => .inr (.inl e)).trans (hm4.mono fun k _ e => .inr (.inr e))
    have hE4 : Ext w0 w4 := hS.ext.comp hm14 (fun _ _ h => h) fun i hi e => by
      have k2 := hS.oqb _ hms; have k3 := hS.opb _ hms; have k4 := hS.o1
      omega
    let S' : List IV := S.set s { rs with pv := nv, set := rs.set ++ [j], qb := nb }
    have hget : ∀ (k : Nat) (r : IV), S'[k]? = some r → (k = s ∧ r = { rs with pv := nv, set := rs.set ++ [j], qb := nb }) ∨ (k ≠ s ∧ S[k]? = some r) := by
      intro k r hk
      simp only [S'] at hk
      by_cases e1 : k = s
      · subst e1
        rw [List.getElem?_set_self hsl, Option.some.injEq] at hk
        exact .inl ⟨rfl, hk.symm⟩
      · rw [List.getElem?_set_ne (fun e => e1 e.symm)] at hk
        exact .inr ⟨e1, hk⟩
    have hpb' : S'.map (·.pb) = S.map (·.pb) := by
      simp only [S']
      rw [List.map_set]
      apply List.ext_getElem?
      intro k
      rw [List.getElem?_set]
      split
      · rename_i e; subst e
        rw [if_pos (by rw [List.length_map]; exact hsl), List.getElem?_map, hrs]; rfl
      · rfl
    have hpbk : ∀ k : Nat, (S'[k]?).map IV.pb = (S[k]?).map IV.pb := fun k => by
      have e := congrArg (fun (l : List Nat) => l[k]?) hpb'
      simpa only [List.getElem?_map] using e
    have hptr : ∀ o, ptrOf S' o = ptrOf S o := fun o => by
      unfold ptrOf
      cases o with
      | none => rfl
      | some k =>
        have e := hpbk k
        rcases e1 : S'[k]? with _ | x <;> rcases e2 : S[k]? with _ | y <;> rw [e1, e2] at e <;> simp at e
        · simp [e1, e2]
        · simp [e1, e2, e]
    have hkne : ∀ (k : Nat) (r : IV), k ≠ s → S[k]? = some r → r.qb ≠ rs.qb ∧ r.pb ≠ rs.pb := fun k r hks hk => ⟨fun e => hks (qb_inj hS.ndq hk hrs e), fun e => hks (pb_inj hS.ndp hk hrs e)⟩
    have hnbr1 : nb ≠ r1 := by
      rcases hor with ⟨_, rfl⟩ | h'
      · exact (offQ hS hms).n1
      · have := r1lt hS; omega
    have hnbp : nb ≠ rs.pb := by
      rcases hor with ⟨_, rfl⟩ | h'
      · exact fun e => pq hS hms hms e.symm
      · have := hpbl rs hms; omega
    refine hK S' w4 ⟨hE4, ?_, ?_, ?_, ?_, ?_, ?_, ⟨?_, ?_⟩, ?_, hS.o1, hS.o2, hS.orc, hS.oout, ?_, ?_, hS.r12, ?_, ?_⟩ ?_ (hm14.mono fun k _ e => ?_) ?_
    · intro r hr
      obtain ⟨k, hk⟩ := List.getElem?_of_mem hr
      rcases hget k r hk with ⟨_, rfl⟩ | ⟨e1, hk'⟩
      · exact hm4.at_ hc3 (offP hS hms).n1
      · have hr' := List.mem_of_getElem? hk'
        refine hm14.at_ (hS.cell _ hr') ?_
        rintro (e | e | e)
        · exact pq hS hr' hms e.1
        · exact (hkne k r e1 hk').2 e
        · exact (offP hS hr').n1 e
    · intro r hr
      obtain ⟨k, hk⟩ := List.getElem?_of_mem hr
      rcases hget k r hk with ⟨_, rfl⟩ | ⟨e1, hk'⟩
      · have hnv4 := (hnv.mod hm3 hnbp).mod hm4 hnbr1
        refine ⟨hnv4.row, fun _ => hnv4, fun e => by simp at e, ?_, fun q hq => ?_⟩
        · show (rs.set ++ [j]).Nodup
          rw [List.nodup_append]
          exact ⟨hsset.nd, by simp, fun a ha b hb e => by rw [List.mem_singleton] at hb; subst hb; subst e; exact hjr ha⟩
        · rcases List.mem_append.1 hq with hq | hq
          · exact hsset.lt q hq
          · rw [List.mem_singleton] at hq; subst hq; exact hj
      · have hr' := List.mem_of_getElem? hk'
        refine (hS.pix _ hr').mod hm14 ?_
        rintro (e | e | e)
        · exact (hkne k r e1 hk').1 e.1
        · exact pq hS hms hr' e.symm
        · exact (offQ hS hr').n1 e
    · obtain ⟨m, hm, k1, k2⟩ := hof4
      refine ⟨m, hm, fun q hq => ?_, k2⟩
      rw [k1 q hq, hptr]
      rfl
    · have : ranks S' = ranks S := by
        unfold ranks
        apply List.ext_getElem?
        intro k
        rw [List.getElem?_mapIdx, List.getElem?_mapIdx]
        have e := hpbk k
        rcases e1 : S'[k]? with _ | x <;> rcases e2 : S[k]? with _ | y <;> rw [e1, e2] at e
        · cases e
        · cases e
        · simp only [Option.map_some, Option.some.injEq] at e ⊢
          rw [e]
      rw [this]
      refine hS.rank.mod hm14 ?_
      rintro (e | e | e)
      · exact (offQ hS hms).n2 e.1.symm
      · exact (offP hS hms).n2 e.symm
      · exact hS.r12 e.symm
    · refine hm14.at_ hS.rcell ?_
      rintro (e | e | e)
      · exact (offQ hS hms).nc e.1.symm
      · exact (offP hS hms).nc e.symm
      · exact rowne1 hS hS.rcell e
    · rw [hpb']
      refine hS.out.mod hm14 ?_
      rintro (e | e | e)
      · exact (offQ hS hms).nout e.1.symm
      · exact (offP hS hms).nout e.symm
      · obtain ⟨c2, q2⟩ := Sl1.cells hS.out
        exact rowne1 hS q2 e
    · show _ = st.vs
      rw [← hS.rel.vs]
      apply List.ext_getElem?
      intro k
      simp only [S']
      rw [List.getElem?_map, List.getElem?_map]
      by_cases e1 : k = s
      · subst e1
        rw [List.getElem?_set_self hsl, hrs]; rfl
      · rw [List.getElem?_set_ne (fun e => e1 e.symm)]
    · intro k r hk q
      show _ ↔ st.mem k q ∨ k = s ∧ q = j
      rcases hget k r hk with ⟨rfl, rfl⟩ | ⟨e1, hk'⟩
      · simp only [List.mem_append, List.mem_singleton, hS.rel.mem k rs hrs, true_and]
      · simp only [hS.rel.mem k r hk', e1, false_and, or_false]
    · exact hS.inv.add (by rw [← hS.len]; exact hsl) hnj hall
    · intro r hr
      obtain ⟨k, hk⟩ := List.getElem?_of_mem hr
      rcases hget k r hk with ⟨_, rfl⟩ | ⟨e1, hk'⟩
      · exact hS.opb rs hms
      · exact hS.opb r (List.mem_of_getElem? hk')
    · intro r hr
      obtain ⟨k, hk⟩ := List.getElem?_of_mem hr
      rcases hget k r hk with ⟨_, rfl⟩ | ⟨e1, hk'⟩
      · show w0.heap.size ≤ nb
        have := hS.ext.size
        rcases hor with ⟨_, rfl⟩ | h'
        · exact hS.oqb rs hms
        · omega
      · exact hS.oqb r (List.mem_of_getElem? hk')
    · rw [hpb']; exact hS.ndp
    · simp only [S']
      rw [List.map_set]
      refine nodup_set hS.ndq fun k hks e => ?_
      have hkl : k < S.length := by
        have := (List.getElem?_eq_some_iff.1 e).1
        rwa [List.length_map] at this
      rw [List.getElem?_map, List.getElem?_eq_getElem hkl, Option.map_some, Option.some.injEq] at e
      rcases hor with ⟨_, h'⟩ | h'
      · exact (hkne k _ hks (List.getElem?_eq_getElem hkl)).1 (by rw [e]; exact h')
      · have := hqbl _ (List.getElem_mem hkl)
        rw [e] at this
        have e2 : ({ rs with pv := nv, set := rs.set ++ [j], qb := nb } : IV).qb = nb := rfl
        rw [e2] at this
        omega
    · intro k r hk
      rcases hget k r hk with ⟨_, rfl⟩ | ⟨e1, hk'⟩
      · exact .inl (by simp)
      · exact .inr ⟨e1, hk'⟩
    · rcases e with e | e | e
      · exact .inr ⟨rs, hms, .inr e.1⟩
      · exact .inr ⟨rs, hms, .inl e⟩
      · exact .inl e
    · intro r hr
      obtain ⟨k, hk⟩ := List.getElem?_of_mem hr
      rcases hget k r hk with ⟨_, rfl⟩ | ⟨e1, hk'⟩
      · show (∃ r ∈ S, nb = r.qb) ∨ w.heap.size ≤ nb
        rcases hor with ⟨_, rfl⟩ | h'
        · exact .inl ⟨rs, hms, rfl⟩
        · exact .inr h'
      · exact .inl ⟨r, List.mem_of_getElem? hk', rfl⟩
  by_cases h0 : rs.set = []
  · have hpv := hsset.nl h0
    rw [hpv]
    refine spots_appNil ⟨rfl, rfl⟩ hov (by simp) (by simp) fun nv w2 nb hnb he2 hnv => ?_
    refine go nv nb w2 (.inr (by omega)) he2.mod ?_
    rw [h0]; exact hnv
  · have hps := (hsset.mod he01 id).sl h0
    refine spots_app2 ⟨rfl, rfl⟩ hps hov (by rw [List.length_map]; simp; omega) fun nv w2 nb hor hm2 hnv => ?_
    refine go nv nb w2 (hor.elim (fun e => .inl ⟨h0, e⟩) fun h' => .inr (by omega)) (hm2.mono fun k _ e => ⟨e, h0⟩) ?_
    rw [List.map_append]; exact hnv
end
end Go.Proofs.Ytfdmphgbodmkpaa
