/- Contracts of the program's valleys, continued: one valley ends in another; a spot joins. -/
import Derived.Test.YtfdmphgbodmkpaaCVal
set_option linter.unusedVariables false
set_option linter.unusedSimpArgs false
namespace Go.Proofs.Ytfdmphgbodmkpaa
open Go Go.SL Go.RowKit
set_option maxRecDepth 100000

theorem spots_app2 {w : World} {T1 T2 ty : TypeId} {v v2 : Value} {l l2 : List (Int × Int)} {b b2 : Nat} {K : Value → World → Prop} (hT : T1 = ty_Simpl_Spot ∧ T2 = ty_Simpl_Spot) (h : OwnSpots w v l b) (h2 : OwnSpots w v2 l2 b2) (hn : l.length + l2.length ≤ 1000000)
    (hK : ∀ v' w' b', (b' = b ∨ w.heap.size ≤ b') → Mod (· = b) w w' → OwnSpots w' v' (l ++ l2) b' → K v' w') : eff Pg (Builtin.append_ #[T1, T2] ty #[v, v2]) w K := by
  obtain ⟨rfl, rfl⟩ := hT
  obtain ⟨o, c, rfl, hsl⟩ := h
  obtain ⟨o2, c2, rfl, hsl2⟩ := h2
  refine append_i (size := 2) rfl rfl (by decide) (by decide) hsl hsl2 ?_ (by omega) fun b' o' c' w' hor hsl' => ?_
  · intro y hy
    unfold pairCells at hy
    obtain ⟨p, _, hy⟩ := List.mem_flatMap.1 hy
    simp at hy
    rcases hy with rfl | rfl <;> rfl
  · have e : sl b' o' (l.length + l2.length) c' = sl b' o' (l ++ l2).length c' := by rw [List.length_append]
    rw [e]
    refine hK _ w' b' ?_ ?_ ⟨o', c', rfl, ?_⟩
    · rcases hor with ⟨rfl, _⟩ | ⟨h, _⟩
      · exact .inl rfl
      · exact .inr h
    · rcases hor with ⟨_, hm⟩ | ⟨_, he⟩
      · exact hm
      · exact he.mod
    · rw [List.length_append, pairCells_append]; exact hsl'
theorem spots_appNil {w : World} {T1 T2 ty : TypeId} {v2 : Value} {l2 : List (Int × Int)} {b2 : Nat} {K : Value → World → Prop} (hT : T1 = ty_Simpl_Spot ∧ T2 = ty_Simpl_Spot) (h2 : OwnSpots w v2 l2 b2) (h0 : 0 < l2.length) (hn : l2.length ≤ 1000000)
    (hK : ∀ v' w' b', w.heap.size ≤ b' → Ext w w' → OwnSpots w' v' l2 b' → K v' w') : eff Pg (Builtin.append_ #[T1, T2] ty #[.slice none 0 0, v2]) w K := by
  obtain ⟨rfl, rfl⟩ := hT
  obtain ⟨o2, c2, rfl, hsl2⟩ := h2
  refine appendNil_i (size := 2) rfl rfl (by decide) (by decide) hsl2 h0 (by omega) fun b' c' w' hb he hsl' => ?_
  exact hK _ w' b' hb he ⟨0, c', rfl, hsl'⟩
section
variable {w0 w : World} {W H r1 r2 rc outb : Nat} {outv : Value} {S : List IV} {st : VSt}
theorem pix_ty {N : Nat} {r : IV} (h : PixOk w W N r) : ∃ cs, w.heap[r.qb]? = some (row cs ty_impl_Spot) := h.ty

theorem merge1I {s v : Nat} {l : Int} {st' : VSt} {rs rv : IV} {K : World → Prop} (hS : IM w0 w W H r1 r2 rc outb outv S st) (hW : 0 < W) (hN : W * H ≤ 256) (hvs : v ≠ s) (hrv : S[v]? = some rv) (hrs : S[s]? = some rs)
    (hav : ∃ q, st.of q = some v) (has : ∃ q, st.of q = some s) (h1 : ∀ q, st'.of q = if st.of q = some v then some s else st.of q) (h2 : st'.vs = st.vs.modify v (fun e => (e.1, e.2.1, l))) (h3 : ∀ x q, st'.mem x q ↔ st.mem x q ∨ x = s ∧ st.mem v q) (hinv : InvV st')
    (hK : ∀ S' w', IM w0 w' W H r1 r2 rc outb outv S' st' → Mod (fun b => b = r1 ∨ ∃ r ∈ S, b = r.pb ∨ b = r.qb) w w' → S'.map (·.pb) = S.map (·.pb) → (∀ r' ∈ S', (∃ r ∈ S, r'.qb = r.qb) ∨ w.heap.size ≤ r'.qb) → K w') :
  nilS (ptr rv.pb 0) fun t102_63 =>
  pur Pg (Instr.fieldAt ty_impl_valley t102_63 2) fun t103_64 =>
  effU Pg (Instr.storeAt ty_int64 t103_64 (i64 l)) w fun w =>
  drawS w fun w =>
  nilS (ptr rs.pb 0) fun t106_65 =>
  pur Pg (Instr.fieldAt ty_impl_valley t106_65 3) fun t107_66 =>
  rd Pg (Instr.loadAt ty_Simpl_Spot t107_66) w fun t108_67 =>
  nilS (ptr rv.pb 0) fun t110_68 =>
  pur Pg (Instr.fieldAt ty_impl_valley t110_68 3) fun t111_69 =>
  rd Pg (Instr.loadAt ty_Simpl_Spot t111_69) w fun t112_70 =>
  eff Pg (Builtin.append_ #[ty_Simpl_Spot, ty_Simpl_Spot] ty_Simpl_Spot #[t108_67, t112_70]) w fun t113_71 w =>
  nilS (ptr rs.pb 0) fun t114_72 =>
  pur Pg (Instr.fieldAt ty_impl_valley t114_72 3) fun t115_73 =>
  effU Pg (Instr.storeAt ty_Simpl_Spot t115_73 t113_71) w fun w =>
  nilS (ptr rv.pb 0) fun t117_74 =>
  pur Pg (Instr.fieldAt ty_impl_valley t117_74 3) fun t118_75 =>
  rd Pg (Instr.loadAt ty_Simpl_Spot t118_75) w fun t119_76 =>
  rd Pg (Builtin.len_ #[ty_Simpl_Spot] ty_int #[t119_76]) w fun t120_77 =>
  loopS (fun N78 _ s80 w =>
  pur Pg (binOp Go.BinOp.lss ty_int (nth s80 0) t120_77) fun t122_81 =>
  ifB t122_81 (pur Pg (Instr.indexAt ty_Simpl_Spot t119_76 (nth s80 0)) fun t123_82 =>
  rd Pg (Instr.loadAt ty_impl_Spot t123_82) w fun t124_83 =>
  eff Pg (Instr.alloc ty_impl_Spot true (.tuple #[])) w fun t17_84 w =>
  effU Pg (Instr.storeAt ty_impl_Spot t17_84 t124_83) w fun w =>
  rd Pg (Instr.loadAt ty_impl_Spot t17_84) w fun t126_85 =>
  effU Pg (Instr.mapUpdate ty_M_impl_Spot_Pimpl_valley (.map (some r1)) t126_85 (ptr rs.pb 0)) w fun w =>
  pur Pg (binOp Go.BinOp.add ty_int (nth s80 0) (Go.Value.int Go.IntKind.i64 1)) fun t128_86 =>
  N78 [t128_86] w)
  (K w)) [(Go.Value.int Go.IntKind.i64 0)] w := by
  obtain ⟨q1, hq1⟩ := hav
  obtain ⟨q2, hq2⟩ := has
  have hvl : v < S.length := (List.getElem?_eq_some_iff.1 hrv).1
  have hsl : s < S.length := (List.getElem?_eq_some_iff.1 hrs).1
  have hmv : rv ∈ S := List.mem_of_getElem? hrv
  have hms : rs ∈ S := List.mem_of_getElem? hrs
  have hvset := hS.pix _ hmv
  have hsset := hS.pix _ hms
  have hvn := hvset.len
  have hsn := hsset.len
  have hinS : ∀ q, q ∈ rv.set ↔ st.of q = some v := fun q => by
    rw [hS.rel.mem v rv hrv]
    exact ⟨fun h => hS.inv.all q1 v q hq1 h, fun h => hS.inv.mem q v h⟩
  have hinT : ∀ q, q ∈ rs.set ↔ st.of q = some s := fun q => by
    rw [hS.rel.mem s rs hrs]
    exact ⟨fun h => hS.inv.all q2 s q hq2 h, fun h => hS.inv.mem q s h⟩
  have hv0 : rv.set ≠ [] := fun e => by have := (hinS q1).2 hq1; rw [e] at this; cases this
  have hs0 : rs.set ≠ [] := fun e => by have := (hinT q2).2 hq2; rw [e] at this; cases this
  have hpne : rs.pb ≠ rv.pb := fun e => hvs (pb_inj hS.ndp hrv hrs e.symm)
  have hqne : rs.qb ≠ rv.qb := fun e => hvs (qb_inj hS.ndq hrv hrs e.symm)
  -- blocks of pixels and blocks of valleys are different
  have hpq : ∀ r ∈ S, ∀ r' ∈ S, r.pb ≠ r'.qb := fun r hr r' hr' => by
    obtain ⟨cs, q⟩ := pix_ty (hS.pix _ hr')
    exact at_ne (hS.cell _ hr) q (by decide)
  have offp : ∀ r ∈ S, Off w r1 r2 rc outb S r.pb := fun r hr => hS.off (hS.cell _ hr) (by decide) (by decide)
  have offq : ∀ r ∈ S, Off w r1 r2 rc outb S r.qb := fun r hr => by
    obtain ⟨cs, q⟩ := pix_ty (hS.pix _ hr)
    exact hS.off q (by decide) (by decide)
  refine cell_set (r' := { rv with d := l }) (hS.cell _ hmv) (by decide) (by kernel_rfl) rfl rfl rfl fun w1 hm1 hc1 => ?_
  refine drawS_i ?_
  have hd := (Same.drew w1).ext
  have hm2 : Mod (· = rv.pb) w w1.drew := hm1.trans hd.mod
  have hc2 : cellV { rv with d := l } w1.drew := hd.at_ hc1
  generalize w1.drew = w2 at hm2 hc2
  clear hc1 hm1 hd
  have hcs2 : cellV rs w2 := hm2.at_ (hS.cell _ hms) hpne
  have hps2 := hsset.mod hm2 (fun e => hpq _ hmv _ hms e.symm)
  have hpv2 := hvset.mod hm2 (fun e => hpq _ hmv _ hmv e.symm)
  refine cell_get (f := 3) hcs2 (by decide) (by kernel_rfl) rfl ?_
  refine cell_get (f := 3) (r := { rv with d := l }) hc2 (by decide) (by kernel_rfl) rfl ?_
  refine spots_app2 ⟨rfl, rfl⟩ (hps2.sl hs0) (hpv2.sl hv0) (by rw [List.length_map, List.length_map]; omega) fun nv w3 nb hor hm3 hnv => ?_
  have z2 := hm2.size
  have hqbl : ∀ r ∈ S, r.qb < w.heap.size := fun r hr => (hS.pix _ hr).blk
  have hpbl : ∀ r ∈ S, r.pb < w.heap.size := fun r hr => lt_of_at (hS.cell _ hr)
  have hnv1 : SL.one nv = true := by obtain ⟨o, c, rfl, _⟩ := hnv; rfl
  have hcs3 : cellV rs w3 := hm3.at_ hcs2 (hpq _ hms _ hms)
  have hcv3 : cellV { rv with d := l } w3 := hm3.at_ hc2 (hpq _ hmv _ hms)
  refine cell_set (r' := { rs with pv := nv, set := rs.set ++ rv.set, qb := nb }) hcs3 (by decide) (by kernel_rfl) hnv1 rfl rfl fun w4 hm4 hc4 => ?_
  have hcv4 : cellV { rv with d := l } w4 := hm4.at_ hcv3 (fun e => hpne e.symm)
  have hnp : ∀ r ∈ S, nb ≠ r.pb := fun r hr e => by
    rcases hor with e' | h'
    · exact hpq r hr rs hms (by rw [← e, e'])
    · have := hpbl r hr; omega
  have hnv4 : OwnSpots w4 nv ((rs.set ++ rv.set).map (sp W)) nb := by rw [List.map_append]; exact hnv.mod hm4 (hnp rs hms)
  have hpv4 := (hpv2.mod hm3 (fun e => hqne e.symm)).mod hm4 (fun e => hpq rs hms rv hmv e.symm)
  refine cell_get (f := 3) (r := { rv with d := l }) hcv4 (by decide) (by kernel_rfl) rfl ?_
  refine spots_len_i rfl (hpv4.sl hv0) ?_
  rw [List.length_map]
  -- what has turned so far
  have hm24 : Mod (fun b => b = rv.pb ∨ b = rs.qb ∨ b = rs.pb) w w4 := ((hm2.mono fun k _ e => .inl e).trans (hm3.mono fun k _ e => .inr (.inl e))).trans (hm4.mono fun k _ e => .inr (.inr e))
  let S' : List IV := (S.set v { rv with d := l }).set s { rs with pv := nv, set := rs.set ++ rv.set, qb := nb }
  have hget : ∀ (k : Nat) (r : IV), S'[k]? = some r → (k = s ∧ r = { rs with pv := nv, set := rs.set ++ rv.set, qb := nb }) ∨ (k ≠ s ∧ k = v ∧ r = { rv with d := l }) ∨ (k ≠ s ∧ k ≠ v ∧ S[k]? = some r) := by
    intro k r hk
    simp only [S'] at hk
    by_cases e1 : k = s
    · subst e1
      rw [List.getElem?_set_self (by rw [List.length_set]; exact hsl), Option.some.injEq] at hk
      exact .inl ⟨rfl, hk.symm⟩
    · rw [List.getElem?_set_ne (fun e => e1 e.symm)] at hk
      by_cases e2 : k = v
      · subst e2
        rw [List.getElem?_set_self hvl, Option.some.injEq] at hk
        exact .inr (.inl ⟨e1, rfl, hk.symm⟩)
      · rw [List.getElem?_set_ne (fun e => e2 e.symm)] at hk
        exact .inr (.inr ⟨e1, e2, hk⟩)
  have hpb' : S'.map (·.pb) = S.map (·.pb) := by
    simp only [S']
    rw [List.map_set, List.map_set]
    apply List.ext_getElem?
    intro k
    rw [List.getElem?_set]
    split
    · rename_i e; subst e
      rw [if_pos (by rw [List.length_set, List.length_map]; exact hsl), List.getElem?_map, hrs]; rfl
    · rw [List.getElem?_set]
      split
      · rename_i e; subst e
        rw [if_pos (by rw [List.length_map]; exact hvl), List.getElem?_map, hrv]; rfl
      · rfl
  have hptr : ∀ o, ptrOf S' o = ptrOf S o := fun o => by
    unfold ptrOf
    cases o with
    | none => rfl
    | some k =>
      simp only
      have e := congrArg (fun (l : List Nat) => l[k]?) hpb'
      simp only [List.getElem?_map] at e
      cases e1 : S'[k]? <;> cases e2 : S[k]? <;> rw [e1, e2] at e <;> simp at e ⊢
      exact e
  have hof4 : OfM w4 W H r1 S st.of := hS.of.mod hm24 (by
    rintro (e | e | e)
    · exact (offp _ hmv).n1 e.symm
    · exact (offq _ hms).n1 e.symm
    · exact (offp _ hms).n1 e.symm)
  refine loopS_i (fun s' w' => ∃ j : Nat, s' = [i64 j] ∧ j ≤ rv.set.length ∧ Mod (· = r1) w4 w' ∧ OfM w' W H r1 S (fun q => if q ∈ rv.set.take j then some s else st.of q)) (fun s' _ => rv.set.length - (intOf (nth s' 0)).toNat)
    ⟨0, rfl, by omega, Mod.refl _, by simpa using hof4⟩ ?_
  have r1pix : ∀ r ∈ S, r.qb ≠ r1 := fun r hr => (offq r hr).n1
  rintro g s' w5 ⟨j, rfl, hj, hm5, hof5⟩
  rw [nth0]
  refine lss_i (ifB_i (fun hlt => ?_) (fun hlt => ?_))
  · have hjl : j < rv.set.length := by omega
    have hqN := hvset.lt _ (List.getElem_mem hjl)
    have hpv5 := hpv4.mod hm5 (r1pix _ hmv)
    refine spotV_i ⟨rfl, rfl⟩ (hpv5.sl hv0) (by omega) (p := sp W rv.set[j]) (by rw [Int.toNat_natCast, List.getElem?_map, List.getElem?_eq_getElem hjl]; rfl) ?_
    refine varS_i (p := sp W rv.set[j]) rfl fun vb w6 h6 => ?_
    refine ldS_i rfl h6.at_ ?_
    refine of_put (hof5.mod h6.ext id) hW hqN hrs fun w7 hm7 hof7 => ?_
    refine add_i (.of (by omega) (by omega)) ?_
    refine ⟨⟨j + 1, by simp, by omega, (hm5.trans h6.ext.mod).trans hm7, ?_⟩, by simp only [nth0, intOf]; omega⟩
    have : (fun q => if q ∈ rv.set.take (j + 1) then some s else st.of q) = (fun x => if x = rv.set[j] then some s else if x ∈ rv.set.take j then some s else st.of x) := by
      funext q
      rw [List.take_succ_eq_append_getElem hjl]
      simp only [List.mem_append, List.mem_singleton]
      by_cases e : q = rv.set[j]
      · rw [if_pos e, if_pos (.inr e)]
      · rw [if_neg e]; simp [e]
    rw [this]; exact hof7
  · have : j = rv.set.length := by omega
    subst this
    rw [List.take_length] at hof5
    have hm45 : Mod (fun b => b = rv.pb ∨ b = rs.qb ∨ b = rs.pb ∨ b = r1) w w5 := (hm24.mono (T := fun b => b = rv.pb ∨ b = rs.qb ∨ b = rs.pb ∨ b = r1) fun k _ e => e.elim .inl fun e => .inr (e.elim .inl fun e => .inr (.inl e))).trans (hm5.mono fun k _ e => .inr (.inr (.inr e)))
    have hkne : ∀ (k : Nat) (r : IV), k ≠ s → S[k]? = some r → r.qb ≠ rs.qb ∧ r.pb ≠ rs.pb := fun k r hks hk => ⟨fun e => hks (qb_inj hS.ndq hk hrs e), fun e => hks (pb_inj hS.ndp hk hrs e)⟩
    have z4 := hm24.size
    have r1pb : ∀ r ∈ S, r.pb ≠ r1 := fun r hr => (offp r hr).n1
    refine hK S' w5 ⟨?_, ?_, ?_, ?_, ?_, ?_, ?_, ⟨?_, ?_⟩, hinv, hS.o1, hS.o2, hS.orc, hS.oout, ?_, ?_, hS.r12, ?_, ?_⟩ ?_ hpb' ?_
    · refine hS.ext.comp hm45 (fun _ _ h => h) fun i hi e => ?_
      have k1 := hS.opb _ hmv; have k2 := hS.oqb _ hms; have k3 := hS.opb _ hms; have k4 := hS.o1
      omega
    · intro r hr
      obtain ⟨k, hk⟩ := List.getElem?_of_mem hr
      rcases hget k r hk with ⟨_, rfl⟩ | ⟨_, _, rfl⟩ | ⟨e1, e2, hk'⟩
      · exact hm5.at_ hc4 (r1pb rs hms)
      · exact hm5.at_ hcv4 (r1pb rv hmv)
      · have hr' := List.mem_of_getElem? hk'
        refine hm45.at_ (hS.cell _ hr') ?_
        rintro (e | e | e | e)
        · exact e2 (pb_inj hS.ndp hk' hrv e)
        · exact hpq r hr' rs hms e
        · exact (hkne k r e1 hk').2 e
        · exact r1pb r hr' e
    · intro r hr
      obtain ⟨k, hk⟩ := List.getElem?_of_mem hr
      rcases hget k r hk with ⟨_, rfl⟩ | ⟨_, _, rfl⟩ | ⟨e1, e2, hk'⟩
      · have hnr : nb ≠ r1 := by
          rcases hor with rfl | h'
          · exact r1pix _ hms
          · obtain ⟨m, hm, _⟩ := hS.of
            have := hm.lt
            omega
        have hnv5 := hnv4.mod hm5 hnr
        refine ⟨hnv5.row, fun _ => hnv5, fun e => absurd (List.append_eq_nil_iff.1 e).1 hs0, ?_, fun q hq => ?_⟩
        · show (rs.set ++ rv.set).Nodup
          rw [List.nodup_append]
          refine ⟨hsset.nd, hvset.nd, fun a ha b hb e => ?_⟩
          subst e
          have := (hinS a).1 hb
          rw [(hinT a).1 ha, Option.some.injEq] at this
          exact hvs this.symm
        · rcases List.mem_append.1 hq with hq | hq
          · exact hsset.lt q hq
          · exact hvset.lt q hq
      · have := hpv4.mod hm5 (r1pix _ hmv)
        exact ⟨this.ty, this.sl, this.nl, this.nd, this.lt⟩
      · have hr' := List.mem_of_getElem? hk'
        refine (hS.pix _ hr').mod hm45 ?_
        rintro (e | e | e | e)
        · exact hpq rv hmv r hr' e.symm
        · exact (hkne k r e1 hk').1 e
        · exact hpq rs hms r hr' e.symm
        · exact r1pix r hr' e
    · obtain ⟨m, hm, k1, k2⟩ := hof5
      refine ⟨m, hm, fun q hq => ?_, k2⟩
      rw [k1 q hq, hptr, h1]
      by_cases e : q ∈ rv.set
      · rw [if_pos e, if_pos ((hinS q).1 e)]
      · rw [if_neg e, if_neg (fun k => e ((hinS q).2 k))]
    · have : ranks S' = ranks S := by
        unfold ranks
        apply List.ext_getElem?
        intro k
        rw [List.getElem?_mapIdx, List.getElem?_mapIdx]
        have e := congrArg (fun (l : List Nat) => l[k]?) hpb'
        simp only [List.getElem?_map] at e
        rcases e1 : S'[k]? with _ | x <;> rcases e2 : S[k]? with _ | y <;> rw [e1, e2] at e
        · cases e
        · cases e
        · simp only [Option.map_some, Option.some.injEq] at e ⊢
          rw [e]
      rw [this]
      refine hS.rank.mod hm45 ?_
      rintro (e | e | e | e)
      · exact (offp _ hmv).n2 e.symm
      · exact (offq _ hms).n2 e.symm
      · exact (offp _ hms).n2 e.symm
      · exact hS.r12 e.symm
    · refine hm45.at_ hS.rcell ?_
      rintro (e | e | e | e)
      · exact (offp _ hmv).nc e.symm
      · exact (offq _ hms).nc e.symm
      · exact (offp _ hms).nc e.symm
      · obtain ⟨m, hm, _⟩ := hS.of
        exact row_ne_map hS.rcell hm e
    · rw [hpb']
      refine hS.out.mod hm45 ?_
      rintro (e | e | e | e)
      · exact (offp _ hmv).nout e.symm
      · exact (offq _ hms).nout e.symm
      · exact (offp _ hms).nout e.symm
      · obtain ⟨m, hm, _⟩ := hS.of
        obtain ⟨c2, q2⟩ := Sl1.cells hS.out
        exact row_ne_map q2 hm e
    · rw [h2, ← hS.rel.vs]
      apply List.ext_getElem?
      intro k
      simp only [S']
      rw [List.getElem?_modify, List.getElem?_map, List.getElem?_map]
      by_cases e1 : k = s
      · subst e1
        rw [List.getElem?_set_self (by rw [List.length_set]; exact hsl), hrs]
        simp [hvs]
      · rw [List.getElem?_set_ne (fun e => e1 e.symm)]
        by_cases e2 : k = v
        · subst e2
          rw [List.getElem?_set_self hvl, hrv]
          simp
        · have e2' : v ≠ k := fun e => e2 e.symm
          rw [List.getElem?_set_ne e2']
          cases S[k]? <;> simp [e2']
    · intro k r hk q
      rw [h3]
      rcases hget k r hk with ⟨rfl, rfl⟩ | ⟨e1, rfl, rfl⟩ | ⟨e1, e2, hk'⟩
      · simp only [List.mem_append, hS.rel.mem k rs hrs, hS.rel.mem v rv hrv, true_and]
      · simp only [hS.rel.mem k rv hrv, e1, false_and, or_false]
      · simp only [hS.rel.mem k r hk', e1, false_and, or_false]
    · intro r hr
      obtain ⟨k, hk⟩ := List.getElem?_of_mem hr
      rcases hget k r hk with ⟨_, rfl⟩ | ⟨_, _, rfl⟩ | ⟨e1, e2, hk'⟩
      · exact hS.opb rs hms
      · exact hS.opb rv hmv
      · exact hS.opb r (List.mem_of_getElem? hk')
    · intro r hr
      obtain ⟨k, hk⟩ := List.getElem?_of_mem hr
      rcases hget k r hk with ⟨_, rfl⟩ | ⟨_, _, rfl⟩ | ⟨e1, e2, hk'⟩
      · show w0.heap.size ≤ nb
        have := hS.ext.size
        rcases hor with rfl | h'
        · exact hS.oqb rs hms
        · omega
      · exact hS.oqb rv hmv
      · exact hS.oqb r (List.mem_of_getElem? hk')
    · rw [hpb']; exact hS.ndp
    · simp only [S']
      rw [List.map_set, List.map_set]
      have e1 : (S.map (·.qb)).set v rv.qb = S.map (·.qb) := by
        apply List.ext_getElem?
        intro k
        rw [List.getElem?_set]
        split
        · rename_i e; subst e
          rw [if_pos (by rw [List.length_map]; exact hvl), List.getElem?_map, hrv]; rfl
        · rfl
      simp only
      rw [e1]
      refine nodup_set hS.ndq fun k hks e => ?_
      have hkl : k < S.length := by
        have := (List.getElem?_eq_some_iff.1 e).1
        rwa [List.length_map] at this
      rw [List.getElem?_map, List.getElem?_eq_getElem hkl, Option.map_some, Option.some.injEq] at e
      rcases hor with h' | h'
      · exact (hkne k _ hks (List.getElem?_eq_getElem hkl)).1 (by rw [e]; exact h')
      · have := hqbl _ (List.getElem_mem hkl); omega
    · refine hm45.mono fun k _ e => ?_
      rcases e with e | e | e | e
      · exact .inr ⟨rv, hmv, .inl e⟩
      · exact .inr ⟨rs, hms, .inr e⟩
      · exact .inr ⟨rs, hms, .inl e⟩
      · exact .inl e
    · intro r hr
      obtain ⟨k, hk⟩ := List.getElem?_of_mem hr
      rcases hget k r hk with ⟨_, rfl⟩ | ⟨_, _, rfl⟩ | ⟨e1, e2, hk'⟩
      · show (∃ r ∈ S, nb = r.qb) ∨ w.heap.size ≤ nb
        rcases hor with rfl | h'
        · exact .inl ⟨rs, hms, rfl⟩
        · exact .inr (by omega)
      · exact .inl ⟨rv, hmv, rfl⟩
      · exact .inl ⟨r, List.mem_of_getElem? hk', rfl⟩
end
end Go.Proofs.Ytfdmphgbodmkpaa
