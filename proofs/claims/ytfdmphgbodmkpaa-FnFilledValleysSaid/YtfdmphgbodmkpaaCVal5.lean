/- Contracts of the program's valleys, continued: the valleys beside a pixel; a birth. -/
import Derived.Test.YtfdmphgbodmkpaaCVal4
set_option linter.unusedVariables false
set_option linter.unusedSimpArgs false
namespace Go.Proofs.Ytfdmphgbodmkpaa
open Go Go.SL Go.RowKit
set_option maxRecDepth 100000

section
variable {w0 w : World} {W H r1 r2 rc outb : Nat} {outv : Value} {S : List IV} {st : VSt}

theorem at_sp {p : Nat} {num : Nat → Int} {b0 j : Nat} {rb : Nat → Nat} {K : Value → World → Prop} (h : GP w p W H num b0 rb) (hj : j < W * H) (hK : ∀ w', Ext w w' → K (i64 (num j)) w') : callS Pg n_Grey_at #[ptr p 0, pairV (sp W j)] w K := by
  have hW : 0 < W := h.w1
  have hgj : j / W * W + j % W = j := by rw [Nat.mul_comm]; exact Nat.div_add_mod j W
  refine at_c (x := j % W) (y := j / W) h (Nat.mod_lt j hW) (Nat.div_lt_of_lt_mul hj) fun w' he => ?_
  rw [hgj]; exact hK w' he
theorem place_sp {p : Nat} {num : Nat → Int} {b0 j : Nat} {rb : Nat → Nat} {K : Value → World → Prop} (h : GP w p W H num b0 rb) (hj : j < W * H) (hK : ∀ w', Ext w w' → K (i64 (j : Int)) w') : callS Pg n_Grey_place #[ptr p 0, pairV (sp W j)] w K := by
  have hW : 0 < W := h.w1
  have hgj : j / W * W + j % W = j := by rw [Nat.mul_comm]; exact Nat.div_add_mod j W
  refine place_c (x := j % W) (y := j / W) h (Nat.mod_lt j hW) (Nat.div_lt_of_lt_mul hj) fun w' he => ?_
  rw [hgj]; exact hK w' he
def nK (W H j k : Nat) : List Nat := (((nbrs false (sp W j)).take k).filter (inB W H)).map (idx2 W)
theorem nK_all (W H j : Nat) : nK W H j (nbrs false (sp W j)).length = near W H j := by unfold nK near; rw [List.take_length]
def pbAt (S : List IV) (v : Nat) : Nat := (S.map (·.pb)).getD v 0
theorem pbAt_of {v : Nat} {r : IV} (h : S[v]? = some r) : pbAt S v = r.pb := by
  unfold pbAt
  rw [List.getD_eq_getElem?_getD, List.getElem?_map, h]; rfl

theorem nearI {j ab nb0 : Nat} {av nv0 : Value} {K : List Value → World → Prop} (hS : IM w0 w W H r1 r2 rc outb outv S st) (hSl : S.length ≤ 100000) (hav : OwnSpots w av (nbrs false (sp W j)) ab) (hnv : PtrSl w nv0 [] nb0) (hnb : w0.heap.size ≤ nb0) (hnbo : nb0 ≠ outb)
    (hK : ∀ (nv : Value) (nb : Nat) (R : List Nat) w', Mod (· = nb0) w w' → IM w0 w' W H r1 r2 rc outb outv S st → w0.heap.size ≤ nb → nb ≠ outb → PtrSl w' nv (R.map (pbAt S)) nb → (nb = nb0 ∨ w.heap.size ≤ nb) → R.Nodup → R.length ≤ 8 → (∀ v, v ∈ R ↔ v ∈ roots st (near W H j)) → (∀ v ∈ R, v < S.length) → ∀ k : Value, K [nv, k] w') :
  rd Pg (Builtin.len_ #[ty_Simpl_Spot] ty_int #[av]) w fun t38_23 =>
  loopS (fun N24 _ s26 w =>
  pur Pg (binOp Go.BinOp.lss ty_int (nth s26 1) t38_23) fun t40_27 =>
  ifB t40_27 (joinS (fun _ s29 w =>
  pur Pg (binOp Go.BinOp.add ty_int (nth s26 1) (Go.Value.int Go.IntKind.i64 1)) fun t58_31 =>
  N24 [(nth s29 0), t58_31] w) fun J30 =>
  pur Pg (Instr.indexAt ty_Simpl_Spot av (nth s26 1)) fun t41_32 =>
  rd Pg (Instr.loadAt ty_impl_Spot t41_32) w fun t42_33 =>
  eff Pg (Instr.alloc ty_impl_Spot true (.tuple #[])) w fun t11_34 w =>
  effU Pg (Instr.storeAt ty_impl_Spot t11_34 t42_33) w fun w =>
  rd Pg (Instr.loadAt ty_impl_Spot t11_34) w fun t44_35 =>
  rd Pg (Instr.lookup ty_M_impl_Spot_Pimpl_valley (.map (some r1)) t44_35 Bool.false) w fun t45_36 =>
  rd Pg (binSem Go.BinOp.neq ty_Pimpl_valley (Go.Operand.tmp 46) (Go.Operand.const (Go.Value.pointer Option.none)) t45_36 (Go.Value.pointer Option.none)) w fun t47_37 =>
  joinS (fun _ s39 w =>
  pickS t47_37 (nth s39 0) (Go.Value.bool Bool.false) fun t53_41 =>
  ifB t53_41 (eff Pg (Instr.buildSlice ty_SPimpl_valley 1 #[(0, t45_36)]) w fun t56_42 w =>
  eff Pg (Builtin.append_ #[ty_SPimpl_valley, ty_SPimpl_valley] ty_SPimpl_valley #[(nth s26 0), t56_42]) w fun t57_43 w =>
  J30 [t57_43] w)
  (J30 [(nth s26 0)] w)) fun J40 =>
  ifG t47_37 true (callS Pg n_slices_Contains_impl_valley_impl_valley #[(nth s26 0), t45_36] w fun t51_44 w =>
  pur Pg (Op.unary Go.UnOp.not t51_44) fun t52_45 =>
  J40 [t52_45] w)
  (J40 [undef] w))
  (K s26 w)) [nv0, (Go.Value.int Go.IntKind.i64 0)] w := by
  refine spots_len_i rfl hav ?_
  have hlen := nbrs_le false (sp W j)
  have habl := hav.lt
  obtain ⟨ca, hca⟩ := hav.row
  obtain ⟨cn, hcn⟩ := Sl1.cells hnv
  have hz0 := hnv.lt
  refine loopS_i (fun s w' => ∃ (nv : Value) (nb : Nat) (R : List Nat) (k : Nat), s = [nv, i64 k] ∧ k ≤ (nbrs false (sp W j)).length ∧ Mod (· = nb0) w w' ∧ IM w0 w' W H r1 r2 rc outb outv S st ∧ OwnSpots w' av (nbrs false (sp W j)) ab ∧ w0.heap.size ≤ nb ∧ nb ≠ outb ∧ PtrSl w' nv (R.map (pbAt S)) nb ∧ (nb = nb0 ∨ w.heap.size ≤ nb) ∧ R.Nodup ∧ R.length ≤ k ∧ (∀ v, v ∈ R ↔ v ∈ roots st (nK W H j k)) ∧ (∀ v ∈ R, v < S.length)) (fun s _ => (nbrs false (sp W j)).length - (intOf (nth s 1)).toNat)
    ⟨nv0, nb0, [], 0, rfl, by omega, Mod.refl _, hS, hav, hnb, hnbo, hnv, .inl rfl, List.nodup_nil, by simp, by simp [nK, roots], by simp⟩ ?_
  clear hav hnv
  rintro g s w1 ⟨nv, nb, R, k, rfl, hk, hm1, hS1, hav1, hnb1, hnbo1, hnv1, hor1, hRn, hRl, hRm, hRS⟩
  rw [nth0, nth1]
  refine lss_i (ifB_i (fun hlt => ?_) (fun hlt => ?_))
  · have hkl : k < (nbrs false (sp W j)).length := by omega
    have hgk : (nbrs false (sp W j))[((k : Nat) : Int).toNat]? = some (nbrs false (sp W j))[k] := by rw [Int.toNat_natCast, List.getElem?_eq_getElem hkl]
    have htk : (nbrs false (sp W j)).take (k + 1) = (nbrs false (sp W j)).take k ++ [(nbrs false (sp W j))[k]] := List.take_succ_eq_append_getElem hkl
    generalize (nbrs false (sp W j))[k] = q at hgk htk
    have hnK : nK W H j (k + 1) = nK W H j k ++ if inB W H q then [idx2 W q] else [] := by
      unfold nK
      rw [htk, List.filter_append, List.map_append]
      congr 1
      by_cases hb : inB W H q = true
      · rw [List.filter_cons_of_pos hb, if_pos hb]; rfl
      · rw [List.filter_cons_of_neg hb, if_neg hb]; rfl
    refine joinS_k fun J hJ => ?_
    have fin : ∀ (nv' : Value) (nb' : Nat) (R' : List Nat) w', Mod (· = nb0) w w' → IM w0 w' W H r1 r2 rc outb outv S st → OwnSpots w' av (nbrs false (sp W j)) ab → w0.heap.size ≤ nb' → nb' ≠ outb → PtrSl w' nv' (R'.map (pbAt S)) nb' → (nb' = nb0 ∨ w.heap.size ≤ nb') → R'.Nodup → R'.length ≤ k + 1 → (∀ v, v ∈ R' ↔ v ∈ roots st (nK W H j (k + 1))) → (∀ v ∈ R', v < S.length) → J [nv'] w' := by
      intro nv' nb' R' w' a1 a2 a3 a4 a5 a6 a7 a8 a9 a10 a11
      refine hJ _ _ fun _ => ?_
      refine add_i (.of (by omega) (by omega)) ?_
      rw [nth0]
      exact ⟨⟨nv', nb', R', k + 1, by simp, by omega, a1, a2, a3, a4, a5, a6, a7, a8, a9, a10, a11⟩, by simp only [nth1, intOf]; omega⟩
    clear hJ
    refine spotV_i ⟨rfl, rfl⟩ hav1 (by omega) hgk ?_
    refine varS_i (p := q) rfl fun vb w2 h2 => ?_
    have hS2 := hS1.step h2.ext
    have hav2 := hav1.ext h2.ext
    have hnv2 := hnv1.ext h2.ext
    have hm2 := hm1.trans h2.ext.mod
    refine ldS_i rfl h2.at_ ?_
    clear h2 hS1 hav1 hnv1 hm1
    obtain ⟨m, hmap, hin, hout⟩ := hS2.of
    refine look_i (T := ty_impl_Spot) (z := .pointer none) (by kernel_rfl) spotKey hmap q ?_
    have same : (∀ v, v ∈ roots st (nK W H j (k + 1)) ↔ v ∈ roots st (nK W H j k) ∨ (v ∈ R)) → J [nv] w2 := fun h => fin nv nb R w2 hm2 hS2 hav2 hnb1 hnbo1 hnv2 hor1 hRn (by omega) (fun v => by rw [h, ← hRm]; simp) hRS
    have skip : lookD q m (.pointer none) = .pointer none → (∀ v, v ∈ roots st (nK W H j (k + 1)) ↔ v ∈ roots st (nK W H j k)) → rd Pg (binSem Go.BinOp.neq ty_Pimpl_valley (Go.Operand.tmp 46) (Go.Operand.const (Go.Value.pointer Option.none)) (lookD q m (.pointer none)) (Go.Value.pointer Option.none)) w2 fun t47_37 =>
        joinS (fun _ s39 w =>
        pickS t47_37 (nth s39 0) (Go.Value.bool Bool.false) fun t53_41 =>
        ifB t53_41 (eff Pg (Instr.buildSlice ty_SPimpl_valley 1 #[(0, lookD q m (.pointer none))]) w fun t56_42 w =>
        eff Pg (Builtin.append_ #[ty_SPimpl_valley, ty_SPimpl_valley] ty_SPimpl_valley #[nv, t56_42]) w fun t57_43 w =>
        J [t57_43] w)
        (J [nv] w)) fun J40 =>
        ifG t47_37 true (callS Pg n_slices_Contains_impl_valley_impl_valley #[nv, lookD q m (.pointer none)] w2 fun t51_44 w =>
        pur Pg (Op.unary Go.UnOp.not t51_44) fun t52_45 =>
        J40 [t52_45] w)
        (J40 [undef] w2) := by
      intro e h
      rw [e]
      refine neqNil_i (by kernel_rfl) ?_
      rw [joinS_eq]
      show ifG (.bool false) true _ _
      rw [ifG_eq_t, if_neg (by simp)]
      intro g3
      show pickS (.bool false) _ _ _
      rw [pickS_eq, cond_false, ifB_eq, if_neg (by simp)]
      exact same fun v => by rw [h, hRm]; simp
    by_cases hb : inB W H q = true
    · rw [hb, if_pos rfl] at hnK
      have hql := idx2_lt hb
      have hlook := hin _ hql
      rw [sp_idx2 hb] at hlook
      rcases hof : st.of (idx2 W q) with _ | v
      · rw [hof] at hlook
        refine skip hlook fun v => ?_
        rw [hnK, roots_snoc, hof]; simp
      · have hvl := hS2.lt hof
        have hgv := List.getElem?_eq_getElem hvl
        rw [hof] at hlook
        have e1 : ptrOf S (some v) = ptr S[v].pb 0 := by simp [ptrOf, hgv]
        have hpbv := pbAt_of hgv
        rw [e1] at hlook
        have hmv : S[v] ∈ S := List.getElem_mem hvl
        generalize S[v] = rv at hgv hmv hpbv hlook
        have hroot : ∀ u, u ∈ roots st (nK W H j (k + 1)) ↔ u ∈ roots st (nK W H j k) ∨ u = v := fun u => by
          rw [hnK, roots_snoc, hof]; simp
        rw [hlook]
        refine neqNil_i (by kernel_rfl) ?_
        rw [joinS_eq]
        show ifG (.bool true) true _ _
        rw [ifG_eq_t, if_pos rfl]
        have hpl : ∀ x ∈ R.map (pbAt S), Plain w2 x := fun x hx => by
          obtain ⟨u, hu, rfl⟩ := List.mem_map.1 hx
          have hul := hRS u hu
          rw [pbAt_of (List.getElem?_eq_getElem hul)]
          exact hS2.plain (List.getElem_mem hul)
        refine containsP_c hnv2 hpl (hS2.plain hmv) (by rw [List.length_map]; omega) ?_
        refine not_i ?_
        intro g3
        show pickS (.bool true) _ _ _
        rw [pickS_eq, cond_true, nth0]
        have hmemiff : rv.pb ∈ R.map (pbAt S) ↔ v ∈ R := by
          constructor
          · intro h
            obtain ⟨u, hu, e⟩ := List.mem_map.1 h
            have hul := hRS u hu
            rw [pbAt_of (List.getElem?_eq_getElem hul)] at e
            have := pb_inj hS2.ndp (List.getElem?_eq_getElem hul) hgv e
            rw [← this]; exact hu
          · intro h; exact List.mem_map.2 ⟨v, h, hpbv⟩
        refine ifB_b (fun hc => ?_) (fun hc => ?_)
        · have hnot : v ∉ R := fun h => by rw [decide_eq_true (hmemiff.2 h)] at hc; cases hc
          refine sl1_app (E := ty_Pimpl_valley) (x := ptr rv.pb 0) (by kernel_rfl) rfl hnv2 (by rw [List.length_map, List.length_map]; omega) fun nv' w3 nb' hor3 hm3 hnv3 => ?_
          have z2 := hm2.size
          have hnvl := Sl1.lt hnv2
          have nne : ∀ {b T : Nat} {cs : Array Value}, w2.heap[b]? = some (row cs T) → T ≠ ty_Pimpl_valley → b ≠ nb := fun h hT => by
            obtain ⟨c', q'⟩ := Sl1.cells hnv2
            exact at_ne h q' hT
          obtain ⟨cb, hcb⟩ := Sl1.cells hnv2
          have houtl := Sl1.lt hS2.out
          have hz := hS2.ext.size
          have hS3 : IM w0 w3 W H r1 r2 rc outb outv S st := { hS2 with
            ext := hS2.ext.own hm3 hnb1
            cell := fun r hr => hm3.at_ (hS2.cell _ hr) (nne (hS2.cell _ hr) (by decide))
            pix := fun r hr => (hS2.pix _ hr).mod hm3 (by obtain ⟨cs, q⟩ := (hS2.pix _ hr).ty; exact nne q (by decide))
            of := hS2.of.mod hm3 fun e => rowne1 hS2 hcb e.symm
            rank := hS2.rank.mod hm3 fun e => row_ne_pk hcb hS2.rank e.symm
            rcell := hm3.at_ hS2.rcell (nne hS2.rcell (by decide))
            out := hS2.out.mod hm3 fun e => hnbo1 e.symm }
          refine fin nv' nb' (R ++ [v]) w3 ?_ hS3 (hav2.mod hm3 ?_) ?_ ?_ ?_ ?_ ?_ ?_ ?_ ?_
          · refine hm2.comp hm3 (fun _ _ h => h) fun i hi e => ?_
            rcases hor1 with h | h <;> omega
          · obtain ⟨ca', hca'⟩ := hav2.row
            exact nne hca' (by decide)
          · rcases hor3 with rfl | h <;> omega
          · rcases hor3 with rfl | h
            · exact hnbo1
            · omega
          · show Sl1 w3 ty_Pimpl_valley nv' (((R ++ [v]).map (pbAt S)).map pk) nb'
            rw [List.map_append, List.map_append, List.map_singleton, List.map_singleton, hpbv]
            exact hnv3
          · rcases hor3 with rfl | h
            · exact hor1
            · exact .inr (by omega)
          · rw [List.nodup_append]
            exact ⟨hRn, by simp, fun a ha b hb e => by rw [List.mem_singleton] at hb; subst hb; subst e; exact hnot ha⟩
          · rw [List.length_append, List.length_singleton]; omega
          · intro u
            rw [hroot, ← hRm, List.mem_append, List.mem_singleton]
          · intro u hu
            rcases List.mem_append.1 hu with hu | hu
            · exact hRS u hu
            · rw [List.mem_singleton] at hu; subst hu; exact hvl
        · have hyes : v ∈ R := hmemiff.1 (by
            cases h : decide (rv.pb ∈ R.map (pbAt S)) with
            | true => exact of_decide_eq_true h
            | false => rw [h] at hc; cases hc)
          refine same fun u => ?_
          rw [hroot, ← hRm]
          exact ⟨fun h => h.elim .inl fun e => .inl (by rw [e]; exact hyes), fun h => h.elim .inl .inl⟩
    · have hb' : inB W H q = false := by simpa using hb
      rw [hb', if_neg (by simp), List.append_nil] at hnK
      exact skip (hout q hb') fun v => by rw [hnK]
  · have : k = (nbrs false (sp W j)).length := by omega
    subst this
    exact hK nv nb R w1 hm1 hS1 hnb1 hnbo1 hnv1 hor1 hRn (by omega) (fun v => by rw [hRm, nK_all]) hRS _
end
end Go.Proofs.Ytfdmphgbodmkpaa
