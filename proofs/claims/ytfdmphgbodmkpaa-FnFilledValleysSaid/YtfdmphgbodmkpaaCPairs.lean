/- Contracts of the lists of valleys that last. -/
import Derived.Test.YtfdmphgbodmkpaaCVal7
set_option linter.unusedVariables false
set_option linter.unusedSimpArgs false
namespace Go.Proofs.Ytfdmphgbodmkpaa
open Go Go.SL Go.RowKit
set_option maxRecDepth 100000

/-- The lists of those that last. -/
def lastL (vs : List (Int × Nat × Int)) : List (List Int) := (vs.filter fun e => decide (e.2.2 ≠ e.1)).map fun e => [e.1, (e.2.1 : Int), e.2.2]
theorem lastL_snoc (vs : List (Int × Nat × Int)) (e : Int × Nat × Int) : lastL (vs ++ [e]) = lastL vs ++ if e.2.2 ≠ e.1 then [[e.1, (e.2.1 : Int), e.2.2]] else [] := by
  unfold lastL
  rw [List.filter_append, List.map_append]
  congr 1
  by_cases h : e.2.2 ≠ e.1
  · rw [List.filter_cons_of_pos (by simpa using h), if_pos h]; rfl
  · rw [List.filter_cons_of_neg (by simpa using h), if_neg h]; rfl
theorem lastL_le (vs : List (Int × Nat × Int)) : (lastL vs).length ≤ vs.length := by
  unfold lastL
  rw [List.length_map]
  exact List.length_filter_le _ _
/-- Births and ends rise. -/
theorem vs_ok {num : Nat → Int} {nr : Nat → List Nat} {l : List Nat} (hp : l.Pairwise (ltV num)) (h0 : ∀ x ∈ l, 0 ≤ num x) : ∀ e ∈ (runV num nr l).vs, 0 ≤ e.1 ∧ (e.2.2 = -1 ∨ e.1 ≤ e.2.2) ∧ ∃ p ∈ l, e.1 = num p := by
  have key : ∀ (l pre : List Nat) (st : VSt), (pre ++ l).Pairwise (ltV num) → (∀ x ∈ pre ++ l, 0 ≤ num x) → (∀ e ∈ st.vs, 0 ≤ e.1 ∧ (e.2.2 = -1 ∨ e.1 ≤ e.2.2) ∧ ∃ p ∈ pre, e.1 = num p) → ∀ e ∈ (l.foldl (stepV num nr) st).vs, 0 ≤ e.1 ∧ (e.2.2 = -1 ∨ e.1 ≤ e.2.2) ∧ ∃ p ∈ pre ++ l, e.1 = num p := by
    intro l
    induction l with
    | nil => intro pre st _ _ h; simpa using h
    | cons i l ih =>
      intro pre st hp h0 h
      rw [List.foldl_cons]
      have e1 : pre ++ i :: l = (pre ++ [i]) ++ l := by simp
      rw [e1] at hp h0 ⊢
      refine ih (pre ++ [i]) _ hp h0 ?_
      have hlt : ∀ p ∈ pre, ltV num p i := fun p hpm => by
        rw [List.pairwise_append, List.pairwise_append] at hp
        exact hp.1.2.2 p hpm i (List.mem_singleton_self _)
      have hi0 : 0 ≤ num i := h0 i (by simp)
      intro e he
      have up : ∀ e ∈ st.vs, 0 ≤ e.1 ∧ (e.2.2 = -1 ∨ e.1 ≤ e.2.2) ∧ ∃ p ∈ pre ++ [i], e.1 = num p := fun e he => by
        obtain ⟨a, b, p, hp, c⟩ := h e he
        exact ⟨a, b, p, List.mem_append_left _ hp, c⟩
      unfold stepV at he
      split at he
      · simp only [addV, bornV] at he
        rcases List.mem_append.1 he with he | he
        · exact up e he
        · rw [List.mem_singleton] at he; subst he
          exact ⟨hi0, .inl rfl, i, by simp, rfl⟩
      · simp only [addV, mergeV] at he
        obtain ⟨k, hk, he⟩ := List.mem_mapIdx.1 he
        have hm : st.vs[k] ∈ st.vs := List.getElem_mem hk
        split at he
        · obtain ⟨a, b, p, hp', c⟩ := h _ hm
          subst he
          refine ⟨a, .inr ?_, p, List.mem_append_left _ hp', c⟩
          have := hlt p hp'
          unfold ltV at this
          show st.vs[k].1 ≤ num i
          omega
        · subst he; exact up _ hm
  have := key l [] startV (by simpa using hp) (by simpa using h0) (fun e he => by cases he)
  unfold runV
  simpa using this

theorem Fresh.app {n b0 b' r H N : Nat} {rb : Nat → Nat} (h : Fresh n b0 rb H) (hor : b' = b0 ∨ N ≤ b') (hn : n ≤ N) (hr : n ≤ r) (hne : ∀ y, y < H → rb y ≠ r) : Fresh n b' (upd rb H r) (H + 1) := by
  have hb := h.b
  refine ⟨by rcases hor with rfl | h' <;> omega, fun y hy => ?_, fun y z hy hz => ?_⟩
  · unfold upd; split
    · exact hr
    · exact h.r y (by omega)
  · unfold upd
    split <;> split
    · omega
    · intro e; exact absurd e.symm (hne z (by omega))
    · intro e; exact absurd e (hne y (by omega))
    · exact h.inj y z (by omega) (by omega)

theorem lasting_c {w : World} {W H gp b0 : Nat} {rb : Nat → Nat} {num : Nat → Int} {K : Value → World → Prop} (hg : GP w gp W H num b0 rb) (hn : ∀ i, 0 ≤ num i ∧ num i ≤ 99)
    (hK : ∀ v c rc w', Ext w w' → Fresh w.heap.size c rc (lastL (runV num (near W H) (ordK (W * H) num 100 0)).vs).length → RR w' v (lastL (runV num (near W H) (ordK (W * H) num 100 0)).vs) c rc → K v w') : callS Pg n_Grey_lasting #[ptr gp 0] w K := by
  refine call_Grey_lasting _ _ _ ?_
  unfold S_Grey_lasting
  refine rr_nil rfl fun v0 c0 w1 he1 hc0 hv0 => ?_
  refine valleys_c (hg.ext he1) hn fun outv outb S w2 he2 houtb hout hcell hpix hne hfr hrel hSl => ?_
  have hvs := vs_ok (nr := near W H) (ordK_sorted (W * H) num 100 0) (fun x _ => (hn x).1)
  rw [← hrel.vs] at hvs hK
  have z1 := he1.size; have z2 := he2.size
  have hE2 := he1.trans he2
  have hc0l := (hv0 (fun _ => 0)).lt0
  refine sl1_len (by kernel_rfl) hout ?_
  rw [List.length_map, List.length_map]
  refine loopS_i (fun s w' => ∃ (v : Value) (k c : Nat) (rc : Nat → Nat), s = [v, i64 k] ∧ k ≤ S.length ∧ Ext w w' ∧ Fresh w.heap.size c rc (lastL ((S.take k).map fun r => (r.b, r.p, r.d))).length ∧ RR w' v (lastL ((S.take k).map fun r => (r.b, r.p, r.d))) c rc ∧ PtrSl w' outv (S.map (·.pb)) outb ∧ (∀ r ∈ S, cellV r w')) (fun s _ => S.length - (intOf (nth s 1)).toNat)
    ⟨v0, 0, c0, fun _ => 0, rfl, by omega, hE2, ⟨hc0, fun y hy => by simp [lastL] at hy, fun y z hy => by simp [lastL] at hy⟩, (hv0 _).ext he2, hout, hcell⟩ ?_
  clear hout hcell
  rintro g s w3 ⟨v, k, c, rc, rfl, hk, hE, hF, hv, hout, hcell⟩
  rw [nth0, nth1]
  refine lss_i (ifB_i (fun hlt => ?_) (fun hlt => ?_))
  · have hkl : k < S.length := by omega
    have hgk := List.getElem?_eq_getElem hkl
    have htk : S.take (k + 1) = S.take k ++ [S[k]] := List.take_succ_eq_append_getElem hkl
    have hmk : S[k] ∈ S := List.getElem_mem hkl
    generalize S[k] = r at hgk htk hmk
    have hlen : (lastL ((S.take k).map fun r => (r.b, r.p, r.d))).length ≤ 100000 := Nat.le_trans (lastL_le _) (by rw [List.length_map, List.length_take]; omega)
    have hstep : lastL ((S.take (k + 1)).map fun r => (r.b, r.p, r.d)) = lastL ((S.take k).map fun r => (r.b, r.p, r.d)) ++ if r.d ≠ r.b then [[r.b, (r.p : Int), r.d]] else [] := by
      rw [htk, List.map_append, List.map_singleton, lastL_snoc]
    have hok := hvs (r.b, r.p, r.d) (List.mem_map.2 ⟨r, hmk, rfl⟩)
    refine joinS_k fun J hJ => ?_
    have fin : ∀ (v' : Value) (c' : Nat) (rc' : Nat → Nat) w', Ext w w' → Fresh w.heap.size c' rc' (lastL ((S.take (k + 1)).map fun r => (r.b, r.p, r.d))).length → RR w' v' (lastL ((S.take (k + 1)).map fun r => (r.b, r.p, r.d))) c' rc' → PtrSl w' outv (S.map (·.pb)) outb → (∀ r ∈ S, cellV r w') → J [v'] w' := by
      intro v' c' rc' w' a1 a2 a3 a4 a5
      refine hJ _ _ fun _ => ?_
      refine add_i (.of (by omega) (by omega)) ?_
      rw [nth0]
      exact ⟨⟨v', k + 1, c', rc', by simp, by omega, a1, a2, a3, a4, a5⟩, by simp only [nth1, intOf]; omega⟩
    clear hJ
    refine ptrs_ld hout (by omega) (p := r.pb) (by rw [Int.toNat_natCast, List.getElem?_map, hgk]; rfl) ?_
    refine drawS_i ?_
    have hd := (Same.drew w3).ext
    have hE4 := hE.trans hd
    have hv4 := hv.ext hd
    have hout4 := hout.ext hd
    have hcell4 : ∀ r ∈ S, cellV r w3.drew := fun r hr => hd.at_ (hcell r hr)
    generalize w3.drew = w4 at hE4 hv4 hout4 hcell4
    have skip : ¬ r.d ≠ r.b → J [v] w4 := fun h => by
      rw [if_neg h, List.append_nil] at hstep
      exact fin v c rc w4 hE4 (by rw [hstep]; exact hF) (by rw [hstep]; exact hv4) hout4 hcell4
    have take : r.d ≠ r.b → drawS w4 fun w =>
        nilS (ptr r.pb 0) fun t32_22 =>
        pur Pg (Instr.fieldAt ty_impl_valley t32_22 0) fun t33_23 =>
        rd Pg (Instr.loadAt ty_int64 t33_23) w fun t34_24 =>
        nilS (ptr r.pb 0) fun t36_25 =>
        pur Pg (Instr.fieldAt ty_impl_valley t36_25 1) fun t37_26 =>
        rd Pg (Instr.loadAt ty_int64 t37_26) w fun t38_27 =>
        nilS (ptr r.pb 0) fun t40_28 =>
        pur Pg (Instr.fieldAt ty_impl_valley t40_28 2) fun t41_29 =>
        rd Pg (Instr.loadAt ty_int64 t41_29) w fun t42_30 =>
        eff Pg (Instr.buildSlice ty_Sint64 3 #[(0, t34_24), (1, t38_27), (2, t42_30)]) w fun t43_31 w =>
        eff Pg (Instr.buildSlice ty_SSint64 1 #[(0, t43_31)]) w fun t44_32 w =>
        eff Pg (Builtin.append_ #[ty_SSint64, ty_SSint64] ty_SSint64 #[v, t44_32]) w fun t45_33 w =>
        J [t45_33] w := fun h => by
      rw [if_pos h] at hstep
      refine drawS_i ?_
      have hd5 := (Same.drew w4).ext
      have hE5 := hE4.trans hd5
      have hv5 := hv4.ext hd5
      have hout5 := hout4.ext hd5
      have hcell5 : ∀ r ∈ S, cellV r w4.drew := fun r hr => hd5.at_ (hcell4 r hr)
      generalize w4.drew = w5 at hE5 hv5 hout5 hcell5
      refine cell_get (f := 0) (hcell5 r hmk) (by decide) (by kernel_rfl) rfl ?_
      refine cell_get (f := 1) (hcell5 r hmk) (by decide) (by kernel_rfl) rfl ?_
      refine cell_get (f := 2) (hcell5 r hmk) (by decide) (by kernel_rfl) rfl ?_
      refine sl1_three (E := ty_int64) (by kernel_rfl) rfl rfl rfl fun tv tb w6 he6 htb htv => ?_
      have htv : Sl1 w6 ty_int64 tv ([r.b, (r.p : Int), r.d].map i64) tb := htv
      have z5 := hE5.size
      refine rr_app ⟨rfl, rfl, rfl⟩ (hv5.ext he6) htv (by omega) fun v' w7 c' hor hm hv' => ?_
      obtain ⟨co, qo⟩ := Sl1.cells (hout5.ext he6)
      have nout : outb ≠ c := fun e => by
        obtain ⟨us, h1, _⟩ := hv5
        obtain ⟨cc, qc⟩ := (h1.ext he6).cells
        exact at_ne qo qc (by decide) e
      have z6 := he6.size
      refine fin v' c' _ w7 ((hE5.trans he6).own hm hF.b) ?_ (by rw [hstep]; exact hv') ((hout5.ext he6).mod hm nout) fun r hr => ?_
      · rw [hstep, List.length_append]
        exact hF.app hor (by omega) (by omega) fun y hy e => by have := hv5.lt hy; omega
      · refine hm.at_ (he6.at_ (hcell5 r hr)) fun e => ?_
        obtain ⟨us, h1, _⟩ := hv5
        obtain ⟨cc, qc⟩ := (h1.ext he6).cells
        exact at_ne (he6.at_ (hcell5 r hr)) qc (by decide) e
    refine cell_get (f := 2) (hcell4 r hmk) (by decide) (by kernel_rfl) rfl ?_
    refine lss_i ?_
    rw [joinS_eq]
    by_cases hd0 : r.d < 0
    · rw [decide_eq_true hd0, ifG_eq_f, if_pos rfl]
      intro g2
      rw [pickS_eq, cond_true, ifB_eq, if_pos rfl]
      refine take ?_
      have := hok.1
      simp only at this
      omega
    · rw [decide_eq_false hd0, ifG_eq_f, if_neg (by simp)]
      refine cell_get (f := 2) (hcell4 r hmk) (by decide) (by kernel_rfl) rfl ?_
      refine cell_get (f := 0) (hcell4 r hmk) (by decide) (by kernel_rfl) rfl ?_
      refine gtr_i ?_
      intro g2
      rw [pickS_eq, cond_false, nth0]
      have h2 := hok.2.1
      simp only at h2
      refine ifB_i (fun hgt => take (by omega)) (fun hgt => skip (by omega))
  · have : k = S.length := by omega
    subst this
    rw [List.take_length] at hF hv
    exact hK v c rc w3 hE hF hv

theorem l09Pairs_c {w : World} {W H gp b0 : Nat} {rb : Nat → Nat} {num : Nat → Int} {K : Value → World → Prop} (hg : GP w gp W H num b0 rb)
    (hK : ∀ v c rc w', Ext w w' → Fresh w.heap.size c rc (lastL (runV num (near W H) (ordK (W * H) num 100 0)).vs).length → RR w' v (lastL (runV num (near W H) (ordK (W * H) num 100 0)).vs) c rc → K v w') : callS Pg n_l09Pairs #[ptr gp 0] w K := by
  refine call_l09Pairs _ _ _ ?_
  unfold S_l09Pairs
  have hW := hg.w1; have hW2 := hg.w2; have hH := hg.h1; have hH2 := hg.h2
  refine rr_nil rfl fun v0 c0 w1 he1 hc0 hv0 => ?_
  have hd := (Same.drew w1).ext
  have hE1 := he1.trans hd
  obtain ⟨gv, hgcell, hgrr⟩ := hg.ex
  have hg1 := hg.ext hE1
  refine drawF_i (fun w' => w'.heap[gp]? = some (row #[gv] ty_impl_Grey)) (hE1.at_ hgcell) ?_
  refine nilS_i (fldi_i (by kernel_rfl) ?_)
  refine rdF_i (fun w' hw' => ld_run (by kernel_rfl) hw' rfl) ?_
  refine l07Width_c hg1 ?_
  refine ⟨hE1.at_ hgcell, ?_⟩
  refine l07List_c (hgrr.ext hE1) hW2 hH2 fun nv nb w2 he2 hnb hnv => ?_
  refine l09Valleys_c hW hW2 hH hH2 hnv fun outv outb S w3 he3 houtb hout hset hsb hrel => ?_
  rw [← hrel.vs] at hK
  have hSl : S.length ≤ 100000 := by
    have := congrArg List.length hrel.vs
    rw [List.length_map] at this
    rw [this]
    refine Nat.le_trans (run_len _) (Nat.le_trans (ordK_len _ num 100 0) ?_)
    have := hg.area
    omega
  have hE3 := hE1.trans (he2.trans he3)
  have z1 := hE1.size; have z2 := he2.size; have z3 := he3.size
  have hv03 := fun rb => (hv0 rb).ext (hd.trans (he2.trans he3))
  have hc0l := (hv0 (fun _ => 0)).lt0
  refine own_len (k := 4) (T := ty_Sspec_l09Valley) rfl hout ?_
  refine loopS_i (fun s w' => ∃ (v : Value) (k c : Nat) (rc : Nat → Nat), s = [v, i64 k] ∧ k ≤ S.length ∧ Ext w w' ∧ Fresh w.heap.size c rc (lastL ((S.take k).map fun r => (r.b, r.p, r.d))).length ∧ RR w' v (lastL ((S.take k).map fun r => (r.b, r.p, r.d))) c rc ∧ VRs w' outv S outb) (fun s _ => S.length - (intOf (nth s 1)).toNat)
    ⟨v0, 0, c0, fun _ => 0, rfl, by omega, hE3, ⟨hc0, fun y hy => by simp [lastL] at hy, fun y z hy => by simp [lastL] at hy⟩, hv03 _, hout⟩ ?_
  clear hout hv03
  rintro g s w4 ⟨v, k, c, rc, rfl, hk, hE, hF, hv, hout⟩
  rw [nth0, nth1]
  refine lss_i (ifB_i (fun hlt => ?_) (fun hlt => ?_))
  · have hkl : k < S.length := by omega
    have hgk := List.getElem?_eq_getElem hkl
    have htk : S.take (k + 1) = S.take k ++ [S[k]] := List.take_succ_eq_append_getElem hkl
    generalize S[k] = r at hgk htk
    have hlen : (lastL ((S.take k).map fun r => (r.b, r.p, r.d))).length ≤ 100000 := Nat.le_trans (lastL_le _) (by rw [List.length_map, List.length_take]; omega)
    have hstep : lastL ((S.take (k + 1)).map fun r => (r.b, r.p, r.d)) = lastL ((S.take k).map fun r => (r.b, r.p, r.d)) ++ if r.d ≠ r.b then [[r.b, (r.p : Int), r.d]] else [] := by
      rw [htk, List.map_append, List.map_singleton, lastL_snoc]
    refine joinS_k fun J hJ => ?_
    have fin : ∀ (v' : Value) (c' : Nat) (rc' : Nat → Nat) w', Ext w w' → Fresh w.heap.size c' rc' (lastL ((S.take (k + 1)).map fun r => (r.b, r.p, r.d))).length → RR w' v' (lastL ((S.take (k + 1)).map fun r => (r.b, r.p, r.d))) c' rc' → VRs w' outv S outb → J [v'] w' := by
      intro v' c' rc' w' a1 a2 a3 a4
      refine hJ _ _ fun _ => ?_
      refine add_i (.of (by omega) (by omega)) ?_
      rw [nth0]
      exact ⟨⟨v', k + 1, c', rc', by simp, by omega, a1, a2, a3, a4⟩, by simp only [nth1, intOf]; omega⟩
    clear hJ
    have hgk' : S[((k : Nat) : Int).toNat]? = some r := by rw [Int.toNat_natCast]; exact hgk
    refine drawS_i ?_
    have hd4 := (Same.drew w4).ext
    have hE5 := hE.trans hd4
    have hv5 := hv.ext hd4
    have hout5 : VRs w4.drew outv S outb := hout.ext hd4
    generalize w4.drew = w5 at hE5 hv5 hout5
    refine val_get (f := 2) hout5 (by omega) hgk' (by decide) (by kernel_rfl) rfl ?_
    refine val_get (f := 0) hout5 (by omega) hgk' (by decide) (by kernel_rfl) rfl ?_
    refine neq_i (ifB_i (fun h => ?_) (fun h => ?_))
    · rw [if_pos h] at hstep
      refine drawS_i ?_
      have hd5 := (Same.drew w5).ext
      have hE6 := hE5.trans hd5
      have hv6 := hv5.ext hd5
      have hout6 : VRs w5.drew outv S outb := hout5.ext hd5
      generalize w5.drew = w6 at hE6 hv6 hout6
      refine val_get (f := 0) hout6 (by omega) hgk' (by decide) (by kernel_rfl) rfl ?_
      refine val_get (f := 1) hout6 (by omega) hgk' (by decide) (by kernel_rfl) rfl ?_
      refine val_get (f := 2) hout6 (by omega) hgk' (by decide) (by kernel_rfl) rfl ?_
      refine sl1_three (E := ty_int64) (by kernel_rfl) rfl rfl rfl fun tv tb w7 he7 htb htv => ?_
      have htv : Sl1 w7 ty_int64 tv ([r.b, (r.p : Int), r.d].map i64) tb := htv
      have z6 := hE6.size
      have z7 := he7.size
      refine rr_app ⟨rfl, rfl, rfl⟩ (hv6.ext he7) htv (by omega) fun v' w8 c' hor hm hv' => ?_
      have hout7 : VRs w7 outv S outb := hout6.ext he7
      have nout : outb ≠ c := fun e => by
        obtain ⟨us, h1, _⟩ := hv6
        obtain ⟨cc, qc⟩ := (h1.ext he7).cells
        obtain ⟨co, qo⟩ := hout7.row
        exact at_ne qo qc (by decide) e
      refine fin v' c' _ w8 ((hE6.trans he7).own hm hF.b) ?_ (by rw [hstep]; exact hv') (hout7.mod hm nout)
      rw [hstep, List.length_append]
      exact hF.app hor (by omega) (by omega) fun y hy e => by have := hv6.lt hy; omega
    · rw [if_neg h, List.append_nil] at hstep
      exact fin v c rc w5 hE5 (by rw [hstep]; exact hF) (by rw [hstep]; exact hv5) hout5
  · have : k = S.length := by omega
    subst this
    rw [List.take_length] at hF hv
    exact hK v c rc w4 hE hF hv

/-- What ValleysOf tells. -/
def valsL (L : List (List Int)) : List (List Int) := if TableOk 99 L then lastL (runV (numL L) (near (VW L) L.length) (ordK (VW L * L.length) (numL L) 100 0)).vs else []
theorem valsL_le {L : List (List Int)} : (valsL L).length ≤ 100000 ∧ ∀ l ∈ valsL L, l.length = 3 := by
  unfold valsL
  split
  · rename_i h
    obtain ⟨_, h1, h2, h3, h4, _⟩ := rect_num h
    constructor
    · refine Nat.le_trans (lastL_le _) (Nat.le_trans (run_len _) (Nat.le_trans (ordK_len _ _ 100 0) ?_))
      have : VW L * L.length ≤ 16 * 16 := Nat.mul_le_mul h2 h4
      omega
    · intro l hl
      unfold lastL at hl
      obtain ⟨e, _, rfl⟩ := List.mem_map.1 hl
      rfl
  · exact ⟨by simp, by simp⟩
theorem gp_of {w : World} {p b0 : Nat} {v : Value} {L : List (List Int)} {rb : Nat → Nat} (h : TableOk 99 L) (hp : w.heap[p]? = some (row #[v] ty_impl_Grey)) (hr : RR w v L b0 rb) : GP w p (VW L) L.length (numL L) b0 rb := by
  obtain ⟨e, h1, h2, h3, h4, _⟩ := rect_num h
  refine ⟨⟨v, hp, ?_⟩, h1, h2, h3, h4⟩
  rw [← e]; exact hr
theorem grey_ld {w : World} {p : Nat} {v : Value} {K : Value → Prop} (hp : w.heap[p]? = some (row #[v] ty_impl_Grey)) (hK : K (.agg #[v])) : rd Pg (Instr.loadAt ty_impl_Grey (ptr p 0)) w K :=
  ldn_i (n := 1) (by kernel_rfl) hp (Nat.le_refl 1) rfl hK

theorem specValleysOf_c {w : World} {v : Value} {L : List (List Int)} {b0 : Nat} {rb : Nat → Nat} {K : Value → World → Prop} (h : RR w v L b0 rb) (hL : L.length ≤ 1000000000) (hl : ∀ l ∈ L, l.length ≤ 1000000000)
    (hK : ∀ r c rc w', Ext w w' → (valsL L ≠ [] → Fresh w.heap.size c rc (valsL L).length) → ((r = .slice none 0 0 ∧ valsL L = []) ∨ RR w' r (valsL L) c rc ∧ Fresh w.heap.size c rc (valsL L).length) → K (.tuple #[r, .bool (decide (TableOk 99 L))]) w') : callS Pg n_spec_ValleysOf #[.agg #[v]] w K := by
  refine call_spec_ValleysOf _ _ _ ?_
  unfold S_spec_ValleysOf
  refine box_i fun p w1 h1 => ?_
  have hp : w1.heap[p]? = some (row #[v] ty_impl_Grey) := h1.at_
  refine l07Is_c hp (h.ext h1.ext) hL hl fun w2 he2 => ?_
  refine not_i ?_
  have hE := h1.ext.trans he2
  by_cases ht : TableOk 99 L
  · rw [decide_eq_true ht, Bool.not_true, ifB_eq, if_neg (by simp)]
    rw [decide_eq_true ht] at hK
    refine l09Pairs_c (gp_of ht (he2.at_ hp) (h.ext hE)) fun r c rc w3 he3 hF hr => ?_
    have e : valsL L = lastL (runV (numL L) (near (VW L) L.length) (ordK (VW L * L.length) (numL L) 100 0)).vs := by unfold valsL; rw [if_pos ht]
    rw [← e] at hF hr
    have z := hE.size
    have hF' : Fresh w.heap.size c rc (valsL L).length := ⟨by have := hF.b; omega, fun y hy => by have := hF.r y hy; omega, hF.inj⟩
    exact hK r c rc w3 (hE.trans he3) (fun _ => hF') (.inr ⟨hr, hF'⟩)
  · rw [decide_eq_false ht, Bool.not_false, ifB_eq, if_pos rfl]
    rw [decide_eq_false ht] at hK
    have e : valsL L = [] := by unfold valsL; rw [if_neg ht]
    exact hK _ 0 (fun _ => 0) w2 hE (fun h => absurd e h) (.inl ⟨rfl, e⟩)
theorem implValleysOf_c {w : World} {v : Value} {L : List (List Int)} {b0 : Nat} {rb : Nat → Nat} {K : Value → World → Prop} (h : RR w v L b0 rb) (hL : L.length ≤ 1000000000) (hl : ∀ l ∈ L, l.length ≤ 1000000000)
    (hK : ∀ r c rc w', Ext w w' → ((r = .slice none 0 0 ∧ valsL L = []) ∨ RR w' r (valsL L) c rc ∧ Fresh w.heap.size c rc (valsL L).length) → K (.tuple #[r, .bool (decide (TableOk 99 L))]) w') : callS Pg n_impl_ValleysOf #[.agg #[v]] w K := by
  refine call_impl_ValleysOf _ _ _ ?_
  unfold S_impl_ValleysOf
  refine box_i fun p w1 h1 => ?_
  have hp : w1.heap[p]? = some (row #[v] ty_impl_Grey) := h1.at_
  refine grey_ld hp ?_
  refine validGrey_c (h.ext h1.ext) hL hl fun w2 he2 => ?_
  refine not_i ?_
  have hE := h1.ext.trans he2
  by_cases ht : TableOk 99 L
  · rw [decide_eq_true ht, Bool.not_true, ifB_eq, if_neg (by simp)]
    rw [decide_eq_true ht] at hK
    refine lasting_c (gp_of ht (he2.at_ hp) (h.ext hE)) (rect_num ht).2.2.2.2.2 fun r c rc w3 he3 hF hr => ?_
    have e : valsL L = lastL (runV (numL L) (near (VW L) L.length) (ordK (VW L * L.length) (numL L) 100 0)).vs := by unfold valsL; rw [if_pos ht]
    rw [← e] at hF hr
    have z := hE.size
    exact hK r c rc w3 (hE.trans he3) (.inr ⟨hr, by have := hF.b; omega, fun y hy => by have := hF.r y hy; omega, hF.inj⟩)
  · rw [decide_eq_false ht, Bool.not_false, ifB_eq, if_pos rfl]
    rw [decide_eq_false ht] at hK
    have e : valsL L = [] := by unfold valsL; rw [if_neg ht]
    exact hK _ 0 (fun _ => 0) w2 hE (.inl ⟨rfl, e⟩)
end Go.Proofs.Ytfdmphgbodmkpaa
