/- Contracts of the program's valleys, continued: the valleys beside a pixel are sorted and end in the oldest. -/
import Derived.Test.YtfdmphgbodmkpaaCVal3
set_option linter.unusedVariables false
set_option linter.unusedSimpArgs false
namespace Go.Proofs.Ytfdmphgbodmkpaa
open Go Go.SL Go.RowKit
set_option maxRecDepth 100000

section
variable {w0 w : World} {W H r1 r2 rc outb : Nat} {outv : Value} {S : List IV} {st : VSt}

theorem idx_get : ∀ {l : List Nat} {x : Nat}, x ∈ l → l[l.idxOf x]? = some x
  | [], x, h => by cases h
  | y :: l, x, h => by
    rw [List.idxOf_cons]
    by_cases e : y = x
    · subst e; simp
    · have hx : x ∈ l := by
        rcases List.mem_cons.1 h with h | h
        · exact absurd h.symm e
        · exact h
      have eb : (y == x) = false := by simpa using e
      rw [eb]
      simp only [cond_false, List.getElem?_cons_succ]
      exact idx_get hx
theorem rank_plain (hS : IM w0 w W H r1 r2 rc outb outv S st) {p : Nat × Value} (hp : p ∈ ranks S) : Plain w p.1 := by
  have : p.1 ∈ (ranks S).map Prod.fst := List.mem_map.2 ⟨p, hp, rfl⟩
  rw [ranks_fst] at this
  obtain ⟨r, hr, e⟩ := List.mem_map.1 this
  rw [← e]; exact hS.plain hr
/-- The comparison by ranks. -/
theorem cmpRank {nb : Nat} {c0 : Array Value} (hS : IM w0 w W H r1 r2 rc outb outv S st) (hnb : w.heap[nb]? = some (row c0 ty_Pimpl_valley)) :
    CmpP w nb (.func (.func n_Grey_valleys_2) #[] #[ptr rc 0]) (fun x => ((S.map (·.pb)).idxOf x : Int)) (fun x => x ∈ S.map (·.pb)) := by
  refine ⟨fun x y w1 hx hy hm K hK => ?_⟩
  have nrc : rc ≠ nb := at_ne hS.rcell hnb (by decide)
  have nr2 : r2 ≠ nb := fun e => row_ne_pk hnb hS.rank e.symm
  have hrc := hm.at_ hS.rcell nrc
  have hrk := hS.rank.mod hm nr2
  have pl : ∀ x, x ∈ S.map (·.pb) → Plain w1 x := fun x hx => by
    obtain ⟨r, hr, rfl⟩ := List.mem_map.1 hx
    exact Plain.of (hm.at_ (hS.cell _ hr) (at_ne (hS.cell _ hr) hnb (by decide)))
  have hpl : ∀ p ∈ ranks S, Plain w1 p.1 := fun p hp => pl _ (by rw [← ranks_fst]; exact List.mem_map.2 ⟨p, hp, rfl⟩)
  have look : ∀ x, x ∈ S.map (·.pb) → lookD x (ranks S) (i64 0) = i64 ((S.map (·.pb)).idxOf x : Int) := fun x hx => by
    have hl := List.idxOf_lt_length_of_mem hx
    rw [List.length_map] at hl
    have hg : (S.map (·.pb))[(S.map (·.pb)).idxOf x]? = some x := idx_get hx
    rw [List.getElem?_map] at hg
    rcases hr : S[(S.map (·.pb)).idxOf x]? with _ | r
    · rw [hr] at hg; cases hg
    · rw [hr] at hg
      simp only [Option.map_some, Option.some.injEq] at hg
      have := look_rank hS.ndp hr (z := i64 0)
      rw [hg] at this; exact this
  refine callV_i ?_
  refine call_Grey_valleys_2 _ _ _ _ _ ?_
  unfold S_Grey_valleys_2
  refine ld_i (by kernel_rfl) hrc rfl ?_
  refine lookPtr_i (T := ty_Pimpl_valley) (z := i64 0) (by kernel_rfl) (by kernel_rfl) hrk (pl x hx) hpl ?_
  refine ld_i (by kernel_rfl) hrc rfl ?_
  refine lookPtr_i (T := ty_Pimpl_valley) (z := i64 0) (by kernel_rfl) (by kernel_rfl) hrk (pl y hy) hpl ?_
  rw [look x hx, look y hy]
  exact cmpInt_c fun c hc => hK c w1 (Mod.refl _) hc

/-- The place of a block among the valleys. -/
def at' (S : List IV) (x : Nat) : Nat := (S.map (·.pb)).idxOf x
theorem at'_get {x : Nat} (hx : x ∈ S.map (·.pb)) : ∃ r, S[at' S x]? = some r ∧ r.pb = x := by
  have hg : (S.map (·.pb))[(S.map (·.pb)).idxOf x]? = some x := idx_get hx
  rw [List.getElem?_map] at hg
  rcases hr : S[(S.map (·.pb)).idxOf x]? with _ | r
  · rw [hr] at hg; cases hg
  · rw [hr] at hg
    simp only [Option.map_some, Option.some.injEq] at hg
    exact ⟨r, hr, hg⟩
theorem at'_of (h : (S.map (·.pb)).Nodup) {v : Nat} {r : IV} (hr : S[v]? = some r) : at' S r.pb = v := by
  have hm : r.pb ∈ S.map (·.pb) := List.mem_map.2 ⟨r, List.mem_of_getElem? hr, rfl⟩
  obtain ⟨r', h1, h2⟩ := at'_get hm
  exact pb_inj h h1 hr h2

/-- What a step has in hand beside the valleys: the picture, the spot. -/
structure Env (w : World) (W H : Nat) (num : Nat → Int) (gc gp sb j : Nat) (b0 : Nat) (rb : Nat → Nat) : Prop where
  gcell : w.heap[gc]? = some (row #[ptr gp 0] ty_Pimpl_Grey)
  g : GP w gp W H num b0 rb
  spot : w.heap[sb]? = some (row #[i64 (sp W j).1, i64 (sp W j).2] ty_impl_Spot)

theorem tailI {num : Nat → Int} {gc gp sb j b0 nb : Nat} {rb : Nat → Nat} {nv : Value} {R : List Nat} {K : World → Prop} (hS : IM w0 w W H r1 r2 rc outb outv S st) (hg : GP w0 gp W H num b0 rb) (hgc : w.heap[gc]? = some (row #[ptr gp 0] ty_Pimpl_Grey)) (hspot : w.heap[sb]? = some (row #[i64 (sp W j).1, i64 (sp W j).2] ty_impl_Spot))
    (hj : j < W * H) (hnj : st.of j = none) (hR0 : R ≠ []) (hRn : R.Nodup) (hRl : R.length ≤ 12) (hRS : ∀ v ∈ R, v < S.length) (hnear : PtrSl w nv (R.map fun v => (S.map (·.pb)).getD v 0) nb) (hnbo : nb ≠ outb) (hnb0 : w0.heap.size ≤ nb) (hsq : ∀ r ∈ S, r.set ≠ [] → r.qb ≠ sb)
    (hal : (∀ v ∈ R, ∃ q, st.of q = some v) ∧ (∀ r ∈ S, r.set ≠ []) ∨ ∃ s r, R = [s] ∧ S[s]? = some r ∧ r.set = [] ∧ ∀ k r', k ≠ s → S[k]? = some r' → r'.set ≠ [])
    (hK : ∀ S' w', IM w0 w' W H r1 r2 rc outb outv S' (addV (mergeV st (minL R) R (num j)) (minL R) j) → (∀ r' ∈ S', r'.set ≠ []) → Mod (fun b => b = r1 ∨ b = nb ∨ ∃ r ∈ S, b = r.pb ∨ b = r.qb) w w' → (∀ r' ∈ S', (∃ r ∈ S, r'.qb = r.qb) ∨ w.heap.size ≤ r'.qb) → K w') :
  callS Pg n_slices_SortFunc_impl_valley_impl_valley #[nv, (Value.func (.func n_Grey_valleys_2) #[] #[ptr rc 0])] w fun _ w =>
  pur Pg (Instr.indexAt ty_SPimpl_valley nv (Go.Value.int Go.IntKind.i64 0)) fun t89_50 =>
  rd Pg (Instr.loadAt ty_Pimpl_valley t89_50) w fun t90_51 =>
  pur Pg (Instr.sliceAt ty_SPimpl_valley nv (some (Go.Value.int Go.IntKind.i64 1)) none none) fun t92_52 =>
  rd Pg (Builtin.len_ #[ty_SPimpl_valley] ty_int #[t92_52]) w fun t93_53 =>
  loopS (fun N54 _ s56 w =>
  pur Pg (binOp Go.BinOp.lss ty_int (nth s56 0) t93_53) fun t95_57 =>
  ifB t95_57 (pur Pg (Instr.indexAt ty_SPimpl_valley t92_52 (nth s56 0)) fun t96_58 =>
  rd Pg (Instr.loadAt ty_Pimpl_valley t96_58) w fun t97_59 =>
  rd Pg (Instr.loadAt ty_Pimpl_Grey (ptr gc 0)) w fun t99_60 =>
  rd Pg (Instr.loadAt ty_impl_Spot (ptr sb 0)) w fun t100_61 =>
  callS Pg n_Grey_at #[t99_60, t100_61] w fun t101_62 w =>
  nilS t97_59 fun t102_63 =>
  pur Pg (Instr.fieldAt ty_impl_valley t102_63 2) fun t103_64 =>
  effU Pg (Instr.storeAt ty_int64 t103_64 t101_62) w fun w =>
  drawS w fun w =>
  nilS t90_51 fun t106_65 =>
  pur Pg (Instr.fieldAt ty_impl_valley t106_65 3) fun t107_66 =>
  rd Pg (Instr.loadAt ty_Simpl_Spot t107_66) w fun t108_67 =>
  nilS t97_59 fun t110_68 =>
  pur Pg (Instr.fieldAt ty_impl_valley t110_68 3) fun t111_69 =>
  rd Pg (Instr.loadAt ty_Simpl_Spot t111_69) w fun t112_70 =>
  eff Pg (Builtin.append_ #[ty_Simpl_Spot, ty_Simpl_Spot] ty_Simpl_Spot #[t108_67, t112_70]) w fun t113_71 w =>
  nilS t90_51 fun t114_72 =>
  pur Pg (Instr.fieldAt ty_impl_valley t114_72 3) fun t115_73 =>
  effU Pg (Instr.storeAt ty_Simpl_Spot t115_73 t113_71) w fun w =>
  nilS t97_59 fun t117_74 =>
  pur Pg (Instr.fieldAt ty_impl_valley t117_74 3) fun t118_75 =>
  rd Pg (Instr.loadAt ty_Simpl_Spot t118_75) w fun t119_76 =>
  rd Pg (Builtin.len_ #[ty_Simpl_Spot] ty_int #[t119_76]) w fun t120_77 =>
  loopS (fun N78 _ s80 w =>
  pur Pg (binOp Go.BinOp.lss ty_int (nth s80 0) t120_77) fun t122_81 =>
  ifB t122_81 (pur Pg (Instr.indexAt ty_Simpl_Spot t119_76 (nth s80 0)) fun t123_82 =>
  rd Pg (Instr.loadAt ty_impl_Spot t123_82) w fun t124_83 =>
  eff Pg (Instr.alloc ty_impl_Spot true (.tuple #[])) w fun t17_84 w =>
  effU Pg (Instr.storeAt ty_impl_Spot t17_84 t124_83) w fun w =>
  rd Pg (Instr.loadAt ty_impl_Spot t17_84) w fun t126_85 =>
  effU Pg (Instr.mapUpdate ty_M_impl_Spot_Pimpl_valley (.map (some r1)) t126_85 t90_51) w fun w =>
  pur Pg (binOp Go.BinOp.add ty_int (nth s80 0) (Go.Value.int Go.IntKind.i64 1)) fun t128_86 =>
  N78 [t128_86] w)
  (pur Pg (binOp Go.BinOp.add ty_int (nth s56 0) (Go.Value.int Go.IntKind.i64 1)) fun t129_87 =>
  N54 [t129_87] w)) [(Go.Value.int Go.IntKind.i64 0)] w)
  (drawF w fun S88 w =>
  nilS t90_51 fun t132_89 =>
  pur Pg (Instr.fieldAt ty_impl_valley t132_89 3) fun t133_90 =>
  rdF Pg S88 (Instr.loadAt ty_Simpl_Spot t133_90) fun t134_91 =>
  rd Pg (Instr.loadAt ty_impl_Spot (ptr sb 0)) w fun t135_92 =>
  eff Pg (Instr.buildSlice ty_Simpl_Spot 1 #[(0, t135_92)]) w fun t136_93 w =>
  S88 w ∧
  eff Pg (Builtin.append_ #[ty_Simpl_Spot, ty_Simpl_Spot] ty_Simpl_Spot #[t134_91, t136_93]) w fun t137_94 w =>
  nilS t90_51 fun t138_95 =>
  pur Pg (Instr.fieldAt ty_impl_valley t138_95 3) fun t139_96 =>
  effU Pg (Instr.storeAt ty_Simpl_Spot t139_96 t137_94) w fun w =>
  rd Pg (Instr.loadAt ty_impl_Spot (ptr sb 0)) w fun t141_97 =>
  effU Pg (Instr.mapUpdate ty_M_impl_Spot_Pimpl_valley (.map (some r1)) t141_97 t90_51) w fun w =>
  K w)) [(Go.Value.int Go.IntKind.i64 0)] w := by
  have hW : 0 < W := hg.w1
  have hN : W * H ≤ 256 := hg.area
  obtain ⟨cn, hcn⟩ := Sl1.cells hnear
  -- the list as a function
  have hne : R.length ≠ 0 := fun e => hR0 (List.length_eq_zero_iff.1 e)
  let f : Nat → Nat := fun k => (S.map (·.pb)).getD (R.getD k 0) 0
  have hf : (R.map fun v => (S.map (·.pb)).getD v 0) = tab R.length f := by
    apply List.ext_getElem?
    intro k
    by_cases hk : k < R.length
    · rw [tab_get hk, List.getElem?_map, List.getElem?_eq_getElem hk]
      simp only [f, Option.map_some]
      rw [List.getD_eq_getElem?_getD (l := R), List.getElem?_eq_getElem hk]; rfl
    · rw [List.getElem?_eq_none (by rw [List.length_map]; omega), List.getElem?_eq_none (by rw [tab_len]; omega)]
  rw [hf] at hnear
  have hRk : ∀ k, k < R.length → ∃ r, R.getD k 0 ∈ R ∧ S[R.getD k 0]? = some r ∧ f k = r.pb := fun k hk => by
    have e1 : R.getD k 0 = R[k] := by rw [List.getD_eq_getElem?_getD, List.getElem?_eq_getElem hk]; rfl
    have hm : R[k] ∈ R := List.getElem_mem hk
    have hl := hRS _ hm
    refine ⟨S[R[k]], by rw [e1]; exact hm, by rw [e1, List.getElem?_eq_getElem hl], ?_⟩
    simp only [f]
    rw [e1, List.getD_eq_getElem?_getD, List.getElem?_map, List.getElem?_eq_getElem hl]; rfl
  have hV : ∀ k, k < R.length → f k ∈ S.map (·.pb) := fun k hk => by
    obtain ⟨r, _, h2, h3⟩ := hRk k hk
    rw [h3]; exact List.mem_map.2 ⟨r, List.mem_of_getElem? h2, rfl⟩
  have hatf : ∀ k, k < R.length → at' S (f k) = R.getD k 0 := fun k hk => by
    obtain ⟨r, _, h2, h3⟩ := hRk k hk
    rw [h3]; exact at'_of hS.ndp h2
  have hinjR : ∀ p q, p < q → q < R.length → R.getD p 0 ≠ R.getD q 0 := fun p q hpq hq e => by
    rw [List.getD_eq_getElem?_getD, List.getD_eq_getElem?_getD, List.getElem?_eq_getElem (by omega), List.getElem?_eq_getElem hq] at e
    simp only [Option.getD_some] at e
    have := nd_inj hRn (by omega) hq e
    omega
  refine sortP_c (lt := fun x y => (at' S x : Int) < (at' S y : Int)) (bf := fun x y => (at' S x : Int) ≠ (at' S y : Int)) (cmpRank hS hcn) hRl (fun x y h => h) (fun x y h k => by show (at' S x : Int) < _; have : (at' S x : Int) ≤ (at' S y : Int) := k; omega) (fun x y z h k => by omega) hV (fun p q hpq hq => ?_) hnear fun f' w1 hm1 hnear1 hperm hsrt => ?_
  · rw [hatf p (by omega), hatf q hq]
    have := hinjR p q hpq hq
    omega
  -- the sorted list
  have hV' : ∀ k, k < R.length → f' k ∈ S.map (·.pb) := fun k hk => by
    obtain ⟨k', q1, q2⟩ := mem_tab.1 (hperm.mem_iff.1 (mem_tab.2 ⟨k, hk, rfl⟩))
    rw [← q2]; exact hV k' q1
  have hinc : ∀ p q, p < q → q < R.length → at' S (f' p) < at' S (f' q) := fun p q hpq hq => by
    have := hsrt p q (by omega) hpq hq
    have this : (at' S (f' p) : Int) < (at' S (f' q) : Int) := this
    omega
  have hmemR : ∀ k, k < R.length → at' S (f' k) ∈ R := fun k hk => by
    obtain ⟨k', q1, q2⟩ := mem_tab.1 (hperm.mem_iff.1 (mem_tab.2 ⟨k, hk, rfl⟩))
    rw [← q2, hatf k' q1]
    exact (hRk k' q1).choose_spec.1
  have hRmem : ∀ v ∈ R, ∃ k, k < R.length ∧ at' S (f' k) = v := fun v hv => by
    obtain ⟨i, hi⟩ := List.getElem?_of_mem hv
    have hil := (List.getElem?_eq_some_iff.1 hi).1
    obtain ⟨k, q1, q2⟩ := mem_tab.1 (hperm.symm.mem_iff.1 (mem_tab.2 ⟨i, hil, rfl⟩))
    refine ⟨k, q1, ?_⟩
    rw [q2, hatf i hil, List.getD_eq_getElem?_getD, hi]; rfl
  have hs : minL R = at' S (f' 0) := minL_eq (hmemR 0 (by omega)) fun x hx => by
    obtain ⟨k, hk, e⟩ := hRmem x hx
    rcases Nat.eq_zero_or_pos k with h0 | h0
    · subst h0; omega
    · have := hinc 0 k h0 hk; omega
  obtain ⟨rs, hrs, hrspb⟩ := at'_get (hV' 0 (by omega))
  have nne : ∀ {b T : Nat} {cs : Array Value}, w.heap[b]? = some (row cs T) → T ≠ ty_Pimpl_valley → b ≠ nb := fun h hT => at_ne h hcn hT
  have hoff1 : IM w0 w1 W H r1 r2 rc outb outv S st := by
    have nout : outb ≠ nb := fun e => hnbo e.symm
    refine { hS with ext := ?_, cell := ?_, pix := ?_, of := ?_, rank := ?_, rcell := ?_, out := ?_ }
    · exact hS.ext.own hm1 hnb0
    · exact fun r hr => hm1.at_ (hS.cell _ hr) (nne (hS.cell _ hr) (by decide))
    · exact fun r hr => (hS.pix _ hr).mod hm1 (by obtain ⟨cs, q⟩ := (hS.pix _ hr).ty; exact nne q (by decide))
    · exact hS.of.mod hm1 fun e => rowne1 hS hcn e.symm
    · exact hS.rank.mod hm1 fun e => row_ne_pk hcn hS.rank e.symm
    · exact hm1.at_ hS.rcell (nne hS.rcell (by decide))
    · exact hS.out.mod hm1 nout
  have hgc1 := hm1.at_ hgc (nne hgc (by decide))
  have hspot1 := hm1.at_ hspot (nne hspot (by decide))
  clear hgc hspot hnear
  refine ptrs_ld hnear1 (by omega) (tab_get (i := 0) (by omega)) ?_
  rw [← hrspb]
  refine sl1_from (E := ty_Pimpl_valley) (j := 1) (by kernel_rfl) hnear1 (by rw [List.length_map, tab_len]; omega) fun tv htv => ?_
  have etail : ((tab R.length f').map pk).drop 1 = (tab (R.length - 1) fun i => f' (i + 1)).map pk := by
    rw [← List.map_drop]
    congr 1
    rw [show R.length = 1 + (R.length - 1) by omega, tab_add]
    rw [show 1 + (R.length - 1) - 1 = R.length - 1 by omega]
    rw [List.drop_left' (by rw [tab_len])]
    exact tab_congr fun i _ => by rw [Nat.add_comm]
  rw [etail] at htv
  have htv : PtrSl w1 tv (tab (R.length - 1) fun i => f' (i + 1)) nb := htv
  refine sl1_len (by kernel_rfl) htv ?_
  rw [List.length_map, tab_len]
  have hA : R.length ≠ 1 → (∀ v ∈ R, ∃ q, st.of q = some v) ∧ (∀ r ∈ S, r.set ≠ []) := fun h1 => by
    rcases hal with h | ⟨s, r, h, _⟩
    · exact h
    · rw [h] at h1; simp at h1
  have hsR := hmemR 0 (by omega)
  refine loopS_i (fun s' w' => ∃ (k : Nat) (S' : List IV), s' = [i64 k] ∧ k ≤ R.length - 1 ∧ IM w0 w' W H r1 r2 rc outb outv S' (mergeV st (at' S (f' 0)) (tab k fun i => at' S (f' (i + 1))) (num j)) ∧ S'.map (·.pb) = S.map (·.pb) ∧ PtrSl w' tv (tab (R.length - 1) fun i => f' (i + 1)) nb ∧
      w'.heap[gc]? = some (row #[ptr gp 0] ty_Pimpl_Grey) ∧ w'.heap[sb]? = some (row #[i64 (sp W j).1, i64 (sp W j).2] ty_impl_Spot) ∧ (∀ r ∈ S', r.set ≠ [] → r.qb ≠ sb) ∧ (R.length = 1 → S' = S) ∧ (R.length ≠ 1 → ∀ r ∈ S', r.set ≠ []) ∧ Mod (fun b => b = r1 ∨ b = nb ∨ ∃ r ∈ S, b = r.pb ∨ b = r.qb) w w' ∧ (∀ r ∈ S', (∃ r0 ∈ S, r.qb = r0.qb) ∨ w.heap.size ≤ r.qb)) (fun s' _ => R.length - (intOf (nth s' 0)).toNat)
    ⟨0, S, rfl, by omega, by rw [show tab 0 (fun i => at' S (f' (i + 1))) = [] from rfl, merge_nil]; exact hoff1, rfl, htv, hgc1, hspot1, hsq, fun _ => rfl, fun h => (hA h).2, hm1.mono fun k _ e => .inr (.inl e), fun r hr => .inl ⟨r, hr, rfl⟩⟩ ?_
  clear htv hgc1 hspot1 hsq hoff1
  rintro g5 s5 w2 ⟨k, S', rfl, hk, hS2, hpb2, htv2, hgc2, hspot2, hsq2, hone2, hmore2, hmd2, hqd2⟩
  have toS : ∀ {b : Nat}, b < w.heap.size → (b = r1 ∨ ∃ r ∈ S', b = r.pb ∨ b = r.qb) → b = r1 ∨ b = nb ∨ ∃ r ∈ S, b = r.pb ∨ b = r.qb := by
    intro b hb e
    rcases e with e | ⟨r, hr, e | e⟩
    · exact .inl e
    · have : r.pb ∈ S.map (·.pb) := by rw [← hpb2]; exact List.mem_map.2 ⟨r, hr, rfl⟩
      obtain ⟨r0, h1, h2⟩ := List.mem_map.1 this
      exact .inr (.inr ⟨r0, h1, .inl (by rw [e, h2])⟩)
    · rcases hqd2 r hr with ⟨r0, h1, h2⟩ | h
      · exact .inr (.inr ⟨r0, h1, .inr (by rw [e, h2])⟩)
      · omega
  rw [nth0]
  have hat2 : ∀ x, at' S' x = at' S x := fun x => by unfold at'; rw [hpb2]
  have hget2 : ∀ x, x ∈ S.map (·.pb) → ∃ r, S'[at' S x]? = some r ∧ r.pb = x := fun x hx => by
    have := at'_get (S := S') (x := x) (by rw [hpb2]; exact hx)
    rwa [hat2] at this
  obtain ⟨rs', hrs', hrspb'⟩ := hget2 _ (hV' 0 (by omega))
  have hms' : rs' ∈ S' := List.mem_of_getElem? hrs'
  have epb : rs.pb = rs'.pb := by rw [hrspb, hrspb']
  rw [epb]
  refine lss_i (ifB_i (fun hlt => ?_) (fun hlt => ?_))
  · have hk1 : k < R.length - 1 := by omega
    have hn1 : R.length ≠ 1 := by omega
    obtain ⟨rv, hrv, hrvpb⟩ := hget2 _ (hV' (k + 1) (by omega))
    refine ptrs_ld htv2 (by omega) (tab_get (i := k) (by omega)) ?_
    rw [← hrvpb]
    refine ld_i (by kernel_rfl) hgc2 rfl ?_
    refine ldS_i rfl hspot2 ?_
    have hx := Nat.mod_lt j hW
    have hy : j / W < H := Nat.div_lt_of_lt_mul hj
    have hgj : j / W * W + j % W = j := by rw [Nat.mul_comm]; exact Nat.div_add_mod j W
    refine at_c (x := j % W) (y := j / W) (hg.ext hS2.ext) hx hy fun w3 he3 => ?_
    rw [hgj]
    have hvR := hmemR (k + 1) (by omega)
    have hvs := hinc 0 (k + 1) (by omega) (by omega)
    have hvk : at' S (f' (k + 1)) ∉ tab k fun i => at' S (f' (i + 1)) := fun h => by
      obtain ⟨i, hi, e⟩ := mem_tab.1 h
      have := hinc (i + 1) (k + 1) (by omega) (by omega)
      omega
    have halv : ∃ q, (mergeV st (at' S (f' 0)) (tab k fun i => at' S (f' (i + 1))) (num j)).of q = some (at' S (f' (k + 1))) := by
      obtain ⟨q, hq⟩ := (hA hn1).1 _ hvR
      exact ⟨q, by simp only [mergeV, hq, Option.map_some, if_neg hvk]⟩
    have hals : ∃ q, (mergeV st (at' S (f' 0)) (tab k fun i => at' S (f' (i + 1))) (num j)).of q = some (at' S (f' 0)) := by
      obtain ⟨q, hq⟩ := (hA hn1).1 _ hsR
      exact ⟨q, by simp [mergeV, hq]⟩
    obtain ⟨m1, m2, m3⟩ := merge_snoc (st := st) (s := at' S (f' 0)) (l := num j) hvk (by omega)
    have hinv' : InvV (mergeV st (at' S (f' 0)) ((tab k fun i => at' S (f' (i + 1))) ++ [at' S (f' (k + 1))]) (num j)) := by
      rw [← merge_self (fun _ => trivial)]
      refine hS.inv.merge (List.mem_cons_self ..) fun v hv => ?_
      rcases List.mem_cons.1 hv with rfl | hv
      · exact (hA hn1).1 _ hsR
      · rcases List.mem_append.1 hv with hv | hv
        · obtain ⟨i, hi, rfl⟩ := mem_tab.1 hv
          exact (hA hn1).1 _ (hmemR (i + 1) (by omega))
        · rw [List.mem_singleton] at hv; subst hv; exact (hA hn1).1 _ hvR
    refine merge1I (hS2.step he3) hW hN (by omega) hrv hrs' halv hals m1 m2 m3 hinv' fun S3 w4 hS4 hm4 hpb4 hqb4 => ?_
    rw [← tab_succ k (fun i => at' S (f' (i + 1)))] at hS4
    refine add_i (.of (by omega) (by omega)) ?_
    have nbS : ∀ {b T : Nat} {cs : Array Value}, w3.heap[b]? = some (row cs T) → T ≠ ty_impl_valley → (T = ty_impl_Spot → ∀ r ∈ S', r.qb ≠ b) → ¬ (b = r1 ∨ ∃ r ∈ S', b = r.pb ∨ b = r.qb) := by
      intro b T cs hb hT hsp
      rintro (e | ⟨r, hr, e | e⟩)
      · exact rowne1 (hS2.step he3) hb e
      · exact at_ne hb ((hS2.step he3).cell _ hr) hT e
      · by_cases hTs : T = ty_impl_Spot
        · exact hsp hTs r hr e.symm
        · obtain ⟨cs', q⟩ := ((hS2.step he3).pix _ hr).ty
          exact at_ne hb q hTs e
    have z3 := he3.size
    have hspl := lt_of_at hspot2
    have hmore4 : ∀ r ∈ S3, r.set ≠ [] := fun r hr e => by
      obtain ⟨i, hi⟩ := List.getElem?_of_mem hr
      have hil : i < S'.length := by
        have h1 := (List.getElem?_eq_some_iff.1 hi).1
        have h2 := congrArg List.length hpb4
        rw [List.length_map, List.length_map] at h2
        omega
      have hr' := List.getElem?_eq_getElem hil
      obtain ⟨q, hq⟩ := List.exists_mem_of_ne_nil _ (hmore2 hn1 _ (List.getElem_mem hil))
      have hq' := (hS2.rel.mem i _ hr' q).1 hq
      have hq3 : (mergeV st (at' S (f' 0)) (tab (k + 1) fun i => at' S (f' (i + 1))) (num j)).mem i q := by
        rw [tab_succ, m3]; exact .inl hq'
      have := (hS4.rel.mem i r hi q).2 hq3
      rw [e] at this; cases this
    obtain ⟨ct, hct⟩ := Sl1.cells (htv2.ext he3)
    refine ⟨⟨k + 1, S3, by simp, by omega, hS4, hpb4.trans hpb2, (htv2.ext he3).mod hm4 (nbS hct (by decide) (fun e => absurd e (by decide))), hm4.at_ (he3.at_ hgc2) (nbS (he3.at_ hgc2) (by decide) (fun e => absurd e (by decide))),
      hm4.at_ (he3.at_ hspot2) (nbS (he3.at_ hspot2) (by decide) (fun _ r hr => hsq2 r hr (hmore2 hn1 r hr))), fun r hr hne => ?_, fun h => absurd h hn1, fun _ => hmore4, (hmd2.trans he3.mod).comp hm4 (fun _ _ h => h) (fun i hi e => toS hi e), fun r hr => ?_⟩, by simp only [nth0, intOf]; omega⟩
    · rcases hqb4 r hr with ⟨r', hr', e⟩ | h
      · rw [e]; exact hsq2 r' hr' (hmore2 hn1 r' hr')
      · omega
    · rcases hqb4 r hr with ⟨r', hr', e⟩ | h
      · rcases hqd2 r' hr' with ⟨r0, h1, h2⟩ | h'
        · exact .inl ⟨r0, h1, by rw [e, h2]⟩
        · exact .inr (by omega)
      · have := hmd2.size
        exact .inr (by omega)
  · have hkn : k = R.length - 1 := by omega
    have hmer : mergeV st (at' S (f' 0)) (tab k fun i => at' S (f' (i + 1))) (num j) = mergeV st (minL R) R (num j) := by
      rw [hs, ← merge_self (R := tab k fun i => at' S (f' (i + 1))) (fun _ => trivial)]
      refine merge_congr fun v => ?_
      rw [List.mem_cons, mem_tab]
      constructor
      · rintro (rfl | ⟨i, hi, rfl⟩)
        · exact hsR
        · exact hmemR (i + 1) (by omega)
      · intro hv
        obtain ⟨i, hi, e⟩ := hRmem v hv
        rcases Nat.eq_zero_or_pos i with h0 | h0
        · subst h0; exact .inl e.symm
        · exact .inr ⟨i - 1, by omega, by rw [show i - 1 + 1 = i by omega]; exact e⟩
    rw [hmer] at hS2
    rw [← hs] at hrs'
    refine addI hS2 hW hN hrs' ?_ hj (by simp [mergeV, hnj]) hspot2 (fun h => hsq2 rs' hms' h) fun S3 w4 hS4 hne4 hmd4 hqd4 => hK S3 w4 hS4 (fun r hr => ?_) (hmd2.comp hmd4 (fun _ _ h => h) fun i hi e => toS hi e) (fun r hr => ?_)
    · rcases hal with ⟨h1, _⟩ | ⟨s0, r0, h1, h2, h3, _⟩
      · obtain ⟨q, hq⟩ := h1 _ hsR
        left
        refine ⟨q, ?_⟩
        rw [← hs] at hq
        simp [mergeV, hq]
      · right
        have hl1 : R.length = 1 := by rw [h1]; rfl
        have hSS := hone2 hl1
        subst hSS
        have : minL R = s0 := by rw [h1]; rfl
        rw [this, h2, Option.some.injEq] at hrs'
        rw [← hrs']; exact h3
    · obtain ⟨i, hi⟩ := List.getElem?_of_mem hr
      rcases hne4 i r hi with h | ⟨h1, h2⟩
      · exact h
      · by_cases hn1 : R.length = 1
        · have hSS := hone2 hn1
          subst hSS
          rcases hal with ⟨_, h3⟩ | ⟨s0, r0, h3, _, _, h5⟩
          · exact h3 r (List.mem_of_getElem? h2)
          · refine h5 i r (fun e => h1 ?_) h2
            rw [e, h3]; rfl
        · exact hmore2 hn1 r (List.mem_of_getElem? h2)
    · rcases hqd4 r hr with ⟨r', hr', e⟩ | h
      · rcases hqd2 r' hr' with ⟨r0, h1, h2⟩ | h'
        · exact .inl ⟨r0, h1, by rw [e, h2]⟩
        · exact .inr (by omega)
      · have := hmd2.size
        exact .inr (by omega)
end
end Go.Proofs.Ytfdmphgbodmkpaa
