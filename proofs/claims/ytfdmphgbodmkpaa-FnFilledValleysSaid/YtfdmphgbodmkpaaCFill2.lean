/- Contracts of FillValleys, the program's and the reference's. -/
import Derived.Test.YtfdmphgbodmkpaaCFill
set_option linter.unusedVariables false
set_option linter.unusedSimpArgs false
namespace Go.Proofs.Ytfdmphgbodmkpaa
open Go Go.SL Go.RowKit
set_option maxRecDepth 100000

noncomputable def fillN (depth : Int) (W H : Nat) (num : Nat → Int) : Nat → Int := liftS depth (endE (runV num (near W H) (ordK (W * H) num 100 0)) (W * H)) num
def FillOk (depth : Int) (L : List (List Int)) : Prop := TableOk 99 L ∧ 0 ≤ depth ∧ depth ≤ 100
instance (depth : Int) (L : List (List Int)) : Decidable (FillOk depth L) := by unfold FillOk; exact inferInstance
/-- What FillValleys makes. -/
noncomputable def fillL (depth : Int) (L : List (List Int)) : List (List Int) := if FillOk depth L then rect (VW L) L.length (fillN depth (VW L) L.length (numL L)) else []
theorem fillL_le {depth : Int} {L : List (List Int)} : (fillL depth L).length ≤ 16 ∧ ∀ l ∈ fillL depth L, l.length ≤ 16 := by
  unfold fillL
  split
  · rename_i h
    obtain ⟨_, h1, h2, h3, h4, _⟩ := rect_num h.1
    rw [rect_len]
    refine ⟨h4, fun l hl => ?_⟩
    obtain ⟨y, _, rfl⟩ := mem_tab.1 hl
    rw [tab_len]; exact h2
  · exact ⟨by simp, by simp⟩
theorem fillI_eq {depth : Int} {W H : Nat} {num : Nat → Int} {S : List IV} (h : RelI (runV num (near W H) (ordK (W * H) num 100 0)) S) (hlt : ∀ r ∈ S, ∀ q ∈ r.set, q < W * H) : liftS depth (S.map fun r => (r.b, r.d, r.set)) num = fillN depth W H num := by
  refine endE_S ?_ (fun j e he q => ?_) (fun e he q hq => ?_)
  · rw [← h.vs, List.map_map, List.map_map]; rfl
  · rw [List.getElem?_map] at he
    obtain ⟨r, hr, rfl⟩ := Option.map_eq_some_iff.1 he
    exact h.mem j r hr q
  · obtain ⟨r, hr, rfl⟩ := List.mem_map.1 he
    exact hlt r hr q hq
theorem fillS_eq {depth : Int} {W H : Nat} {num : Nat → Int} {S : List VR} (h : Rel (runV num (near W H) (ordK (W * H) num 100 0)) S) (hlt : ∀ r ∈ S, ∀ q ∈ r.set, q < W * H) : liftS depth (S.map fun r => (r.b, r.d, r.set)) num = fillN depth W H num := by
  refine endE_S ?_ (fun j e he q => ?_) (fun e he q hq => ?_)
  · rw [← h.vs, List.map_map, List.map_map]; rfl
  · rw [List.getElem?_map] at he
    obtain ⟨r, hr, rfl⟩ := Option.map_eq_some_iff.1 he
    exact h.mem j r hr q
  · obtain ⟨r, hr, rfl⟩ := List.mem_map.1 he
    exact hlt r hr q hq

/-- The filling that is under way: the result's rows, the valleys. -/
structure FM (w w' : World) (W H xb ob c outb : Nat) (rc : Nat → Nat) (rv outv : Value) (S : List IV) (f : Nat → Int) : Prop where
  ext : Ext w w'
  x : w'.heap[xb]? = some (row #[rv] ty_impl_Grey)
  o : ∃ z, w'.heap[ob]? = some (row #[z] ty_impl_Grey)
  r : RR w' rv (rect W H f) c rc
  out : PtrSl w' outv (S.map (·.pb)) outb
  cell : ∀ r ∈ S, cellV r w'
  pix : ∀ r ∈ S, PixOk w' W (W * H) r
theorem FM.step {w w' w2 : World} {W H xb ob c outb : Nat} {rc : Nat → Nat} {rv outv : Value} {S : List IV} {f : Nat → Int} (h : FM w w' W H xb ob c outb rc rv outv S f) (he : Ext w' w2) : FM w w2 W H xb ob c outb rc rv outv S f :=
  ⟨h.ext.trans he, he.at_ h.x, by obtain ⟨z, hz⟩ := h.o; exact ⟨z, he.at_ hz⟩, h.r.ext he, h.out.ext he, fun r hr => he.at_ (h.cell r hr), fun r hr => (h.pix r hr).mod he id⟩
theorem FM.put {w w' w2 : World} {W H xb ob c outb y : Nat} {rc : Nat → Nat} {rv outv u : Value} {xs : List Value} {S : List IV} {f f' : Nat → Int} (h : FM w w' W H xb ob c outb rc rv outv S f) (hu : Sl1 w' ty_int64 u xs (rc y)) (hn : w.heap.size ≤ rc y) (hm : Mod (· = rc y) w' w2) (hr : RR w2 rv (rect W H f') c rc) : FM w w2 W H xb ob c outb rc rv outv S f' := by
  obtain ⟨cu, qu⟩ := hu.cells
  obtain ⟨co, qo⟩ := Sl1.cells h.out
  refine ⟨h.ext.own hm hn, hm.at_ h.x (at_ne h.x qu (by decide)), ?_, hr, h.out.mod hm (at_ne qo qu (by decide)), fun r hr => hm.at_ (h.cell r hr) (at_ne (h.cell r hr) qu (by decide)), fun r hr => ?_⟩
  · obtain ⟨z, hz⟩ := h.o; exact ⟨z, hm.at_ hz (at_ne hz qu (by decide))⟩
  · obtain ⟨cq, qq⟩ := (h.pix r hr).ty
    exact (h.pix r hr).mod hm (at_ne qq qu (by decide))

theorem grey_put {w : World} {ob : Nat} {rv : Value} {K : Value → World → Prop} (ho : ∃ z, w.heap[ob]? = some (row #[z] ty_impl_Grey)) (h1 : one rv = true) (hK : ∀ w', Mod (· = ob) w w' → K (.agg #[rv]) w') :
    effU Pg (Instr.storeAt ty_impl_Grey (ptr ob 0) (.agg #[rv])) w fun w => rd Pg (resCell ty_impl_Grey (ptr ob 0)) w fun r => K r w := by
  obtain ⟨z, hz⟩ := ho
  refine stn_i (n := 1) (by kernel_rfl) (by intro x hx; simp at hx; subst hx; exact h1) rfl hz (Nat.le_refl 1) ?_
  have hm := setAt_mod w ob (row (wr #[z] 0 [rv]) ty_impl_Grey)
  exact resn_i (n := 1) (by kernel_rfl) (setAt_at _ (lt_of_at hz) _) (Nat.le_refl 1) rfl (hK _ hm)

theorem implFill_c {w : World} {v : Value} {L : List (List Int)} {b0 : Nat} {rb : Nat → Nat} {depth : Int} {K : Value → World → Prop} (h : RR w v L b0 rb) (hL : L.length ≤ 1000000000) (hl : ∀ l ∈ L, l.length ≤ 1000000000)
    (hK : ∀ r c rc w', Ext w w' → ((r = .slice none 0 0 ∧ fillL depth L = []) ∨ RR w' r (fillL depth L) c rc ∧ Fresh w.heap.size c rc (fillL depth L).length) → K (.tuple #[.agg #[r], .bool (decide (FillOk depth L))]) w') : callS Pg n_impl_FillValleys #[.agg #[v], i64 depth] w K := by
  refine call_impl_FillValleys _ _ _ _ ?_
  unfold S_impl_FillValleys
  refine box_i fun p w1 g1 => ?_
  refine alloc_i rfl fun ob w2 g2 => ?_
  have hE2 := g1.ext.trans g2.ext
  have hp : w2.heap[p]? = some (row #[v] ty_impl_Grey) := g2.ext.at_ g1.at_
  have hob : ∃ z, w2.heap[ob]? = some (row #[z] ty_impl_Grey) := ⟨_, g2.at_⟩
  have z1 := g1.ext.size; have o2 := g2.old
  have hobw : w.heap.size ≤ ob := by omega
  have no : ¬ FillOk depth L → ∀ w', Ext w2 w' → pur Pg (Instr.build ty_impl_Grey #[]) fun t19 => effU Pg (Instr.storeAt ty_impl_Grey (ptr ob 0) t19) w' fun w => rd Pg (resCell ty_impl_Grey (ptr ob 0)) w fun r => K (Value.tuple #[r, Go.Value.bool Bool.false]) w := by
    intro hn w' he
    refine build_i (cells := #[.slice none 0 0]) rfl rfl ?_
    refine grey_put (K := fun r w => K (Value.tuple #[r, Go.Value.bool Bool.false]) w) (by obtain ⟨z, hz⟩ := hob; exact ⟨z, he.at_ hz⟩) rfl fun w3 hm => ?_
    have := hK (.slice none 0 0) 0 (fun _ => 0) w3 ((hE2.trans he).own hm hobw) (.inl ⟨rfl, by unfold fillL; rw [if_neg hn]⟩)
    rw [decide_eq_false hn] at this; exact this
  refine grey_ld hp ?_
  refine validGrey_c (h.ext hE2) hL hl fun w3 he3 => ?_
  refine not_i ?_
  have hE3 := hE2.trans he3
  rcases (Decidable.em (TableOk 99 L)).symm with t1 | t1
  · rw [decide_eq_false t1, Bool.not_false, joinS_eq, ifG_eq_f, if_pos rfl]
    intro g
    rw [pickS_eq, cond_true, ifB_eq, if_pos rfl]
    exact no (fun k => t1 k.1) w3 he3
  rw [decide_eq_true t1, Bool.not_true, joinS_eq, ifG_eq_f, if_neg (by simp)]
  refine in_c ?_
  refine not_i ?_
  intro g
  rw [pickS_eq, cond_false, nth0]
  rcases (Decidable.em (0 ≤ depth ∧ depth ≤ 100)).symm with t2 | t2
  · rw [decide_eq_false t2, Bool.not_false, ifB_eq, if_pos rfl]
    exact no (fun k => t2 k.2) w3 he3
  rw [decide_eq_true t2, Bool.not_true, ifB_eq, if_neg (by simp)]
  have hok : FillOk depth L := ⟨t1, t2.1, t2.2⟩
  have hfl : fillL depth L = rect (VW L) L.length (fillN depth (VW L) L.length (numL L)) := by unfold fillL; rw [if_pos hok]
  have hn := (rect_num t1).2.2.2.2.2
  have hg := gp_of t1 (he3.at_ hp) (h.ext hE3)
  rw [decide_eq_true hok, hfl] at hK
  clear no hfl
  generalize hWe : VW L = W at hg hK
  generalize hHe : L.length = H at hg hK
  generalize numL L = num at hg hn hK
  have hW := hg.w1; have hW2 := hg.w2; have hH := hg.h1; have hH2 := hg.h2
  have ha := hg.area
  refine remade_c (num' := num) hg rfl (fun q w4 he4 hq K' hK' => ?_) fun rv c rc w4 he4 hF hr => ?_
  · refine callV_i ?_
    exact at_sp (hg.ext he4) hq hK'
  have hrv1 := hr.one
  refine varn_i (n := 1) (by kernel_rfl) rfl rfl rfl (by intro x hx; simp at hx; subst hx; exact hrv1) fun xb w5 g5 => ?_
  have hx5 : w5.heap[xb]? = some (row #[rv] ty_impl_Grey) := g5.at_
  have he35 := he4.trans g5.ext
  refine valleys_c (hg.ext he35) hn fun outv outb S w6 he6 houtb hout hcell hpix hne hfr hrel hSl => ?_
  have hE6 := hE3.trans (he35.trans he6)
  have htop := vs_top (nr := near W H) (l := ordK (W * H) num 100 0) (fun i => (hn i).2)
  have hvs := vs_ok (nr := near W H) (ordK_sorted (W * H) num 100 0) (fun x _ => (hn x).1)
  rw [← hrel.vs] at htop hvs
  have hfin := fillI_eq (depth := depth) hrel (fun r hr => (hpix r hr).lt)
  have z3 := hE3.size
  have hfrr : ∀ y, y < H → w.heap.size ≤ rc y := fun y hy => by have := hF.r y hy; omega
  have hfrc := hF.b
  refine sl1_len (by kernel_rfl) hout ?_
  rw [List.length_map, List.length_map]
  refine loopS_i (fun s w' => ∃ k : Nat, s = [i64 k] ∧ k ≤ S.length ∧ FM w w' W H xb ob c outb rc rv outv S (liftS depth ((S.take k).map fun r => (r.b, r.d, r.set)) num)) (fun s _ => S.length - (intOf (nth s 0)).toNat)
    ⟨0, rfl, by omega, ⟨hE6, he6.at_ hx5, by obtain ⟨z, hz⟩ := hob; exact ⟨z, (he3.trans (he35.trans he6)).at_ hz⟩, (hr.ext g5.ext).ext he6, hout, hcell, hpix⟩⟩ ?_
  clear hout hcell hpix
  rintro g s w7 ⟨k, rfl, hk, hM⟩
  rw [nth0]
  refine lss_i (ifB_i (fun hlt => ?_) (fun hlt => ?_))
  · have hkl : k < S.length := by omega
    have hgk := List.getElem?_eq_getElem hkl
    have htk : S.take (k + 1) = S.take k ++ [S[k]] := List.take_succ_eq_append_getElem hkl
    have hmk : S[k] ∈ S := List.getElem_mem hkl
    generalize S[k] = r at hgk htk hmk
    have hstep : liftS depth ((S.take (k + 1)).map fun r => (r.b, r.d, r.set)) num = lift1 depth (r.b, r.d, r.set) (liftS depth ((S.take k).map fun r => (r.b, r.d, r.set)) num) := by
      rw [htk, List.map_append, List.map_singleton, liftS_snoc]
    generalize liftS depth ((S.take k).map fun r => (r.b, r.d, r.set)) num = f at hstep hM
    obtain ⟨hb0, hd0, p0, _, hbp⟩ := hvs (r.b, r.p, r.d) (List.mem_map.2 ⟨r, hmk, rfl⟩)
    obtain ⟨hb1, hd1⟩ := htop (r.b, r.p, r.d) (List.mem_map.2 ⟨r, hmk, rfl⟩)
    simp only at hb0 hd0 hb1 hd1
    refine joinS_k fun J hJ => ?_
    have fin : ∀ w', FM w w' W H xb ob c outb rc rv outv S (lift1 depth (r.b, r.d, r.set) f) → J [] w' := by
      intro w' hM'
      refine hJ _ _ fun _ => ?_
      refine add_i (.of (by omega) (by omega)) ?_
      exact ⟨⟨k + 1, by simp, by omega, by rw [hstep]; exact hM'⟩, by simp only [nth0, intOf]; omega⟩
    clear hJ
    refine ptrs_ld hM.out (by omega) (p := r.pb) (by rw [Int.toNat_natCast, List.getElem?_map, hgk]; rfl) ?_
    refine drawS_i ?_
    have hM8 := hM.step (Same.drew w7).ext
    generalize w7.drew = w8 at hM8
    clear hM
    refine cell_get (f := 2) (hM8.cell r hmk) (by decide) (by kernel_rfl) rfl ?_
    refine lss_i ?_
    rw [joinS_eq]
    have skip : (r.d < 0 ∨ depth ≤ r.d - r.b) → J [] w8 := fun hc => fin w8 (by
      unfold lift1
      rw [if_pos hc]; exact hM8)
    by_cases hneg : r.d < 0
    · rw [decide_eq_true hneg, ifG_eq_f, if_pos rfl]
      intro g2
      rw [pickS_eq, cond_true, ifB_eq, if_pos rfl]
      exact skip (.inl hneg)
    rw [decide_eq_false hneg, ifG_eq_f, if_neg (by simp)]
    refine cell_get (f := 2) (hM8.cell r hmk) (by decide) (by kernel_rfl) rfl ?_
    refine cell_get (f := 0) (hM8.cell r hmk) (by decide) (by kernel_rfl) rfl ?_
    refine sub_i (.of (by omega) (by omega)) ?_
    refine geq_i ?_
    intro g2
    rw [pickS_eq, cond_false, nth0]
    refine ifB_i (fun hge => skip (.inr (by omega))) (fun hge => ?_)
    refine cell_get (f := 3) (hM8.cell r hmk) (by decide) (by kernel_rfl) rfl ?_
    have hsp := (hM8.pix r hmk).sl (hne r hmk)
    have hql := (hM8.pix r hmk).len
    refine spots_len_i rfl hsp ?_
    rw [List.length_map]
    have hlift : lift1 depth (r.b, r.d, r.set) f = liftK r.d r.set f := lift1_K (by simp only; omega)
    rw [hlift] at fin
    refine loopS_i (fun s w' => ∃ k : Nat, s = [i64 k] ∧ k ≤ r.set.length ∧ FM w w' W H xb ob c outb rc rv outv S (liftK r.d (r.set.take k) f)) (fun s _ => r.set.length - (intOf (nth s 0)).toNat) ⟨0, rfl, by omega, hM8⟩ ?_
    clear hsp hM8 skip
    rintro g3 s3 w9 ⟨i, rfl, hi, hM⟩
    rw [nth0]
    refine lss_i (ifB_i (fun hlt3 => ?_) (fun hlt3 => ?_))
    · have hil : i < r.set.length := by omega
      have hgi := List.getElem?_eq_getElem hil
      have hti : r.set.take (i + 1) = r.set.take i ++ [r.set[i]] := List.take_succ_eq_append_getElem hil
      have hqN : r.set[i] < W * H := (hM.pix r hmk).lt _ (List.getElem_mem hil)
      generalize r.set[i] = q at hgi hti hqN
      have hstep2 : liftK r.d (r.set.take (i + 1)) f = upd (liftK r.d (r.set.take i) f) q (max (liftK r.d (r.set.take i) f q) r.d) := by rw [hti, liftK_snoc]
      generalize liftK r.d (r.set.take i) f = f2 at hstep2 hM
      have hsp := (hM.pix r hmk).sl (hne r hmk)
      refine spots_ld ⟨rfl, rfl⟩ hsp (by omega) (p := sp W q) (by rw [Int.toNat_natCast, List.getElem?_map, hgi]; rfl) ?_
      refine varn_i (n := 2) (vs := #[i64 (sp W q).1, i64 (sp W q).2]) (by kernel_rfl) rfl rfl rfl (by intro x hx; simp at hx; rcases hx with rfl | rfl <;> rfl) fun pb w10 g10 => ?_
      have hd := (Same.drew w10).ext
      have hM10 := hM.step (g10.ext.trans hd)
      have hpb := hd.at_ g10.at_
      refine drawF_i (fun w' => Ext w10.drew w') (Mod.refl _) ?_
      generalize w10.drew = w11 at hM10 hpb ⊢
      have hWp : 0 < W := hW
      obtain ⟨x, y, hx, hy, rfl⟩ : ∃ x y, x < W ∧ y < H ∧ q = y * W + x := ⟨q % W, q / W, Nat.mod_lt q hWp, Nat.div_lt_of_lt_mul hqN, by rw [Nat.mul_comm]; exact (Nat.div_add_mod q W).symm⟩
      rw [sp_sq hx] at hpb
      obtain ⟨us, u, k1, k2, k3, k4⟩ := rr_at hM10.r (fun y z hy hz => hF.inj y z hy hz) hx hy
      refine fldi_i (by kernel_rfl) ?_
      refine rdF_i (v := rv) (fun w' hw' => ld_run (by kernel_rfl) (hw'.at_ hM10.x) rfl) ?_
      refine fldi_i (by kernel_rfl) ?_
      refine rdF_i (v := i64 (y : Int)) (fun w' hw' => ld_run (by kernel_rfl) (hw'.at_ hpb) rfl) ?_
      refine sl1_getF (E := ty_Sint64) (by kernel_rfl) (by kernel_rfl) k1 (by omega) (by rw [Int.toNat_natCast]; exact k2) ?_
      refine fldi_i (by kernel_rfl) ?_
      refine rdF_i (v := i64 (x : Int)) (fun w' hw' => ld_run (by kernel_rfl) (hw'.at_ hpb) rfl) ?_
      refine ldn_i (n := 2) (vs := #[i64 (x : Int), i64 (y : Int)]) (by kernel_rfl) hpb (Nat.le_refl 2) rfl ?_
      refine nilS_i (fldi_i (by kernel_rfl) ?_)
      refine rdF_i (v := i64 r.d) (fun w' hw' => ld_run (by kernel_rfl) (hw'.at_ (hM10.cell r hmk)) rfl) ?_
      refine at_c (h := (⟨⟨rv, hM10.x, hM10.r⟩, hW, hW2, hH, hH2⟩ : GP w11 xb W H f2 c rc)) hx hy fun w12 he12 => ?_
      refine ⟨he12, ?_⟩
      refine max_i ?_
      have hu12 := k3.ext he12
      refine int_set ⟨rfl, rfl⟩ hu12 (by omega) (by rw [tab_len]; omega) fun w13 hm13 hu13 => ?_
      refine add_i (.of (by omega) (by omega)) ?_
      have hM12 := hM10.step he12
      obtain ⟨us', u', k1', k2', k3', k4'⟩ := rr_at hM12.r (fun y z hy hz => hF.inj y z hy hz) hx hy
      have hus : us' = us := by
        have e1 := k1.ext he12
        obtain ⟨o1, c1, e, s1⟩ := e1
        obtain ⟨o2, c2, e', s2⟩ := k1'
        rw [e] at e'
        simp only [sl, Value.slice.injEq, Option.some.injEq, Addr.mk.injEq, true_and, and_true] at e'
        obtain ⟨rfl, hlen, rfl⟩ := e'
        obtain ⟨cs1, a1, a2, a3⟩ := s1.cells
        obtain ⟨cs2, d1, d2, d3⟩ := s2.cells
        rw [a1] at d1
        simp only [row, Option.some.injEq, Obj.cells.injEq, and_true] at d1
        subst d1
        rw [← a3, ← d3, hlen]
      subst hus
      rw [k2, Option.some.injEq] at k2'
      subst k2'
      rw [Int.toNat_natCast] at hu13
      have hr13 := k4' _ w13 hm13 hu13
      refine ⟨⟨i + 1, by simp, by omega, ?_⟩, by simp only [nth0, intOf]; omega⟩
      rw [hstep2]
      exact hM12.put hu12 (hfrr y hy) hm13 hr13
    · have : i = r.set.length := by omega
      subst this
      rw [List.take_length] at hM
      exact fin w9 hM
  · have : k = S.length := by omega
    subst this
    rw [List.take_length, hfin] at hM
    refine grey_ld hM.x ?_
    refine grey_put (K := fun r w => K (Value.tuple #[r, Go.Value.bool Bool.true]) w) hM.o hrv1 fun w8 hm8 => ?_
    obtain ⟨z, hz⟩ := hM.o
    refine hK rv c rc w8 (hM.ext.own hm8 hobw) (.inr ⟨hM.r.mod hm8 (fun e => ?_) (fun y hy e => ?_), by omega, fun y hy => ?_, fun y z hy hz => ?_⟩)
    · obtain ⟨us, q1, _⟩ := hM.r
      obtain ⟨cc, qc⟩ := q1.cells
      exact at_ne qc hz (by decide) e
    · rw [rect_len] at hy
      obtain ⟨us, _, _, q3⟩ := hM.r
      obtain ⟨u, _, q5⟩ := q3 y _ (rect_get hy)
      obtain ⟨cc, qc⟩ := q5.cells
      exact at_ne qc hz (by decide) e
    · rw [rect_len] at hy; exact hfrr y hy
    · rw [rect_len] at hy hz; exact hF.inj y z hy hz
end Go.Proofs.Ytfdmphgbodmkpaa
