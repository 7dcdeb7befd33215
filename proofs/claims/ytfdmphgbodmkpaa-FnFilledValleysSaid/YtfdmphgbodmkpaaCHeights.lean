/- Contracts of heights and DepthAt. -/
import Derived.Test.YtfdmphgbodmkpaaPFillA
set_option linter.unusedVariables false
set_option linter.unusedSimpArgs false
namespace Go.Proofs.Ytfdmphgbodmkpaa
open Go Go.SL Go.RowKit
set_option maxRecDepth 100000

def sumT (f : Nat → Int) : Nat → Nat
  | 0 => 0
  | n + 1 => sumT f n + (f n).toNat
theorem sumT_upd {f : Nat → Int} {q : Nat} {x : Int} : ∀ {N : Nat}, (q < N → sumT (upd f q x) N + (f q).toNat = sumT f N + x.toNat) ∧ (N ≤ q → sumT (upd f q x) N = sumT f N)
  | 0 => ⟨fun h => by omega, fun _ => rfl⟩
  | n + 1 => by
    obtain ⟨h1, h2⟩ := sumT_upd (f := f) (q := q) (x := x) (N := n)
    constructor
    · intro h
      simp only [sumT]
      by_cases e : q = n
      · subst e
        have := h2 (Nat.le_refl _)
        have e1 : upd f q x q = x := by unfold upd; rw [if_pos rfl]
        rw [e1]; omega
      · have := h1 (by omega)
        have e1 : upd f q x n = f n := by unfold upd; rw [if_neg (by omega)]
        rw [e1]; omega
    · intro h
      simp only [sumT]
      have := h2 (by omega)
      have e1 : upd f q x n = f n := by unfold upd; rw [if_neg (by omega)]
      rw [e1]; omega
theorem sumT_less {f : Nat → Int} {q N : Nat} {x : Int} (hq : q < N) (h0 : 0 ≤ x) (h1 : x < f q) : sumT (upd f q x) N < sumT f N := by
  have := (sumT_upd (f := f) (q := q) (x := x) (N := N)).1 hq
  omega

/-- The heights that are under way. -/
structure HM (w w' : World) (W H xb ob c : Nat) (rc : Nat → Nat) (rv : Value) (f : Nat → Int) : Prop where
  ext : Ext w w'
  x : w'.heap[xb]? = some (row #[rv] ty_impl_Grey)
  o : ∃ z, w'.heap[ob]? = some (row #[z] ty_impl_Grey)
  r : RR w' rv (rect W H f) c rc
theorem HM.step {w w' w2 : World} {W H xb ob c : Nat} {rc : Nat → Nat} {rv : Value} {f : Nat → Int} (h : HM w w' W H xb ob c rc rv f) (he : Ext w' w2) : HM w w2 W H xb ob c rc rv f :=
  ⟨h.ext.trans he, he.at_ h.x, by obtain ⟨z, hz⟩ := h.o; exact ⟨z, he.at_ hz⟩, h.r.ext he⟩
theorem HM.put {w w' w2 : World} {W H xb ob c y : Nat} {rc : Nat → Nat} {rv u : Value} {xs : List Value} {f f' : Nat → Int} (h : HM w w' W H xb ob c rc rv f) (hu : Sl1 w' ty_int64 u xs (rc y)) (hn : w.heap.size ≤ rc y) (hm : Mod (· = rc y) w' w2) (hr : RR w2 rv (rect W H f') c rc) : HM w w2 W H xb ob c rc rv f' := by
  obtain ⟨cu, qu⟩ := hu.cells
  refine ⟨h.ext.own hm hn, hm.at_ h.x (at_ne h.x qu (by decide)), ?_, hr⟩
  obtain ⟨z, hz⟩ := h.o; exact ⟨z, hm.at_ hz (at_ne hz qu (by decide))⟩
theorem HM.gp {w w' : World} {W H xb ob c : Nat} {rc : Nat → Nat} {rv : Value} {f : Nat → Int} (h : HM w w' W H xb ob c rc rv f) (h1 : 1 ≤ W ∧ W ≤ 16) (h2 : 1 ≤ H ∧ H ≤ 16) : GP w' xb W H f c rc := ⟨⟨rv, h.x, h.r⟩, h1.1, h1.2, h2.1, h2.2⟩

/-- Heights that ways bear out. -/
def Hts (W H : Nat) (num : Nat → Int) (s0 : Nat) (f : Nat → Int) : Prop := ∀ q, q < W * H → 0 ≤ f q ∧ f q ≤ 100 ∧ (f q ≤ 99 → Con (near W H) (Upto (W * H) num (f q)) s0 q)
theorem Hts.put {W H : Nat} {num f : Nat → Int} {s0 j q : Nat} (hW : 0 < W) (hn : ∀ i, 0 ≤ num i ∧ num i ≤ 99) (h : Hts W H num s0 f) (hj : j < W * H) (hq : q ∈ near W H j) (hlt : max (f q) (num j) < f j) : Hts W H num s0 (upd f j (max (f q) (num j))) := by
  intro x hx
  unfold upd
  split
  · rename_i e
    subst e
    have hqN := near_lt hq
    obtain ⟨a1, a2, a3⟩ := h q hqN
    have b := h x hx
    refine ⟨by omega, by omega, fun _ => ?_⟩
    have hc := a3 (by omega)
    refine .step (hc.mono fun y hy => ⟨hy.1, by have := hy.2; omega⟩) (near_symm hW x q hx hqN hq) ⟨hx, by omega⟩
  · exact h x hx

theorem heights_c {w : World} {gp W H b0 s0 : Nat} {rb : Nat → Nat} {num : Nat → Int} {K : Value → World → Prop} (hg : GP w gp W H num b0 rb) (hn : ∀ i, 0 ≤ num i ∧ num i ≤ 99) (hs0 : s0 < W * H)
    (hK : ∀ v c rc f w', Ext w w' → RR w' v (rect W H f) c rc → Hts W H num s0 f → K (.agg #[v]) w') : callS Pg n_Grey_heights #[ptr gp 0, pairV (sp W s0)] w K := by
  refine call_Grey_heights _ _ _ _ ?_
  unfold S_Grey_heights
  have hW := hg.w1; have hW2 := hg.w2; have hH := hg.h1; have hH2 := hg.h2
  have ha := hg.area
  have hWp : 0 < W := hW
  refine spot_box rfl fun sb w1 g1 => ?_
  refine alloc_i rfl fun ob w2 g2 => ?_
  have hE2 := g1.ext.trans g2.ext
  have hsb2 := g2.ext.at_ g1.at_
  have hob2 : ∃ z, w2.heap[ob]? = some (row #[z] ty_impl_Grey) := ⟨_, g2.at_⟩
  have z1 := g1.ext.size; have o2 := g2.old
  refine remade_c (num' := fun _ => 100) (hg.ext hE2) rfl (fun q w3 he3 hq K' hK' => ?_) fun rv c rc w3 he3 hF hr => ?_
  · refine callV_i ?_
    refine call_Grey_heights_1 _ _ _ ?_
    unfold S_Grey_heights_1
    refine spot_box rfl fun zb w4 g4 => ?_
    exact hK' w4 g4.ext
  have hrv1 := hr.one
  refine varn_i (n := 1) (by kernel_rfl) rfl rfl rfl (by intro x hx; simp at hx; subst hx; exact hrv1) fun xb w4 g4 => ?_
  have hd := (Same.drew w4).ext
  have he24 := he3.trans (g4.ext.trans hd)
  have hE4 := hE2.trans he24
  have hM4 : HM w w4.drew W H xb ob c rc rv (fun _ => 100) := ⟨hE4, hd.at_ g4.at_, by obtain ⟨z, hz⟩ := hob2; exact ⟨z, he24.at_ hz⟩, (hr.ext g4.ext).ext hd⟩
  have hsb4 := he24.at_ hsb2
  refine drawF_i (fun w' => Ext w4.drew w') (Mod.refl _) ?_
  generalize w4.drew = w5 at hM4 hsb4 hE4 ⊢
  obtain ⟨x, y, hx, hy, rfl⟩ : ∃ x y, x < W ∧ y < H ∧ s0 = y * W + x := ⟨s0 % W, s0 / W, Nat.mod_lt s0 hWp, Nat.div_lt_of_lt_mul hs0, by rw [Nat.mul_comm]; exact (Nat.div_add_mod s0 W).symm⟩
  rw [sp_sq hx] at hsb4
  have hinj : ∀ y z, y < H → z < H → rc y = rc z → y = z := fun y z hy hz => hF.inj y z hy hz
  have hfr : ∀ y, y < H → w.heap.size ≤ rc y := fun y hy => by have := hF.r y hy; have := hE2.size; omega
  obtain ⟨us, u, k1, k2, k3, k4⟩ := rr_at hM4.r hinj hx hy
  refine fldi_i (by kernel_rfl) ?_
  refine rdF_i (v := rv) (fun w' hw' => ld_run (by kernel_rfl) (hw'.at_ hM4.x) rfl) ?_
  refine fldi_i (by kernel_rfl) ?_
  refine rdF_i (v := i64 (y : Int)) (fun w' hw' => ld_run (by kernel_rfl) (hw'.at_ hsb4) rfl) ?_
  refine sl1_getF (E := ty_Sint64) (by kernel_rfl) (by kernel_rfl) k1 (by omega) (by rw [Int.toNat_natCast]; exact k2) ?_
  refine fldi_i (by kernel_rfl) ?_
  refine rdF_i (v := i64 (x : Int)) (fun w' hw' => ld_run (by kernel_rfl) (hw'.at_ hsb4) rfl) ?_
  refine ldn_i (n := 2) (vs := #[i64 (x : Int), i64 (y : Int)]) (by kernel_rfl) hsb4 (Nat.le_refl 2) rfl ?_
  refine at_c (h := hg.ext hM4.ext) hx hy fun w6 he6 => ?_
  refine ⟨he6, ?_⟩
  have hu6 := k3.ext he6
  refine int_set ⟨rfl, rfl⟩ hu6 (by omega) (by rw [tab_len]; omega) fun w7 hm7 hu7 => ?_
  have hM6 := hM4.step he6
  obtain ⟨us', u', k1', k2', k3', k4'⟩ := rr_at hM6.r hinj hx hy
  -- the row is the same
  have same : ∀ {wA wB : World} {vv : Value} {uA uB : List Value} {bb : Nat}, Ext wA wB → Sl1 wA ty_Sint64 vv uA bb → Sl1 wB ty_Sint64 vv uB bb → uB = uA := by
    intro wA wB vv uA uB bb he hA hB
    obtain ⟨o1, c1, e, s1⟩ := hA.ext he
    obtain ⟨o2, c2, e', s2⟩ := hB
    rw [e] at e'
    simp only [sl, Value.slice.injEq, Option.some.injEq, Addr.mk.injEq, true_and, and_true] at e'
    obtain ⟨rfl, hlen, rfl⟩ := e'
    obtain ⟨cs1, a1, a2, a3⟩ := s1.cells
    obtain ⟨cs2, d1, d2, d3⟩ := s2.cells
    rw [a1] at d1
    simp only [row, Option.some.injEq, Obj.cells.injEq, and_true] at d1
    subst d1
    rw [← a3, ← d3, hlen]
  have hus : us' = us := same he6 k1 k1'
  subst hus
  rw [k2, Option.some.injEq] at k2'
  subst k2'
  rw [Int.toNat_natCast] at hu7
  have hr7 := k4' _ w7 hm7 hu7
  have hM7 := hM6.put hu6 (hfr y hy) hm7 hr7
  have hN : y * W + x < W * H := sq_lt hx hy
  have hT7 : Hts W H num (y * W + x) (upd (fun _ => 100) (y * W + x) (num (y * W + x))) := by
    intro q hq
    unfold upd
    split
    · rename_i e; subst e
      have := hn (y * W + x)
      exact ⟨this.1, by omega, fun _ => .base ⟨hq, Int.le_refl _⟩⟩
    · exact ⟨by show (0 : Int) ≤ 100; omega, by show (100 : Int) ≤ 100; omega, fun k => by have k : (100 : Int) ≤ 99 := k; omega⟩
  generalize upd (fun _ => (100 : Int)) (y * W + x) (num (y * W + x)) = f7 at hM7 hT7
  clear hu7 hu6 hr7 k1 k2 k3 k4 k1' k3' k4' hM4 hM6
  generalize y * W + x = s0 at hT7 hs0 hK hN
  refine loopS_n (2 * sumT f7 (W * H) + 1) (fun n s w' => ∃ (again : Bool) (f : Nat → Int), s = [.bool again] ∧ n = 2 * sumT f (W * H) + (if again then 1 else 0) ∧ HM w w' W H xb ob c rc rv f ∧ Hts W H num s0 f) ⟨true, f7, rfl, rfl, hM7, hT7⟩ ?_
  clear hM7 hT7
  rintro n g s w8 ⟨again, f0, rfl, rfl, hM, hT⟩ NN hNN
  rw [nth0]
  refine ifB_b (fun hb => ?_) (fun hb => ?_)
  · subst hb
    refine spotsG_c (hg.ext hM.ext) fun sv svb w9 he9 hsvb hsv => ?_
    have hM9 := hM.step he9
    refine spots_len_i rfl hsv ?_
    rw [tab_len]
    have zw := hM.ext.size
    refine loopS_i (fun s w' => ∃ (ag : Bool) (k : Nat) (f : Nat → Int), s = [.bool ag, i64 k] ∧ k ≤ W * H ∧ HM w w' W H xb ob c rc rv f ∧ Hts W H num s0 f ∧ OwnSpots w' sv (tab (W * H) (sp W)) svb ∧ ((ag = false ∧ f = f0) ∨ (ag = true ∧ sumT f (W * H) < sumT f0 (W * H)))) (fun s _ => W * H - (intOf (nth s 1)).toNat) ⟨false, 0, f0, rfl, by omega, hM9, hT, hsv, .inl ⟨rfl, rfl⟩⟩ ?_
    clear hM hT hM9 hsv
    rintro g2 s2 w10 ⟨ag, k, f, rfl, hk, hM, hT, hsv, hag⟩
    rw [nth0, nth1]
    refine lss_i (ifB_i (fun hlt => ?_) (fun hlt => ?_))
    · have hkN : k < W * H := by omega
      refine spots_ld ⟨rfl, rfl⟩ hsv (by omega) (p := sp W k) (by rw [Int.toNat_natCast]; exact tab_get hkN) ?_
      refine varS_i (p := sp W k) rfl fun pb w11 g11 => ?_
      have hpb := g11.at_
      have hM11 := hM.step g11.ext
      refine fldi_i (by kernel_rfl) (ld_i (by kernel_rfl) hpb rfl ?_)
      refine fldi_i (by kernel_rfl) (ld_i (by kernel_rfl) hpb rfl ?_)
      have hspb := inB_iff.1 (inB_sp (H := H) hWp hkN)
      refine around_c ⟨by omega, by omega⟩ ⟨by omega, by omega⟩ fun av ab w12 he12 hab hav => ?_
      have hav : OwnSpots w12 av (nbrs false (sp W k)) ab := hav
      have hM12 := hM11.step he12
      refine spots_len_i rfl hav ?_
      have hnl := nbrs_le false (sp W k)
      obtain ⟨csv, qsv⟩ := (hsv.ext (g11.ext.trans he12)).row
      refine loopS_i (fun s w' => ∃ (ag : Bool) (m : Nat) (f : Nat → Int), s = [.bool ag, i64 m] ∧ m ≤ (nbrs false (sp W k)).length ∧ HM w w' W H xb ob c rc rv f ∧ Hts W H num s0 f ∧ OwnSpots w' sv (tab (W * H) (sp W)) svb ∧ OwnSpots w' av (nbrs false (sp W k)) ab ∧ w'.heap[pb]? = some (row #[i64 (sp W k).1, i64 (sp W k).2] ty_impl_Spot) ∧ ((ag = false ∧ f = f0) ∨ (ag = true ∧ sumT f (W * H) < sumT f0 (W * H)))) (fun s _ => (nbrs false (sp W k)).length - (intOf (nth s 1)).toNat)
        ⟨ag, 0, f, rfl, by omega, hM12, hT, hsv.ext (g11.ext.trans he12), hav, he12.at_ hpb, hag⟩ ?_
      clear hM hT hsv hag hM11 hM12 hpb hav
      rintro g3 s3 w13 ⟨ag, m, f, rfl, hm, hM, hT, hsv, hav, hpb, hag⟩
      rw [nth0, nth1]
      refine lss_i (ifB_i (fun hlt3 => ?_) (fun hlt3 => ?_))
      · have hml : m < (nbrs false (sp W k)).length := by omega
        have hgm := List.getElem?_eq_getElem hml
        have hmem : (nbrs false (sp W k))[m] ∈ nbrs false (sp W k) := List.getElem_mem hml
        generalize (nbrs false (sp W k))[m] = q at hgm hmem
        refine joinS_k fun J hJ => ?_
        have fin : ∀ (ag' : Bool) (f' : Nat → Int) w', HM w w' W H xb ob c rc rv f' → Hts W H num s0 f' → OwnSpots w' sv (tab (W * H) (sp W)) svb → OwnSpots w' av (nbrs false (sp W k)) ab → w'.heap[pb]? = some (row #[i64 (sp W k).1, i64 (sp W k).2] ty_impl_Spot) → ((ag' = false ∧ f' = f0) ∨ (ag' = true ∧ sumT f' (W * H) < sumT f0 (W * H))) → J [.bool ag'] w' := by
          intro ag' f' w' a1 a2 a3 a4 a5 a6
          refine hJ _ _ fun _ => ?_
          refine add_i (.of (by omega) (by omega)) ?_
          rw [nth0]
          exact ⟨⟨ag', m + 1, f', by simp, by omega, a1, a2, a3, a4, a5, a6⟩, by simp only [nth1, intOf]; omega⟩
        clear hJ
        refine spots_ld ⟨rfl, rfl⟩ hav (by omega) (p := q) (by rw [Int.toNat_natCast]; exact hgm) ?_
        refine varS_i (p := q) rfl fun qb w14 g14 => ?_
        have hqb := g14.at_
        refine ldS_i rfl hqb ?_
        refine hasG_c (hg.ext (hM.ext.trans g14.ext)) fun w15 he15 => ?_
        refine not_i ?_
        have he1415 := g14.ext.trans he15
        have hM15 := hM.step he1415
        have hsv15 := hsv.ext he1415
        have hav15 := hav.ext he1415
        have hpb15 := he1415.at_ hpb
        have hqb15 := he15.at_ hqb
        by_cases hin : 0 ≤ q.1 ∧ q.1 < W ∧ 0 ≤ q.2 ∧ q.2 < H
        · rw [decide_eq_true hin, Bool.not_true, ifB_eq, if_neg (by simp)]
          have hinB : inB W H q = true := inB_iff.2 hin
          have hqN := idx2_lt hinB
          have hqs := sp_idx2 hinB
          have hqnear : idx2 W q ∈ near W H k := by
            rw [near_iff hWp]; exact ⟨hqN, by rw [hqs]; exact hmem⟩
          have hd15 := (Same.drew w15).ext
          have hM16 := hM15.step hd15
          have hpb16 := hd15.at_ hpb15
          have hqb16 := hd15.at_ hqb15
          have hsv16 := hsv15.ext hd15
          have hav16 := hav15.ext hd15
          refine drawF_i (fun w' => Ext w15.drew w') (Mod.refl _) ?_
          generalize w15.drew = w16 at hM16 hpb16 hqb16 hsv16 hav16 ⊢
          refine ldS_i rfl hqb16 ?_
          refine rdF_i (v := pairV (sp W k)) (fun w' hw' => ldn_run (n := 2) (by kernel_rfl) (hw'.at_ hpb16) (Nat.le_refl 2)) ?_
          rw [← hqs]
          refine at_sp (hM16.gp ⟨hW, hW2⟩ ⟨hH, hH2⟩) hqN fun w17 he17 => ?_
          refine ⟨he17, ?_⟩
          have hM17 := hM16.step he17
          refine at_sp (hg.ext hM17.ext) hkN fun w18 he18 => ?_
          refine max_i ?_
          have hM18 := hM17.step he18
          have he1618 := he17.trans he18
          refine ldS_i rfl (he1618.at_ hpb16) ?_
          refine at_sp (hM18.gp ⟨hW, hW2⟩ ⟨hH, hH2⟩) hkN fun w19 he19 => ?_
          have he1619 := he1618.trans he19
          have hM19 := hM18.step he19
          refine lss_i (ifB_i (fun hless => ?_) (fun _ => fin ag f w19 hM19 hT (hsv16.ext he1619) (hav16.ext he1619) (he1619.at_ hpb16) hag))
          refine drawS_i ?_
          have hd19 := (Same.drew w19).ext
          have he1620 := he1619.trans hd19
          have hM20 := hM19.step hd19
          have hpb20 := he1620.at_ hpb16
          have hsv20 := hsv16.ext he1620
          have hav20 := hav16.ext he1620
          generalize w19.drew = w20 at hM20 hpb20 hsv20 hav20
          obtain ⟨x, y, hx, hy, hxy⟩ : ∃ x y, x < W ∧ y < H ∧ k = y * W + x := ⟨k % W, k / W, Nat.mod_lt k hWp, Nat.div_lt_of_lt_mul hkN, by rw [Nat.mul_comm]; exact (Nat.div_add_mod k W).symm⟩
          have hpb20' : w20.heap[pb]? = some (row #[i64 (x : Int), i64 (y : Int)] ty_impl_Spot) := by rw [hpb20, hxy, sp_sq hx]
          obtain ⟨us, u, k1, k2, k3, k4⟩ := rr_at hM20.r hinj hx hy
          refine fldi_i (by kernel_rfl) (ld_i (by kernel_rfl) hM20.x rfl ?_)
          refine fldi_i (by kernel_rfl) (ld_i (by kernel_rfl) hpb20' rfl ?_)
          refine sl1_get (E := ty_Sint64) (by kernel_rfl) (by kernel_rfl) k1 (by omega) (by rw [Int.toNat_natCast]; exact k2) ?_
          refine fldi_i (by kernel_rfl) (ld_i (by kernel_rfl) hpb20' rfl ?_)
          refine int_set ⟨rfl, rfl⟩ k3 (by omega) (by rw [tab_len]; omega) fun w21 hm21 hu21 => ?_
          rw [Int.toNat_natCast] at hu21
          have hr21 := k4 _ w21 hm21 hu21
          rw [← hxy] at hr21
          have hM21 := hM20.put k3 (hfr y hy) hm21 hr21
          obtain ⟨cu, qu⟩ := k3.cells
          obtain ⟨c1, q1⟩ := hsv20.row
          obtain ⟨c2, q2⟩ := hav20.row
          have hT21 := hT.put hWp hn hkN hqnear hless
          have hq0 := (hT (idx2 W q) hqN).1
          have hsum := sumT_less (f := f) hkN (x := max (f (idx2 W q)) (num k)) (by omega) hless
          refine fin true _ w21 hM21 hT21 (hsv20.mod hm21 (at_ne q1 qu (by decide))) (hav20.mod hm21 (at_ne q2 qu (by decide))) (hm21.at_ hpb20 (at_ne hpb20 qu (by decide))) (.inr ⟨rfl, ?_⟩)
          rcases hag with ⟨_, rfl⟩ | ⟨_, h⟩
          · exact hsum
          · omega
        · rw [decide_eq_false hin, Bool.not_false, ifB_eq, if_pos rfl]
          exact fin ag f w15 hM15 hT hsv15 hav15 hpb15 hag
      · refine add_i (.of (by omega) (by omega)) ?_
        exact ⟨⟨ag, k + 1, f, by simp, by omega, hM, hT, hsv, hag⟩, by simp only [nth1, intOf]; omega⟩
    · refine hNN _ _ _ ?_ ⟨ag, f, rfl, rfl, hM, hT⟩
      rcases hag with ⟨rfl, rfl⟩ | ⟨rfl, h⟩
      · simp
      · simp; omega
  · refine grey_ld hM.x ?_
    refine grey_put hM.o hrv1 fun w9 hm9 => ?_
    obtain ⟨z, hz⟩ := hM.o
    refine hK rv c rc f0 w9 (hM.ext.own hm9 (by omega)) (hM.r.mod hm9 (fun e => ?_) (fun y hy e => ?_)) hT
    · obtain ⟨us, q1, _⟩ := hM.r
      obtain ⟨cc, qc⟩ := q1.cells
      exact at_ne qc hz (by decide) e
    · rw [rect_len] at hy
      obtain ⟨us, _, _, q3⟩ := hM.r
      obtain ⟨u, _, q5⟩ := q3 y _ (rect_get hy)
      obtain ⟨cc, qc⟩ := q5.cells
      exact at_ne qc hz (by decide) e
end Go.Proofs.Ytfdmphgbodmkpaa
