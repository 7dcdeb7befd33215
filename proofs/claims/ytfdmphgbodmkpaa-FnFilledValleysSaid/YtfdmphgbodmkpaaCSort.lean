/- Contracts of the library's stable sort of spots, by a comparison that reads. -/
import Derived.Test.YtfdmphgbodmkpaaCSpread
import Derived.Test.YtfdmphgbodmkpaaPrim10
import Derived.Test.YtfdmphgbodmkpaaPSort
set_option linter.unusedVariables false
set_option linter.unusedSimpArgs false
namespace Go.Proofs.Ytfdmphgbodmkpaa
open Go Go.SL Go.RowKit
set_option maxRecDepth 100000

def spotE (p : Int × Int) : List Value := [i64 p.1, i64 p.2]
theorem spotE_len (p : Int × Int) : (spotE p).length = 2 := rfl
theorem own_spots {w : World} {v : Value} {l : List (Int × Int)} {b : Nat} : OwnSpots w v l b ↔ Own spotE 2 w ty_impl_Spot v l b := Iff.rfl
theorem spots_ld {w : World} {T1 T2 : TypeId} {v : Value} {l : List (Int × Int)} {b : Nat} {j : Int} {p : Int × Int} {K : Value → Prop} (hT : T1 = ty_Simpl_Spot ∧ T2 = ty_impl_Spot) (h : OwnSpots w v l b) (h0 : 0 ≤ j) (hp : l[j.toNat]? = some p) (hK : K (pairV p)) :
    pur Pg (Instr.indexAt T1 v (i64 j)) fun t => rd Pg (Instr.loadAt T2 t) w K := by
  obtain ⟨rfl, rfl⟩ := hT
  exact own_load (T := ty_Simpl_Spot) rfl spotE_len h h0 hp (by kernel_rfl) hK
theorem spots_st {w : World} {T1 T2 : TypeId} {v : Value} {l : List (Int × Int)} {b : Nat} {j : Int} {p : Int × Int} {K : World → Prop} (hT : T1 = ty_Simpl_Spot ∧ T2 = ty_impl_Spot) (h : OwnSpots w v l b) (h0 : 0 ≤ j) (hp : j.toNat < l.length) (hK : ∀ w', Mod (· = b) w w' → OwnSpots w' v (l.set j.toNat p) b → K w') :
    pur Pg (Instr.indexAt T1 v (i64 j)) fun t => effU Pg (Instr.storeAt T2 t (pairV p)) w K := by
  obtain ⟨rfl, rfl⟩ := hT
  exact own_store (T := ty_Simpl_Spot) (x' := p) rfl spotE_len h h0 hp (by kernel_rfl) (by intro y hy; simp [spotE] at hy; rcases hy with rfl | rfl <;> rfl) hK
/-- The exchange of two elements. -/
theorem sswap {w : World} {T1 T2 : TypeId} {v : Value} {n b i j : Nat} {x y : Int} {f : Nat → Int × Int} {K : World → Prop} (hT : T1 = ty_Simpl_Spot ∧ T2 = ty_impl_Spot) (h : OwnSpots w v (tab n f) b) (hx : x = (i : Int)) (hy : y = (j : Int)) (hi : i < n) (hj : j < n)
    (hK : ∀ w', Mod (· = b) w w' → OwnSpots w' v (tab n (swp f i j)) b → K w') :
    pur Pg (Instr.indexAt T1 v (i64 y)) fun t => rd Pg (Instr.loadAt T2 t) w fun u => pur Pg (Instr.indexAt T1 v (i64 x)) fun t => rd Pg (Instr.loadAt T2 t) w fun u2 =>
    pur Pg (Instr.indexAt T1 v (i64 x)) fun t => effU Pg (Instr.storeAt T2 t u) w fun w => pur Pg (Instr.indexAt T1 v (i64 y)) fun t => effU Pg (Instr.storeAt T2 t u2) w K := by
  subst hx hy
  refine spots_ld hT h (by omega) (tab_get hj) ?_
  refine spots_ld hT h (by omega) (tab_get hi) ?_
  refine spots_st (p := f j) hT h (by omega) (by rw [tab_len]; exact hi) fun w1 hm1 h1 => ?_
  rw [Int.toNat_natCast, tab_set] at h1
  refine spots_st (p := f i) hT h1 (by omega) (by rw [tab_len]; exact hj) fun w2 hm2 h2 => ?_
  rw [Int.toNat_natCast, tab_set, swp_eq] at h2
  exact hK w2 (hm1.trans hm2) h2

/-- A comparison of spots that only reads, in all worlds that have w0's blocks, but for b. -/
structure CmpOk (w0 : World) (b : Nat) (fv : Value) (key : Int × Int → Int) (V : Int × Int → Prop) : Prop where
  run : ∀ x y w1, V x → V y → Mod (· = b) w0 w1 → ∀ K : Value → World → Prop, (∀ (c : Int) w2, Ext w1 w2 → (c < 0 ↔ key x < key y) → K (i64 c) w2) → callV Pg fv #[pairV x, pairV y] w1 K

section
variable {w0 : World} {b n : Nat} {fv v : Value} {key : Int × Int → Int} {V : Int × Int → Prop} {lt bf : Int × Int → Int × Int → Prop}

/-- Asking at two places. -/
theorem ask {w : World} {T1 T2 : TypeId} {i j : Nat} {x y : Int} {f : Nat → Int × Int} {K : Value → World → Prop} (hC : CmpOk w0 b fv key V) (hT : T1 = ty_Simpl_Spot ∧ T2 = ty_impl_Spot) (hm : Mod (· = b) w0 w) (h : OwnSpots w v (tab n f) b) (hV : ∀ k, k < n → V (f k))
    (hx : x = (i : Int)) (hy : y = (j : Int)) (hi : i < n) (hj : j < n) (hK : ∀ (c : Int) w', Ext w w' → (c < 0 ↔ key (f i) < key (f j)) → K (i64 c) w') :
    pur Pg (Instr.indexAt T1 v (i64 x)) fun t => rd Pg (Instr.loadAt T2 t) w fun u => pur Pg (Instr.indexAt T1 v (i64 y)) fun t => rd Pg (Instr.loadAt T2 t) w fun u2 => callV Pg fv #[u, u2] w K := by
  subst hx hy
  refine spots_ld hT h (by omega) (tab_get hi) ?_
  refine spots_ld hT h (by omega) (tab_get hj) ?_
  exact hC.run _ _ _ (hV i hi) (hV j hj) hm _ hK

theorem insertS_c {w : World} {f : Nat → Int × Int} {a e : Nat} {K : Value → World → Prop} (hC : CmpOk w0 b fv key V) (hn : n ≤ 1000000) (he : e ≤ n) (hae0 : a ≤ e) (hV : ∀ k, k < n → V (f k)) (h1 : ∀ x y, key x < key y → lt x y) (h2 : ∀ x y, bf x y → key x ≤ key y → lt x y) (ht : ∀ x y z, lt x y → lt y z → lt x z)
    (hbf : ∀ p q, a ≤ p → p < q → q < e → bf (f p) (f q)) (hm : Mod (· = b) w0 w) (h : OwnSpots w v (tab n f) b)
    (hK : ∀ f' w', Mod (· = b) w w' → OwnSpots w' v (tab n f') b → RP a e f f' → (tab n f').Perm (tab n f) → Srt lt a e f' → K (.tuple #[]) w') :
    callS Pg n_slices_insertionSortCmpFunc_impl_Spot #[v, i64 a, i64 e, fv] w K := by
  refine call_slices_insertionSortCmpFunc_impl_Spot _ _ _ _ _ _ ?_
  unfold S_slices_insertionSortCmpFunc_impl_Spot
  by_cases hae : e ≤ a + 1
  · refine add_i (.of (by omega) (by omega)) ?_
    refine loopS_i (fun s w' => s = [i64 ((a : Int) + 1)] ∧ w' = w) (fun _ _ => 0) ⟨rfl, rfl⟩ ?_
    rintro g s w' ⟨rfl, rfl⟩
    rw [nth0]
    refine lss_i (ifB_i (fun hlt => by omega) (fun hlt => ?_))
    exact hK f w' (Mod.refl _) h (RP.refl _ _ _) (List.Perm.refl _) fun p q p1 p2 p3 => by omega
  refine add_i (.of (by omega) (by omega)) ?_
  refine loopS_i (fun s w' => ∃ (i : Nat) (g : Nat → Int × Int), s = [i64 i] ∧ a + 1 ≤ i ∧ i ≤ e ∧ Mod (· = b) w w' ∧ OwnSpots w' v (tab n g) b ∧ RP a i f g ∧ (tab n g).Perm (tab n f) ∧ Srt lt a i g) (fun s _ => e - (intOf (nth s 0)).toNat)
    ⟨a + 1, f, by simp, by omega, by omega, Mod.refl _, h, RP.refl _ _ _, List.Perm.refl _, fun p q p1 p2 p3 => by omega⟩ ?_
  rintro gg s w1 ⟨i, g, rfl, hi1, hi2, hm1, hg, hrp, hpm, hst⟩
  rw [nth0]
  refine lss_i (ifB_i (fun hlt => ?_) (fun hlt => ?_))
  · have hie : i < e := by omega
    have hgi : g i = f i := hrp.off i (by omega)
    have hbi : ∀ p, a ≤ p → p < i → bf (g p) (f i) := fun p p1 p2 => by
      obtain ⟨p', q1, q2, q3⟩ := hrp.on p p1 p2
      rw [q3]; exact hbf p' i q1 q2 hie
    refine loopS_i (fun s w' => ∃ (j : Nat) (g' : Nat → Int × Int), s = [i64 j] ∧ Mod (· = b) w w' ∧ OwnSpots w' v (tab n g') b ∧ RP a (i + 1) f g' ∧ (tab n g').Perm (tab n f) ∧ Ins lt a i j g' ∧ g' j = f i ∧ (∀ p, a ≤ p → p < j → bf (g' p) (f i))) (fun s _ => (intOf (nth s 0)).toNat)
      ⟨i, g, rfl, hm1, hg, hrp.wide (by omega) (by omega), hpm, Ins.start hst (by omega), hgi, hbi⟩ ?_
    rintro gg2 s2 w2 ⟨j, g', rfl, hm2, hg2, hrp2, hpm2, hins, hgj, hbj⟩
    rw [nth0]
    have hja := hins.lo
    have hji := hins.hi
    refine drawS_i ?_
    have hd := Same.drew w2
    have hm2' : Mod (· = b) w w2.drew := hm2.trans hd.mod
    have hg2' : OwnSpots w2.drew v (tab n g') b := hg2.ext hd.ext
    have hV' : ∀ k, k < n → V (g' k) := fun k hk => by
      have : g' k ∈ tab n f := hpm2.mem_iff.1 (mem_tab.2 ⟨k, hk, rfl⟩)
      obtain ⟨k', q1, q2⟩ := mem_tab.1 this
      rw [← q2]; exact hV k' q1
    generalize w2.drew = w3 at hm2' hg2' ⊢
    have fin : ∀ w', Mod (· = b) w w' → OwnSpots w' v (tab n g') b → Srt lt a (i + 1) g' → pur Pg (binOp Go.BinOp.add 3 (i64 i) (Go.Value.int Go.IntKind.i64 1)) fun t => (∃ (i : Nat) (g : Nat → Int × Int), [t] = [i64 i] ∧ a + 1 ≤ i ∧ i ≤ e ∧ Mod (· = b) w w' ∧ OwnSpots w' v (tab n g) b ∧ RP a i f g ∧ (tab n g).Perm (tab n f) ∧ Srt lt a i g) ∧ e - (intOf (nth [t] 0)).toNat < e - (intOf (nth [i64 i] 0)).toNat := by
      intro w' k1 k2 k3
      refine add_i (.of (by omega) (by omega)) ?_
      refine ⟨⟨i + 1, g', by simp, by omega, by omega, k1, k2, hrp2, hpm2, k3⟩, ?_⟩
      simp only [nth0, intOf]; omega
    refine gtr_i ?_
    rw [joinS_eq]
    refine ifG_t (fun hgt => ?_) (fun hgt => ?_)
    · have hgt' : a < j := by have := of_decide_eq_true hgt; omega
      have hj0 : (j : Int) - 1 = ((j - 1 : Nat) : Int) := by omega
      refine spots_ld ⟨rfl, rfl⟩ hg2' (by omega) (tab_get (i := j) (by omega)) ?_
      refine sub_i (.of (by omega) (by omega)) ?_
      rw [hj0]
      refine spots_ld ⟨rfl, rfl⟩ hg2' (by omega) (tab_get (i := j - 1) (by omega)) ?_
      refine hC.run _ _ _ (hV' j (by omega)) (hV' (j - 1) (by omega)) (hm.trans hm2') _ fun c w4 he4 hc => ?_
      refine lss_i ?_
      intro g5
      rw [hgt, pickS_eq, nth0, cond_true]
      have hg4 := hg2'.ext he4
      have hm4 : Mod (· = b) w w4 := hm2'.trans he4.mod
      refine ifB_i (fun hlt2 => ?_) (fun hlt2 => ?_)
      · refine drawS_i ?_
        have hd4 := Same.drew w4
        refine sub_i (.of (by omega) (by omega)) ?_
        refine sub_i (.of (by omega) (by omega)) ?_
        rw [hj0]
        refine sswap ⟨rfl, rfl⟩ (hg4.ext hd4.ext) rfl rfl (by omega) (by omega) fun w5 hm5 hg5 => ?_
        refine sub_i (.of (by omega) (by omega)) ?_
        rw [hj0]
        refine ⟨⟨j - 1, swp g' j (j - 1), rfl, (hm4.trans hd4.mod).trans hm5, hg5, hrp2.trans (RP.swp _ ⟨by omega, by omega⟩ ⟨by omega, by omega⟩), (swp_perm (by omega) (by omega)).trans hpm2, hins.step (by omega) (h1 _ _ (hc.1 hlt2)), ?_, ?_⟩, ?_⟩
        · unfold swp; rw [if_pos rfl]; exact hgj
        · intro p p1 p2
          unfold swp; rw [if_neg (by omega), if_neg (by omega)]; exact hbj p p1 (by omega)
        · simp only [nth0, intOf]; omega
      · refine fin w4 hm4 hg4 (hins.done ht (.inr (h2 _ _ ?_ ?_)))
        · rw [hgj]; exact hbj (j - 1) (by omega) (by omega)
        · exact Int.not_lt.1 fun k => hlt2 (hc.2 k)
    · intro g5
      rw [hgt, pickS_eq, cond_false, ifB_eq, if_neg (by simp)]
      have hgt' : j = a := by have := of_decide_eq_false hgt; omega
      exact fin w3 hm2' hg2' (hins.done ht (.inl hgt'))
  · have : i = e := by omega
    subst this
    exact hK g w1 hm1 hg hrp hpm hst

theorem swapRange_c {w : World} {f : Nat → Int × Int} {a e m : Nat} {K : Value → World → Prop} (hn : n ≤ 1000000) (ha : a + m ≤ e) (he : e + m ≤ n) (h : OwnSpots w v (tab n f) b)
    (hK : ∀ w', Mod (· = b) w w' → OwnSpots w' v (tab n (exch a e m f)) b → (tab n (exch a e m f)).Perm (tab n f) → K (.tuple #[]) w') :
    callS Pg n_slices_swapRangeCmpFunc_impl_Spot #[v, i64 a, i64 e, i64 m, fv] w K := by
  refine call_slices_swapRangeCmpFunc_impl_Spot _ _ _ _ _ _ _ ?_
  unfold S_slices_swapRangeCmpFunc_impl_Spot
  refine loopS_i (fun s w' => ∃ i : Nat, s = [i64 i] ∧ i ≤ m ∧ Mod (· = b) w w' ∧ OwnSpots w' v (tab n (exch a e i f)) b ∧ (tab n (exch a e i f)).Perm (tab n f)) (fun s _ => m - (intOf (nth s 0)).toNat)
    ⟨0, rfl, by omega, Mod.refl _, by rw [exch_zero]; exact h, by rw [exch_zero]⟩ ?_
  rintro gg s w1 ⟨i, rfl, hi, hm1, h1, hp⟩
  rw [nth0]
  refine lss_i (ifB_i (fun hlt => ?_) (fun hlt => ?_))
  · refine drawS_i ?_
    have hd := Same.drew w1
    refine add_i (.of (by omega) (by omega)) (add_i (.of (by omega) (by omega)) (add_i (.of (by omega) (by omega)) ?_))
    have e1 : ((a : Int) + i) = ((a + i : Nat) : Int) := by omega
    have e2 : ((e : Int) + i) = ((e + i : Nat) : Int) := by omega
    have step : ∀ w', Mod (· = b) w1.drew w' → OwnSpots w' v (tab n (swp (exch a e i f) (a + i) (e + i))) b → pur Pg (binOp Go.BinOp.add 3 (i64 i) (Go.Value.int Go.IntKind.i64 1)) fun t => (∃ i : Nat, [t] = [i64 i] ∧ i ≤ m ∧ Mod (· = b) w w' ∧ OwnSpots w' v (tab n (exch a e i f)) b ∧ (tab n (exch a e i f)).Perm (tab n f)) ∧ m - (intOf (nth [t] 0)).toNat < m - (intOf (nth [i64 i] 0)).toNat := by
      intro w' hm2 h2
      rw [exch_succ _ (by omega)] at h2
      refine add_i (.of (by omega) (by omega)) ?_
      refine ⟨⟨i + 1, by simp, by omega, (hm1.trans hd.mod).trans hm2, h2, ?_⟩, by simp only [nth0, intOf]; omega⟩
      rw [← exch_succ _ (by omega)]
      exact (swp_perm (by omega) (by omega)).trans hp
    rw [e2]
    refine spots_ld ⟨rfl, rfl⟩ (h1.ext hd.ext) (by omega) (tab_get (i := e + i) (by omega)) ?_
    refine add_i (.of (by omega) (by omega)) ?_
    rw [e1]
    refine spots_ld ⟨rfl, rfl⟩ (h1.ext hd.ext) (by omega) (tab_get (i := a + i) (by omega)) ?_
    refine spots_st (p := exch a e i f (e + i)) ⟨rfl, rfl⟩ (h1.ext hd.ext) (by omega) (by rw [tab_len]; omega) fun w2 hm2 h2 => ?_
    rw [Int.toNat_natCast, tab_set] at h2
    refine spots_st (p := exch a e i f (a + i)) ⟨rfl, rfl⟩ h2 (by omega) (by rw [tab_len]; omega) fun w3 hm3 h3 => ?_
    rw [Int.toNat_natCast, tab_set, swp_eq] at h3
    exact step w3 (hm2.trans hm3) h3
  · have : i = m := by omega
    subst this
    exact hK w1 hm1 h1 hp

theorem rotate_c {w : World} {f : Nat → Int × Int} {a m e : Nat} {K : Value → World → Prop} (hn : n ≤ 1000000) (h1 : a < m) (h2 : m < e) (he : e ≤ n) (h : OwnSpots w v (tab n f) b)
    (hK : ∀ w', Mod (· = b) w w' → OwnSpots w' v (tab n (rot a m e f)) b → (tab n (rot a m e f)).Perm (tab n f) → K (.tuple #[]) w') :
    callS Pg n_slices_rotateCmpFunc_impl_Spot #[v, i64 a, i64 m, i64 e, fv] w K := by
  refine call_slices_rotateCmpFunc_impl_Spot _ _ _ _ _ _ _ ?_
  unfold S_slices_rotateCmpFunc_impl_Spot
  refine sub_i (.of (by omega) (by omega)) (sub_i (.of (by omega) (by omega)) ?_)
  refine loopS_i (fun s w' => ∃ (i j : Nat) (g : Nat → Int × Int), s = [i64 i, i64 j] ∧ 1 ≤ i ∧ 1 ≤ j ∧ i ≤ m ∧ m + j ≤ n ∧ Mod (· = b) w w' ∧ OwnSpots w' v (tab n g) b ∧ (tab n g).Perm (tab n f) ∧ rot (m - i) m (m + j) g = rot a m e f) (fun s _ => (intOf (nth s 0)).toNat + (intOf (nth s 1)).toNat)
    ⟨m - a, e - m, f, by rw [Int.ofNat_sub (by omega), Int.ofNat_sub (by omega)], by omega, by omega, by omega, by omega, Mod.refl _, h, List.Perm.refl _, by rw [show m - (m - a) = a by omega, show m + (e - m) = e by omega]⟩ ?_
  rintro gg s w1 ⟨i, j, g, rfl, i1, j1, i2, j2, hm1, hg, hp, hr⟩
  rw [nth0, nth1]
  refine neq_i (ifB_i (fun hne => ?_) (fun heq => ?_))
  · refine gtr_i (ifB_i (fun hgt => ?_) (fun hgt => ?_))
    · refine sub_i (.of (by omega) (by omega)) ?_
      rw [show (m : Int) - i = ((m - i : Nat) : Int) by omega]
      refine swapRange_c hn (by omega) (by omega) hg fun w2 hm2 hg2 hp2 => ?_
      refine sub_i (.of (by omega) (by omega)) ?_
      refine ⟨⟨i - j, j, _, by rw [Int.ofNat_sub (by omega)], by omega, j1, by omega, j2, hm1.trans hm2, hg2, hp2.trans hp, ?_⟩, ?_⟩
      · rw [rot_gt _ (by omega) i2]; exact hr
      · simp only [nth0, nth1, intOf]; omega
    · have hlt : i < j := by omega
      refine sub_i (.of (by omega) (by omega)) (add_i (.of (by omega) (by omega)) (sub_i (.of (by omega) (by omega)) ?_))
      rw [show (m : Int) - i = ((m - i : Nat) : Int) by omega, show (m : Int) + j - i = ((m + j - i : Nat) : Int) by omega]
      refine swapRange_c hn (by omega) (by omega) hg fun w2 hm2 hg2 hp2 => ?_
      refine sub_i (.of (by omega) (by omega)) ?_
      refine ⟨⟨i, j - i, _, by rw [Int.ofNat_sub (by omega)], i1, by omega, i2, by omega, hm1.trans hm2, hg2, hp2.trans hp, ?_⟩, ?_⟩
      · rw [rot_lt _ hlt i2]; exact hr
      · simp only [nth0, nth1, intOf]; omega
  · have : j = i := by omega
    subst this
    refine sub_i (.of (by omega) (by omega)) ?_
    rw [show (m : Int) - j = ((m - j : Nat) : Int) by omega]
    refine swapRange_c hn (by omega) (by omega) hg fun w2 hm2 hg2 hp2 => ?_
    rw [rot_eq _ i2, hr] at hg2 hp2
    exact hK w2 (hm1.trans hm2) hg2 (hp2.trans hp)

theorem undI : Pg.underlying ty_int = some (.int .i64) := by kernel_rfl
theorem undU : Pg.underlying ty_uint = some (.int .u64) := by kernel_rfl
theorem half_c {w : World} {T U : TypeId} {x y : Nat} {K : Value → World → Prop} (hT : T = ty_int ∧ U = ty_uint) (hn : x + y ≤ 1000000000) (hK : K (i64 (((x + y) / 2 : Nat) : Int)) w) :
    pur Pg (binOp Go.BinOp.add T (i64 x) (i64 y)) fun t => eff Pg (convert T U t) w fun t w => pur Pg (binOp Go.BinOp.shr U t (Go.Value.int Go.IntKind.u64 1)) fun t => eff Pg (convert U T t) w K := by
  obtain ⟨rfl, rfl⟩ := hT
  refine add_i (.of (by omega) (by omega)) ?_
  rw [show ((x : Int) + y) = ((x + y : Nat) : Int) by omega]
  exact half_i undI undU (by omega) hK

theorem allV {f g : Nat → Int × Int} (hV : ∀ k, k < n → V (f k)) (hp : (tab n g).Perm (tab n f)) : ∀ k, k < n → V (g k) := fun k hk => by
  obtain ⟨k', q1, q2⟩ := mem_tab.1 (hp.mem_iff.1 (mem_tab.2 ⟨k, hk, rfl⟩))
  rw [← q2]; exact hV k' q1

theorem symMerge_c (hC : CmpOk w0 b fv key V) (hn : n ≤ 1000000) (h1 : ∀ x y, key x < key y → lt x y) (h2 : ∀ x y, bf x y → key x ≤ key y → lt x y) (ht : ∀ x y z, lt x y → lt y z → lt x z) :
    ∀ (d : Nat) {w : World} {f : Nat → Int × Int} {a m e : Nat} {K : Value → World → Prop}, e - a ≤ d → a < m → m < e → e ≤ n → (∀ k, k < n → V (f k)) → Srt lt a m f → Srt lt m e f → (∀ p q, a ≤ p → p < m → m ≤ q → q < e → bf (f p) (f q)) → Mod (· = b) w0 w → OwnSpots w v (tab n f) b →
    (∀ f' w', Mod (· = b) w w' → OwnSpots w' v (tab n f') b → RP a e f f' → (tab n f').Perm (tab n f) → Srt lt a e f' → K (.tuple #[]) w') →
    callS Pg n_slices_symMergeCmpFunc_impl_Spot #[v, i64 a, i64 m, i64 e, fv] w K := by
  intro d
  induction d with
  | zero => intro w f a m e K hd ha hm; omega
  | succ d ih =>
  intro w f a m e K hd ha hme he hV hs1 hs2 hbf hm h hK
  refine call_slices_symMergeCmpFunc_impl_Spot _ _ _ _ _ _ _ ?_
  unfold S_slices_symMergeCmpFunc_impl_Spot
  refine sub_i (.of (by omega) (by omega)) ?_
  refine eql_i (ifB_i (fun hone => ?_) (fun hone => ?_))
  · have hma : m = a + 1 := by omega
    subst hma
    refine loopS_i (fun s w' => ∃ i j : Nat, s = [i64 i, i64 j] ∧ a + 1 ≤ i ∧ i ≤ j ∧ j ≤ e ∧ Ext w w' ∧ (∀ q, a + 1 ≤ q → q < i → lt (f q) (f a)) ∧ (∀ q, j ≤ q → q < e → lt (f a) (f q))) (fun s _ => (intOf (nth s 1)).toNat - (intOf (nth s 0)).toNat)
      ⟨a + 1, e, rfl, by omega, by omega, by omega, Mod.refl _, fun q q1 q2 => by omega, fun q q1 q2 => by omega⟩ ?_
    rintro gg s w1 ⟨i, j, rfl, hi, hij, hj, hE, hlo, hhi⟩
    rw [nth0, nth1]
    refine lss_i (ifB_i (fun hlt => ?_) (fun hlt => ?_))
    · refine half_c ⟨rfl, rfl⟩ (by omega) ?_
      refine drawS_i ?_
      have hd1 := (Same.drew w1).ext
      generalize hh : (i + j) / 2 = k
      refine ask hC ⟨rfl, rfl⟩ (hm.trans (hE.trans hd1).mod) ((h.ext hE).ext hd1) hV rfl rfl (by omega) (by omega) fun c w2 he2 hc => ?_
      have hE2 := (hE.trans hd1).trans he2
      refine lss_i (ifB_i (fun hlt2 => ?_) (fun hlt2 => ?_))
      · have hl := h1 _ _ (hc.1 hlt2)
        refine add_i (.of (by omega) (by omega)) ?_
        refine ⟨⟨k + 1, j, by simp, by omega, by omega, hj, hE2, fun q q1 q2 => ?_, hhi⟩, by simp only [nth0, nth1, intOf]; omega⟩
        by_cases e0 : q = k
        · rw [e0]; exact hl
        · exact ht _ _ _ (hs2 q k q1 (by omega) (by omega)) hl
      · have hl : lt (f a) (f k) := h2 _ _ (hbf a k (by omega) (by omega) (by omega) (by omega)) (Int.not_lt.1 fun z => hlt2 (hc.2 z))
        refine ⟨⟨i, k, rfl, hi, by omega, by omega, hE2, hlo, fun q q1 q2 => ?_⟩, by simp only [nth0, nth1, intOf]; omega⟩
        by_cases e0 : q = k
        · rw [e0]; exact hl
        · exact ht _ _ _ hl (hs2 k q (by omega) (by omega) q2)
    · have : j = i := by omega
      subst this
      refine loopS_i (fun s w' => ∃ k : Nat, s = [i64 k] ∧ a ≤ k ∧ k + 1 ≤ j ∧ Mod (· = b) w w' ∧ OwnSpots w' v (tab n (rot a (a + 1) (k + 1) f)) b ∧ (tab n (rot a (a + 1) (k + 1) f)).Perm (tab n f)) (fun s _ => j - (intOf (nth s 0)).toNat)
        ⟨a, rfl, by omega, by omega, hE.mod, by rw [rot_none _ (.inr rfl) (by omega) (by omega)]; exact h.ext hE, by rw [rot_none _ (.inr rfl) (by omega) (by omega)]⟩ ?_
      rintro gg2 s2 w2 ⟨k, rfl, hk1, hk2, hm2, h3, hp⟩
      rw [nth0]
      refine sub_i (.of (by omega) (by omega)) ?_
      refine lss_i (ifB_i (fun hlt3 => ?_) (fun hlt3 => ?_))
      · refine drawS_i ?_
        have hd1 := Same.drew w2
        refine add_i (.of (by omega) (by omega)) (add_i (.of (by omega) (by omega)) ?_)
        rw [show ((k : Int) + 1) = ((k + 1 : Nat) : Int) by omega]
        refine sswap ⟨rfl, rfl⟩ (h3.ext hd1.ext) rfl rfl (by omega) (by omega) fun w3 hm3 h4 => ?_
        rw [rot_one _ hk1] at h4
        refine add_i (.of (by omega) (by omega)) ?_
        refine ⟨⟨k + 1, by simp, by omega, by omega, (hm2.trans hd1.mod).trans hm3, h4, ?_⟩, by simp only [nth0, intOf]; omega⟩
        rw [← rot_one _ hk1]
        exact (swp_perm (by omega) (by omega)).trans hp
      · have : k + 1 = j := by omega
        rw [this] at h3 hp
        have hcut : Cut lt a (a + 1) e a j f := ⟨by omega, by omega, by omega, by omega, fun z => by omega, fun z _ => hlo (j - 1) (by omega) (by omega)⟩
        refine hK _ w2 hm2 h3 ((RP.rot f (by omega) (by omega)).wide (by omega) (by omega)) hp ?_
        refine Srt.join (m := a + (j - (a + 1))) (hcut.second hs2) (Srt.join (m := j) (hcut.third hs1) (hcut.fourth hs2) fun p q p1 p2 p3 p4 => ?_) (hcut.across ht hs1 hs2)
        unfold rot
        rw [if_neg (by omega), if_pos (by omega), if_neg (by omega), if_neg (by omega), show p - (j - (a + 1)) = a by omega]
        exact hhi q p3 p4
  · refine sub_i (.of (by omega) (by omega)) ?_
    refine eql_i (ifB_i (fun hone2 => ?_) (fun hone2 => ?_))
    · have hme1 : e = m + 1 := by omega
      subst hme1
      refine loopS_i (fun s w' => ∃ i j : Nat, s = [i64 i, i64 j] ∧ a ≤ i ∧ i ≤ j ∧ j ≤ m ∧ Ext w w' ∧ (∀ q, a ≤ q → q < i → lt (f q) (f m)) ∧ (∀ q, j ≤ q → q < m → lt (f m) (f q))) (fun s _ => (intOf (nth s 1)).toNat - (intOf (nth s 0)).toNat)
        ⟨a, m, rfl, by omega, by omega, by omega, Mod.refl _, fun q q1 q2 => by omega, fun q q1 q2 => by omega⟩ ?_
      rintro gg s w1 ⟨i, j, rfl, hi, hij, hj, hE, hlo, hhi⟩
      rw [nth0, nth1]
      refine lss_i (ifB_i (fun hlt => ?_) (fun hlt => ?_))
      · refine half_c ⟨rfl, rfl⟩ (by omega) ?_
        refine drawS_i ?_
        have hd1 := (Same.drew w1).ext
        generalize hh : (i + j) / 2 = k
        refine ask hC ⟨rfl, rfl⟩ (hm.trans (hE.trans hd1).mod) ((h.ext hE).ext hd1) hV rfl rfl (by omega) (by omega) fun c w2 he2 hc => ?_
        have hE2 := (hE.trans hd1).trans he2
        refine lss_i (not_i ?_)
        refine ifB_b (fun hlt2 => ?_) (fun hlt2 => ?_)
        · have hlt2 : ¬ c < 0 := by simpa using hlt2
          have hl : lt (f k) (f m) := h2 _ _ (hbf k m (by omega) (by omega) (by omega) (by omega)) (Int.not_lt.1 fun z => hlt2 (hc.2 z))
          refine add_i (.of (by omega) (by omega)) ?_
          refine ⟨⟨k + 1, j, by simp, by omega, by omega, hj, hE2, fun q q1 q2 => ?_, hhi⟩, by simp only [nth0, nth1, intOf]; omega⟩
          by_cases e0 : q = k
          · rw [e0]; exact hl
          · exact ht _ _ _ (hs1 q k q1 (by omega) (by omega)) hl
        · have hlt2 : c < 0 := by simpa using hlt2
          have hl := h1 _ _ (hc.1 hlt2)
          refine ⟨⟨i, k, rfl, hi, by omega, by omega, hE2, hlo, fun q q1 q2 => ?_⟩, by simp only [nth0, nth1, intOf]; omega⟩
          by_cases e0 : q = k
          · rw [e0]; exact hl
          · exact ht _ _ _ hl (hs1 k q (by omega) (by omega) q2)
      · have : j = i := by omega
        subst this
        refine loopS_i (fun s w' => ∃ k : Nat, s = [i64 k] ∧ j ≤ k ∧ k ≤ m ∧ Mod (· = b) w w' ∧ OwnSpots w' v (tab n (rot k m (m + 1) f)) b ∧ (tab n (rot k m (m + 1) f)).Perm (tab n f)) (fun s _ => (intOf (nth s 0)).toNat)
          ⟨m, rfl, by omega, by omega, hE.mod, by rw [rot_none _ (.inl rfl) (by omega) (by omega)]; exact h.ext hE, by rw [rot_none _ (.inl rfl) (by omega) (by omega)]⟩ ?_
        rintro gg2 s2 w2 ⟨k, rfl, hk1, hk2, hm2, h3, hp⟩
        rw [nth0]
        refine gtr_i (ifB_i (fun hlt3 => ?_) (fun hlt3 => ?_))
        · have hrb : swp (rot k m (m + 1) f) k (k - 1) = rot (k - 1) m (m + 1) f := by
            rcases Nat.eq_or_lt_of_le hk2 with e0 | e0
            · subst e0
              rw [rot_none _ (.inl rfl) (by omega) (by omega)]
              funext z
              unfold swp rot
              by_cases z1 : z = k - 1
              · rw [if_pos z1, if_pos (by omega), show z + (k - (k - 1)) = k by omega]
              · rw [if_neg z1]
                by_cases z2 : z = k
                · rw [if_pos z2, if_neg (by omega), if_pos (by omega), show z - (k + 1 - k) = k - 1 by omega]
                · rw [if_neg z2, if_neg (by omega), if_neg (by omega)]
            · rcases rot_back f e0 with z | z
              · exact z
              · omega
          refine drawS_i ?_
          have hd1 := Same.drew w2
          refine sub_i (.of (by omega) (by omega)) (sub_i (.of (by omega) (by omega)) ?_)
          rw [show ((k : Int) - 1) = ((k - 1 : Nat) : Int) by omega]
          refine sswap ⟨rfl, rfl⟩ (h3.ext hd1.ext) rfl rfl (by omega) (by omega) fun w3 hm3 h4 => ?_
          rw [hrb] at h4
          refine sub_i (.of (by omega) (by omega)) ?_
          refine ⟨⟨k - 1, by rw [show ((k : Int) - 1) = ((k - 1 : Nat) : Int) by omega], by omega, by omega, (hm2.trans hd1.mod).trans hm3, h4, ?_⟩, by simp only [nth0, intOf]; omega⟩
          rw [← hrb]
          exact (swp_perm (by omega) (by omega)).trans hp
        · have : k = j := by omega
          subst this
          have hcut : Cut lt a m (m + 1) k (m + 1) f := ⟨by omega, by omega, by omega, by omega, fun _ z => by omega, fun _ z => hhi k (by omega) z⟩
          refine hK _ w2 hm2 h3 ((RP.rot f (by omega) (by omega)).wide (by omega) (by omega)) hp ?_
          refine Srt.join (m := k + (m + 1 - m)) (Srt.join (m := k) (hcut.first hs1) (hcut.second hs2) fun p q p1 p2 p3 p4 => ?_) (hcut.third hs1) (hcut.across ht hs1 hs2)
          unfold rot
          rw [if_neg (by omega), if_neg (by omega), if_pos (by omega), show q + (m - k) = m by omega]
          exact hlo p p1 p2
    · refine half_c ⟨rfl, rfl⟩ (by omega) ?_
      generalize hmid : (a + e) / 2 = mid
      refine add_i (.of (by omega) (by omega)) ?_
      rw [show ((mid : Int) + m) = ((mid + m : Nat) : Int) by omega]
      refine joinS_k fun J hJ => ?_
      -- the search between two bounds
      have srch : ∀ lo hi : Nat, lo ≤ hi → (m > mid → lo = mid + m - e ∧ hi = mid) → (¬ m > mid → lo = a ∧ hi = m) → J [i64 lo, i64 hi] w := by
        intro lo hi hlh hA hB
        have hbnd : ∀ k, lo ≤ k → k < hi → a ≤ k ∧ k < m ∧ m ≤ mid + m - 1 - k ∧ mid + m - 1 - k < e := by
          intro k k1 k2
          by_cases hg : m > mid
          · obtain ⟨rfl, rfl⟩ := hA hg; omega
          · obtain ⟨rfl, rfl⟩ := hB hg; omega
        refine hJ _ _ fun _ => ?_
        rw [nth0, nth1]
        refine sub_i (.of (by omega) (by omega)) ?_
        refine loopS_i (fun s w' => ∃ i j : Nat, s = [i64 i, i64 j] ∧ lo ≤ i ∧ i ≤ j ∧ j ≤ hi ∧ Ext w w' ∧ (lo < i → lt (f (i - 1)) (f (mid + m - i))) ∧ (j < hi → lt (f (mid + m - 1 - j)) (f j))) (fun s _ => (intOf (nth s 1)).toNat - (intOf (nth s 0)).toNat)
          ⟨lo, hi, rfl, by omega, hlh, by omega, Mod.refl _, fun z => by omega, fun z => by omega⟩ ?_
        rintro gg s w1 ⟨i, j, rfl, hi1, hij, hj1, hE, hx, hy⟩
        rw [nth0, nth1]
        refine lss_i (ifB_i (fun hlt => ?_) (fun hlt => ?_))
        · refine half_c ⟨rfl, rfl⟩ (by omega) ?_
          refine drawS_i ?_
          have hd1 := (Same.drew w1).ext
          generalize hh : (i + j) / 2 = k
          obtain ⟨b1, b2, b3, b4⟩ := hbnd k (by omega) (by omega)
          refine sub_i (.of (by omega) (by omega)) ?_
          refine ask hC ⟨rfl, rfl⟩ (i := mid + m - 1 - k) (hm.trans (hE.trans hd1).mod) ((h.ext hE).ext hd1) hV (by omega) rfl (by omega) (by omega) fun c w2 he2 hc => ?_
          have hE2 := (hE.trans hd1).trans he2
          refine lss_i (not_i ?_)
          refine ifB_b (fun hlt2 => ?_) (fun hlt2 => ?_)
          · have hlt2 : ¬ c < 0 := by simpa using hlt2
            have hl : lt (f k) (f (mid + m - 1 - k)) := h2 _ _ (hbf k _ b1 b2 b3 b4) (Int.not_lt.1 fun z => hlt2 (hc.2 z))
            refine add_i (.of (by omega) (by omega)) ?_
            refine ⟨⟨k + 1, j, by simp, by omega, by omega, hj1, hE2, fun _ => ?_, hy⟩, by simp only [nth0, nth1, intOf]; omega⟩
            rw [Nat.add_sub_cancel, show mid + m - (k + 1) = mid + m - 1 - k by omega]; exact hl
          · have hlt2 : c < 0 := by simpa using hlt2
            exact ⟨⟨i, k, rfl, hi1, by omega, by omega, hE2, hx, fun _ => h1 _ _ (hc.1 hlt2)⟩, by simp only [nth0, nth1, intOf]; omega⟩
        · have : j = i := by omega
          subst this
          have hb1 : a ≤ j ∧ j ≤ m ∧ m ≤ mid + m - j ∧ mid + m - j ≤ e := by
            by_cases hg : m > mid
            · obtain ⟨rfl, rfl⟩ := hA hg; omega
            · obtain ⟨rfl, rfl⟩ := hB hg; omega
          obtain ⟨c1, c2, c3, c4⟩ := hb1
          have hcut : Cut lt a m e j (mid + m - j) f := by
            refine ⟨c1, c2, c3, c4, fun z1 z2 => ?_, fun z1 z2 => ?_⟩
            · refine hx ?_
              by_cases hg : m > mid
              · obtain ⟨rfl, rfl⟩ := hA hg; omega
              · obtain ⟨rfl, rfl⟩ := hB hg; omega
            · rw [show mid + m - j - 1 = mid + m - 1 - j by omega]
              refine hy ?_
              by_cases hg : m > mid
              · obtain ⟨rfl, rfl⟩ := hA hg; omega
              · obtain ⟨rfl, rfl⟩ := hB hg; omega
          generalize hend : mid + m - j = en at hcut c3 c4
          have hmd : j + (en - m) = mid := by omega
          refine sub_i (.of (by omega) (by omega)) ?_
          rw [show ((mid + m : Nat) : Int) - j = (en : Int) by omega]
          -- after the turn
          have hrp1 : RP a e f (rot j m en f) := (RP.rot f c2 c3).wide c1 c4
          have p1 := hcut.first hs1
          have p2 := hcut.second hs2
          have p3 := hcut.third hs1
          have p4 := hcut.fourth hs2
          have p5 := hcut.across ht hs1 hs2
          rw [hmd] at p2 p3 p5
          have sep1 : ∀ p q, a ≤ p → p < j → j ≤ q → q < mid → bf (rot j m en f p) (rot j m en f q) := by
            intro p q q1 q2 q3 q4
            unfold rot
            rw [if_neg (by omega), if_neg (by omega), if_pos (by omega)]
            exact hbf _ _ q1 (by omega) (by omega) (by omega)
          have sep2 : ∀ p q, mid ≤ p → p < en → en ≤ q → q < e → bf (rot j m en f p) (rot j m en f q) := by
            intro p q q1 q2 q3 q4
            unfold rot
            rw [if_neg (by omega), if_pos (by omega), if_neg (by omega), if_neg (by omega)]
            exact hbf _ _ (by omega) (by omega) (by omega) (by omega)
          refine joinS_k fun J2 hJ2 => ?_
          have turned : ∀ w', Mod (· = b) w w' → OwnSpots w' v (tab n (rot j m en f)) b → (tab n (rot j m en f)).Perm (tab n f) → J2 [] w' := by
            intro w' hm2 h3 hp
            refine hJ2 _ _ fun _ => ?_
            clear hJ2
            refine joinS_k fun J3 hJ3 => ?_
            have merged : ∀ f2 w3, Mod (· = b) w w3 → OwnSpots w3 v (tab n f2) b → RP a mid (rot j m en f) f2 → (tab n f2).Perm (tab n f) → Srt lt a mid f2 → J3 [] w3 := by
              intro f2 w3 hm3 h4 hrp2 hp2 hs3
              refine hJ3 _ _ fun _ => ?_
              clear hJ3
              have q3 := hrp2.keep (.inr (Nat.le_refl _)) p3
              have q4 : Srt lt en e f2 := hrp2.keep (.inr (by omega)) p4
              have q5 : ∀ p q, a ≤ p → p < mid → mid ≤ q → q < e → lt (f2 p) (f2 q) := by
                intro p q k1 k2 k3 k4
                rw [hrp2.off q (.inr k3)]
                exact hrp2.all (Q := fun x => lt x (rot j m en f q)) (fun k r1 r2 => p5 k q r1 r2 k3 k4) p k1 k2
              have q6 : ∀ p q, mid ≤ p → p < en → en ≤ q → q < e → bf (f2 p) (f2 q) := by
                intro p q k1 k2 k3 k4
                rw [hrp2.off q (.inr (by omega)), hrp2.off p (.inr (by omega))]
                exact sep2 p q k1 k2 k3 k4
              have hrpa : RP a e f f2 := hrp1.trans (hrp2.wide (by omega) (by omega))
              have fin : ∀ w4, Mod (· = b) w w4 → OwnSpots w4 v (tab n f2) b → Srt lt mid e f2 → K (.tuple #[]) w4 := fun w4 k1 k2 k3 => hK f2 w4 k1 k2 hrpa hp2 (hs3.join k3 q5)
              refine lss_i ?_
              rw [joinS_eq]
              refine ifG_t (fun z1 => ?_) (fun z1 => ?_)
              · refine lss_i ?_
                intro g
                rw [z1, pickS_eq, nth0, cond_true]
                have z1' := of_decide_eq_true z1
                refine ifB_i (fun z2 => ?_) (fun z2 => ?_)
                · refine ih (by omega) (by omega) (by omega) he (allV hV hp2) q3 q4 q6 (hm.trans hm3) h4 fun f3 w4 hm4 h5 hrp3 hp3 hs4 => ?_
                  refine hK f3 w4 (hm3.trans hm4) h5 (hrpa.trans (hrp3.wide (by omega) (Nat.le_refl _))) (hp3.trans hp2) ?_
                  refine Srt.join (hrp3.keep (.inl (Nat.le_refl _)) hs3) hs4 fun p q k1 k2 k3 k4 => ?_
                  rw [hrp3.off p (.inl k2)]
                  exact hrp3.all (Q := fun x => lt (f2 p) x) (fun k r1 r2 => q5 p k k1 k2 r1 r2) q k3 k4
                · have : en = e := by omega
                  subst this
                  exact fin w3 hm3 h4 q3
              · intro g
                rw [z1, pickS_eq, cond_false, ifB_eq, if_neg (by simp)]
                have z1' := of_decide_eq_false z1
                have : en = mid := by omega
                subst this
                exact fin w3 hm3 h4 q4
            refine lss_i ?_
            rw [joinS_eq]
            refine ifG_t (fun z1 => ?_) (fun z1 => ?_)
            · refine lss_i ?_
              intro g
              rw [z1, pickS_eq, nth0, cond_true]
              have z1' := of_decide_eq_true z1
              refine ifB_i (fun z2 => ?_) (fun z2 => ?_)
              · refine ih (by omega) (by omega) (by omega) (by omega) (allV hV hp) p1 p2 sep1 (hm.trans hm2) h3 fun f2 w4 hm4 h5 hrp3 hp3 hs4 => ?_
                exact merged f2 w4 (hm2.trans hm4) h5 hrp3 (hp3.trans hp) hs4
              · have : mid = j := by omega
                refine merged _ w' hm2 h3 (RP.refl _ _ _) hp ?_
                rw [this]; exact p1
            · intro g
              rw [z1, pickS_eq, cond_false, ifB_eq, if_neg (by simp)]
              have z1' := of_decide_eq_false z1
              have : j = a := by omega
              refine merged _ w' hm2 h3 (RP.refl _ _ _) hp ?_
              rw [← this]; exact p2
          refine lss_i ?_
          rw [joinS_eq]
          refine ifG_t (fun z1 => ?_) (fun z1 => ?_)
          · refine lss_i ?_
            intro g
            rw [z1, pickS_eq, nth0, cond_true]
            have z1' := of_decide_eq_true z1
            refine ifB_i (fun z2 => ?_) (fun z2 => ?_)
            · refine rotate_c hn (by omega) (by omega) (by omega) (h.ext hE) fun w2 hm2 h3 hp => ?_
              exact turned w2 (hE.mod.trans hm2) h3 hp
            · have : m = en := by omega
              refine turned w1 hE.mod ?_ ?_
              · rw [rot_none _ (.inr this) c2 c3]; exact h.ext hE
              · rw [rot_none _ (.inr this) c2 c3]
          · intro g
            rw [z1, pickS_eq, cond_false, ifB_eq, if_neg (by simp)]
            have z1' := of_decide_eq_false z1
            have : j = m := by omega
            refine turned w1 hE.mod ?_ ?_
            · rw [rot_none _ (.inl this) c2 c3]; exact h.ext hE
            · rw [rot_none _ (.inl this) c2 c3]
      refine gtr_i (ifB_i (fun hg => ?_) (fun hg => ?_))
      · refine sub_i (.of (by omega) (by omega)) ?_
        rw [show ((mid + m : Nat) : Int) - e = ((mid + m - e : Nat) : Int) by omega]
        exact srch _ _ (by omega) (fun _ => ⟨rfl, rfl⟩) (fun z => by omega)
      · exact srch _ _ (by omega) (fun z => by omega) (fun _ => ⟨rfl, rfl⟩)

def Sep (bf : Int × Int → Int × Int → Prop) (n β : Nat) (g : Nat → Int × Int) : Prop := ∀ p q, p < β → β ≤ q → q < n → bf (g p) (g q)
theorem stable_c {w : World} {f : Nat → Int × Int} {K : Value → World → Prop} (hC : CmpOk w0 b fv key V) (hn : n ≤ 1000000) (h1 : ∀ x y, key x < key y → lt x y) (h2 : ∀ x y, bf x y → key x ≤ key y → lt x y) (ht : ∀ x y z, lt x y → lt y z → lt x z)
    (hV : ∀ k, k < n → V (f k)) (hbf : ∀ p q, p < q → q < n → bf (f p) (f q)) (hm : Mod (· = b) w0 w) (h : OwnSpots w v (tab n f) b)
    (hK : ∀ f' w', Mod (· = b) w w' → OwnSpots w' v (tab n f') b → (tab n f').Perm (tab n f) → Srt lt 0 n f' → K (.tuple #[]) w') :
    callS Pg n_slices_stableCmpFunc_impl_Spot #[v, i64 n, fv] w K := by
  refine call_slices_stableCmpFunc_impl_Spot _ _ _ _ _ ?_
  unfold S_slices_stableCmpFunc_impl_Spot
  refine loopS_i (fun s w' => ∃ (c : Nat) (g : Nat → Int × Int), s = [i64 ((c * 20 : Nat) : Int), i64 ((c * 20 + 20 : Nat) : Int)] ∧ c * 20 ≤ n ∧ Mod (· = b) w w' ∧ OwnSpots w' v (tab n g) b ∧ (tab n g).Perm (tab n f) ∧ (∀ c', c' < c → Srt lt (c' * 20) (c' * 20 + 20) g) ∧ (∀ c', Sep bf n (c' * 20) g) ∧ (∀ k, c * 20 ≤ k → g k = f k)) (fun s _ => n + 40 - (intOf (nth s 1)).toNat)
    ⟨0, f, rfl, by omega, Mod.refl _, h, List.Perm.refl _, fun c' z => by omega, fun c' p q p1 p2 p3 => hbf p q (by omega) p3, fun _ _ => rfl⟩ ?_
  rintro gg s w1 ⟨c, g, rfl, hc, hm1, hg, hp, hs, hsep, hsame⟩
  rw [nth0, nth1]
  have hbf' : ∀ p q, c * 20 ≤ p → p < q → q < n → bf (g p) (g q) := fun p q p1 p2 p3 => by
    rw [hsame p p1, hsame q (by omega)]; exact hbf p q p2 p3
  refine leq_i (ifB_i (fun hle => ?_) (fun hle => ?_))
  · refine insertS_c hC hn (by omega) (by omega) (allV hV hp) h1 h2 ht (fun p q p1 p2 p3 => hbf' p q p1 p2 (by omega)) (hm.trans hm1) hg fun g2 w2 hm2 hg2 hrp hp2 hs2 => ?_
    refine add_i (.of (by omega) (by omega)) ?_
    refine ⟨⟨c + 1, g2, ?_, by omega, hm1.trans hm2, hg2, hp2.trans hp, fun c' z => ?_, fun c' => ?_, fun k z => ?_⟩, by simp only [nth1, intOf]; omega⟩
    · rw [show (c + 1) * 20 = c * 20 + 20 by omega, show (((c * 20 + 20 : Nat) : Int) + 20) = ((c * 20 + 20 + 20 : Nat) : Int) by omega]
    · by_cases e0 : c' = c
      · rw [e0]; exact hs2
      · exact hrp.keep (.inl (by omega)) (hs c' (by omega))
    · exact hrp.apart (by omega) (by omega) (hsep c')
    · rw [hrp.off k (.inr (by omega)), hsame k (by omega)]
  · refine insertS_c hC hn (Nat.le_refl _) hc (allV hV hp) h1 h2 ht (fun p q p1 p2 p3 => hbf' p q p1 p2 p3) (hm.trans hm1) hg fun g2 w2 hm2 hg2 hrp hp2 hs2 => ?_
    refine loopS_i (fun s w' => ∃ (B : Nat) (g : Nat → Int × Int), s = [i64 (B : Int)] ∧ 0 < B ∧ B ≤ 2 * n + 20 ∧ Mod (· = b) w w' ∧ OwnSpots w' v (tab n g) b ∧ (tab n g).Perm (tab n f) ∧ (∀ c, Srt lt (c * B) (min (c * B + B) n) g) ∧ (∀ c, Sep bf n (c * B) g)) (fun s _ => n - (intOf (nth s 0)).toNat)
      ⟨20, g2, rfl, by omega, by omega, hm1.trans hm2, hg2, hp2.trans hp, fun c' => ?_, fun c' => hrp.apart (Nat.le_refl _) (by omega) (hsep c')⟩ ?_
    · by_cases e1 : c' < c
      · exact (hrp.keep (.inl (by omega)) (hs c' e1)).less (by omega)
      · by_cases e0 : c' = c
        · rw [e0]; exact hs2.less (by omega)
        · intro p q p1 p2 p3; omega
    clear hbf' hs hsep hsame hs2 hrp hp2 hg2 hm2 hg hp hm1 hle hc
    clear g2 g w2 w1
    rintro gg2 s2 w1 ⟨B, g, rfl, hB, hB2, hm1, hg, hp, hs, hsep⟩
    rw [nth0]
    refine lss_i (ifB_i (fun hlt => ?_) (fun hlt => ?_))
    · refine mul_i (.of (by omega) (by omega)) ?_
      rw [show (2 * (B : Int)) = ((2 * B : Nat) : Int) by omega]
      refine loopS_i (fun s w' => ∃ (c : Nat) (g : Nat → Int × Int), s = [i64 ((2 * (c * B) : Nat) : Int), i64 ((2 * (c * B) + 2 * B : Nat) : Int)] ∧ 2 * (c * B) ≤ n ∧ Mod (· = b) w w' ∧ OwnSpots w' v (tab n g) b ∧ (tab n g).Perm (tab n f) ∧ (∀ c', c' < c → Srt lt (2 * (c' * B)) (2 * (c' * B) + 2 * B) g) ∧
          (∀ c', 2 * c ≤ c' → Srt lt (c' * B) (min (c' * B + B) n) g) ∧ (∀ c', Sep bf n (2 * (c' * B)) g) ∧ (∀ c', 2 * c ≤ c' → Sep bf n (c' * B) g)) (fun s _ => n + 2 * B - (intOf (nth s 0)).toNat)
        ⟨0, g, by simp, by omega, hm1, hg, hp, fun _ z => by omega, fun c' _ => hs c', fun c' => by have := hsep (2 * c'); rw [Nat.mul_assoc] at this; exact this, fun c' _ => hsep c'⟩ ?_
      clear hs hsep hg hp hm1
      clear g w1
      rintro gg3 s3 w1 ⟨c, g, rfl, hc, hm1, hg, hp, hs, hs', hsep, hsep'⟩
      rw [nth0, nth1]
      have blk := hs' (2 * c) (Nat.le_refl _)
      have blk2 := hs' (2 * c + 1) (by omega)
      have sepm := hsep' (2 * c + 1) (by omega)
      have hcle : ∀ c', c' < c → c' * B + B ≤ c * B := fun c' z => by
        have := Nat.mul_le_mul_right B (show c' + 1 ≤ c from z)
        rw [Nat.add_mul, Nat.one_mul] at this; exact this
      have hcge : ∀ c', c + 1 ≤ c' → c * B + B ≤ c' * B := fun c' z => by
        have := Nat.mul_le_mul_right B z
        rw [Nat.add_mul, Nat.one_mul] at this; exact this
      have hcge2 : ∀ c', 2 * (c + 1) ≤ c' → 2 * (c * B) + 2 * B ≤ c' * B := fun c' z => by
        have := Nat.mul_le_mul_right B z
        rw [Nat.mul_assoc, Nat.add_mul, Nat.one_mul, Nat.mul_add] at this; exact this
      rw [Nat.mul_assoc] at blk
      rw [Nat.add_mul, Nat.one_mul, Nat.mul_assoc] at blk2 sepm
      have hX : (c + 1) * B = c * B + B := by rw [Nat.add_mul, Nat.one_mul]
      generalize c * B = X at hc blk blk2 sepm hcle hcge hcge2 hX ⊢
      refine leq_i (ifB_i (fun hle => ?_) (fun hle => ?_))
      · refine add_i (.of (by omega) (by omega)) ?_
        rw [show ((2 * X : Nat) : Int) + B = ((2 * X + B : Nat) : Int) by omega]
        refine symMerge_c hC hn h1 h2 ht _ (Nat.le_refl _) (by omega) (by omega) (by omega) (allV hV hp) (blk.less (by omega)) (blk2.less (by omega)) (fun p q p1 p2 p3 p4 => sepm p q p2 p3 (by omega)) (hm.trans hm1) hg fun g2 w2 hm2 hg2 hrp hp2 hs2 => ?_
        refine mul_i (.of (by omega) (by omega)) (add_i (.of (by omega) (by omega)) ?_)
        refine ⟨⟨c + 1, g2, ?_, by omega, hm1.trans hm2, hg2, hp2.trans hp, fun c' z => ?_, fun c' z => ?_, fun c' => ?_, fun c' z => ?_⟩, by simp only [nth0, intOf]; omega⟩
        · rw [hX, show 2 * (X + B) = 2 * X + 2 * B by omega, show ((2 * X + 2 * B : Nat) : Int) + 2 * B = ((2 * X + 2 * B + 2 * B : Nat) : Int) by omega]
        · by_cases e0 : c' < c
          · have := hcle c' e0
            exact hrp.keep (.inl (by omega)) (hs c' e0)
          · have : c' = c := by omega
            subst this
            have hX2 : c' * B = X := by rw [Nat.add_mul, Nat.one_mul] at hX; omega
            rw [hX2]; exact hs2
        · have := hcge2 c' z
          exact hrp.keep (.inr (by omega)) (hs' c' (by omega))
        · refine hrp.apart (by omega) ?_ (hsep c')
          by_cases e0 : c + 1 ≤ c'
          · have := hcge c' e0; left; omega
          · right
            by_cases e1 : c' < c
            · have := hcle c' e1; omega
            · have : c' = c := by omega
              subst this
              rw [Nat.add_mul, Nat.one_mul] at hX; omega
        · have := hcge2 c' z
          exact hrp.apart (by omega) (.inl (by omega)) (hsep' c' (by omega))
      · refine joinS_k fun J hJ => ?_
        have fin : ∀ g2 w2, Mod (· = b) w w2 → OwnSpots w2 v (tab n g2) b → RP (2 * X) n g g2 → (tab n g2).Perm (tab n f) → Srt lt (2 * X) n g2 → J [] w2 := by
          intro g2 w2 hm2 hg2 hrp hp2 hs2
          refine hJ _ _ fun _ => ?_
          refine mul_i (.of (by omega) (by omega)) ?_
          refine ⟨⟨2 * B, g2, by rw [show ((B : Int) * 2) = ((2 * B : Nat) : Int) by omega], by omega, by omega, hm2, hg2, hp2, fun c' => ?_, fun c' => ?_⟩, by simp only [nth0, intOf]; omega⟩
          · rw [Nat.mul_left_comm]
            by_cases e1 : c' < c
            · have := hcle c' e1
              exact (hrp.keep (.inl (by omega)) (hs c' e1)).less (by omega)
            · by_cases e2 : c + 1 ≤ c'
              · have := hcge c' e2
                intro p q p1 p2 p3; omega
              · have : c' = c := by omega
                subst this
                have hX2 : c' * B = X := by rw [Nat.add_mul, Nat.one_mul] at hX; omega
                rw [hX2]; exact hs2.less (by omega)
          · rw [Nat.mul_left_comm]
            refine hrp.apart (Nat.le_refl _) ?_ (hsep c')
            by_cases e0 : c + 1 ≤ c'
            · have := hcge c' e0; left; omega
            · right
              by_cases e1 : c' < c
              · have := hcle c' e1; omega
              · have : c' = c := by omega
                subst this
                rw [Nat.add_mul, Nat.one_mul] at hX; omega
        refine add_i (.of (by omega) (by omega)) ?_
        rw [show ((2 * X : Nat) : Int) + B = ((2 * X + B : Nat) : Int) by omega]
        refine lss_i (ifB_i (fun hlt2 => ?_) (fun hlt2 => ?_))
        · refine symMerge_c hC hn h1 h2 ht _ (Nat.le_refl _) (by omega) (by omega) (Nat.le_refl _) (allV hV hp) (blk.less (by omega)) (blk2.less (by omega)) (fun p q p1 p2 p3 p4 => sepm p q p2 p3 (by omega)) (hm.trans hm1) hg fun g2 w2 hm2 hg2 hrp hp2 hs2 => ?_
          exact fin g2 w2 (hm1.trans hm2) hg2 hrp (hp2.trans hp) hs2
        · exact fin g w1 hm1 hg (RP.refl _ _ _) hp (blk.less (by omega))
    · have := hs 0
      rw [Nat.zero_mul, Nat.zero_add] at this
      exact hK g w1 hm1 hg hp (this.less (by omega))
theorem sortStable_c {w : World} {f : Nat → Int × Int} {K : Value → World → Prop} (hC : CmpOk w b fv key V) (hn : n ≤ 1000000) (h1 : ∀ x y, key x < key y → lt x y) (h2 : ∀ x y, bf x y → key x ≤ key y → lt x y) (ht : ∀ x y z, lt x y → lt y z → lt x z)
    (hV : ∀ k, k < n → V (f k)) (hbf : ∀ p q, p < q → q < n → bf (f p) (f q)) (h : OwnSpots w v (tab n f) b)
    (hK : ∀ f' w', Mod (· = b) w w' → OwnSpots w' v (tab n f') b → (tab n f').Perm (tab n f) → Srt lt 0 n f' → K (.tuple #[]) w') :
    callS Pg n_slices_SortStableFunc_impl_Spot_impl_Spot #[v, fv] w K := by
  refine call_slices_SortStableFunc_impl_Spot_impl_Spot _ _ _ _ ?_
  unfold S_slices_SortStableFunc_impl_Spot_impl_Spot
  refine spots_len_i rfl h ?_
  rw [tab_len]
  exact stable_c hC hn h1 h2 ht hV hbf (Mod.refl _) h hK
end
end Go.Proofs.Ytfdmphgbodmkpaa
