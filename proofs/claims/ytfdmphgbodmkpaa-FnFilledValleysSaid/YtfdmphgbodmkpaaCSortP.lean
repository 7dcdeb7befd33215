/- Contracts of the library's sort of few pointers, of Contains; a comparison that reads a map of ranks. -/
import Derived.Test.YtfdmphgbodmkpaaCSpread
import Derived.Test.YtfdmphgbodmkpaaPrim10
import Derived.Test.YtfdmphgbodmkpaaPSort
set_option linter.unusedVariables false
set_option linter.unusedSimpArgs false
namespace Go.Proofs.Ytfdmphgbodmkpaa
open Go Go.SL Go.RowKit
set_option maxRecDepth 100000

def PtrSl (w : World) (v : Value) (l : List Nat) (b : Nat) : Prop := Sl1 w ty_Pimpl_valley v (l.map pk) b
theorem PtrSl.mod {S : Nat → Prop} {w w' : World} {v : Value} {l : List Nat} {b : Nat} (h : PtrSl w v l b) (hm : Mod S w w') (hS : ¬ S b) : PtrSl w' v l b := Sl1.mod h hm hS
theorem PtrSl.ext {w w' : World} {v : Value} {l : List Nat} {b : Nat} (h : PtrSl w v l b) (hm : Ext w w') : PtrSl w' v l b := h.mod hm id
theorem ptrs_ld {w : World} {v : Value} {l : List Nat} {b : Nat} {j : Int} {p : Nat} {K : Value → Prop} (h : PtrSl w v l b) (h0 : 0 ≤ j) (hp : l[j.toNat]? = some p) (hK : K (ptr p 0)) :
    pur Pg (Instr.indexAt ty_SPimpl_valley v (i64 j)) fun t => rd Pg (Instr.loadAt ty_Pimpl_valley t) w K :=
  sl1_get (x := pk p) (by kernel_rfl) (by kernel_rfl) h h0 (by rw [List.getElem?_map, hp]; rfl) hK
theorem ptrs_st {w : World} {v : Value} {l : List Nat} {b : Nat} {j : Int} {p : Nat} {K : World → Prop} (h : PtrSl w v l b) (h0 : 0 ≤ j) (hp : j.toNat < l.length) (hK : ∀ w', Mod (· = b) w w' → PtrSl w' v (l.set j.toNat p) b → K w') :
    pur Pg (Instr.indexAt ty_SPimpl_valley v (i64 j)) fun t => effU Pg (Instr.storeAt ty_Pimpl_valley t (ptr p 0)) w K := by
  refine sl1_addr (by kernel_rfl) h h0 (by rw [List.length_map]; exact hp) fun a hst => ?_
  refine hst _ _ _ (by kernel_rfl) rfl fun w' hm h' => hK w' hm ?_
  unfold PtrSl
  rw [List.map_set]
  exact h'
theorem pswap {w : World} {v : Value} {n b i j : Nat} {x y : Int} {f : Nat → Nat} {K : World → Prop} (h : PtrSl w v (tab n f) b) (hx : x = (i : Int)) (hy : y = (j : Int)) (hi : i < n) (hj : j < n)
    (hK : ∀ w', Mod (· = b) w w' → PtrSl w' v (tab n (swp f i j)) b → K w') :
    pur Pg (Instr.indexAt ty_SPimpl_valley v (i64 y)) fun t => rd Pg (Instr.loadAt ty_Pimpl_valley t) w fun u => pur Pg (Instr.indexAt ty_SPimpl_valley v (i64 x)) fun t => rd Pg (Instr.loadAt ty_Pimpl_valley t) w fun u2 =>
    pur Pg (Instr.indexAt ty_SPimpl_valley v (i64 x)) fun t => effU Pg (Instr.storeAt ty_Pimpl_valley t u) w fun w => pur Pg (Instr.indexAt ty_SPimpl_valley v (i64 y)) fun t => effU Pg (Instr.storeAt ty_Pimpl_valley t u2) w K := by
  subst hx hy
  refine ptrs_ld h (by omega) (tab_get hj) ?_
  refine ptrs_ld h (by omega) (tab_get hi) ?_
  refine ptrs_st (p := f j) h (by omega) (by rw [tab_len]; exact hi) fun w1 hm1 h1 => ?_
  rw [Int.toNat_natCast, tab_set] at h1
  refine ptrs_st (p := f i) h1 (by omega) (by rw [tab_len]; exact hj) fun w2 hm2 h2 => ?_
  rw [Int.toNat_natCast, tab_set, swp_eq] at h2
  exact hK w2 (hm1.trans hm2) h2
structure CmpP (w0 : World) (b : Nat) (fv : Value) (key : Nat → Int) (V : Nat → Prop) : Prop where
  run : ∀ x y w1, V x → V y → Mod (· = b) w0 w1 → ∀ K : Value → World → Prop, (∀ (c : Int) w2, Ext w1 w2 → (c < 0 ↔ key x < key y) → K (i64 c) w2) → callV Pg fv #[ptr x 0, ptr y 0] w1 K
section
variable {w0 : World} {b n : Nat} {fv v : Value} {key : Nat → Int} {V : Nat → Prop} {lt bf : Nat → Nat → Prop}
theorem insertP_c {w : World} {f : Nat → Nat} {a e : Nat} {K : Value → World → Prop} (hC : CmpP w0 b fv key V) (hn : n ≤ 1000000) (he : e ≤ n) (hae0 : a ≤ e) (hV : ∀ k, k < n → V (f k)) (h1 : ∀ x y, key x < key y → lt x y) (h2 : ∀ x y, bf x y → key x ≤ key y → lt x y) (ht : ∀ x y z, lt x y → lt y z → lt x z)
    (hbf : ∀ p q, a ≤ p → p < q → q < e → bf (f p) (f q)) (hm : Mod (· = b) w0 w) (h : PtrSl w v (tab n f) b)
    (hK : ∀ f' w', Mod (· = b) w w' → PtrSl w' v (tab n f') b → RP a e f f' → (tab n f').Perm (tab n f) → Srt lt a e f' → K (.tuple #[]) w') :
    callS Pg n_slices_insertionSortCmpFunc_impl_valley #[v, i64 a, i64 e, fv] w K := by
  refine call_slices_insertionSortCmpFunc_impl_valley _ _ _ _ _ _ ?_
  unfold S_slices_insertionSortCmpFunc_impl_valley
  by_cases hae : e ≤ a + 1
  · refine add_i (.of (by omega) (by omega)) ?_
    refine loopS_i (fun s w' => s = [i64 ((a : Int) + 1)] ∧ w' = w) (fun _ _ => 0) ⟨rfl, rfl⟩ ?_
    rintro g s w' ⟨rfl, rfl⟩
    rw [nth0]
    refine lss_i (ifB_i (fun hlt => by omega) (fun hlt => ?_))
    exact hK f w' (Mod.refl _) h (RP.refl _ _ _) (List.Perm.refl _) fun p q p1 p2 p3 => by omega
  refine add_i (.of (by omega) (by omega)) ?_
  refine loopS_i (fun s w' => ∃ (i : Nat) (g : Nat → Nat), s = [i64 i] ∧ a + 1 ≤ i ∧ i ≤ e ∧ Mod (· = b) w w' ∧ PtrSl w' v (tab n g) b ∧ RP a i f g ∧ (tab n g).Perm (tab n f) ∧ Srt lt a i g) (fun s _ => e - (intOf (nth s 0)).toNat)
    ⟨a + 1, f, by simp, by omega, by omega, Mod.refl _, h, RP.refl _ _ _, List.Perm.refl _, fun p q p1 p2 p3 => by omega⟩ ?_
  rintro gg s w1 ⟨i, g, rfl, hi1, hi2, hm1, hg, hrp, hpm, hst⟩
  rw [nth0]
  refine lss_i (ifB_i (fun hlt => ?_) (fun hlt => ?_))
  · have hie : i < e := by omega
    have hgi : g i = f i := hrp.off i (by omega)
    have hbi : ∀ p, a ≤ p → p < i → bf (g p) (f i) := fun p p1 p2 => by
      obtain ⟨p', q1, q2, q3⟩ := hrp.on p p1 p2
      rw [q3]; exact hbf p' i q1 q2 hie
    refine loopS_i (fun s w' => ∃ (j : Nat) (g' : Nat → Nat), s = [i64 j] ∧ Mod (· = b) w w' ∧ PtrSl w' v (tab n g') b ∧ RP a (i + 1) f g' ∧ (tab n g').Perm (tab n f) ∧ Ins lt a i j g' ∧ g' j = f i ∧ (∀ p, a ≤ p → p < j → bf (g' p) (f i))) (fun s _ => (intOf (nth s 0)).toNat)
      ⟨i, g, rfl, hm1, hg, hrp.wide (by omega) (by omega), hpm, Ins.start hst (by omega), hgi, hbi⟩ ?_
    rintro gg2 s2 w2 ⟨j, g', rfl, hm2, hg2, hrp2, hpm2, hins, hgj, hbj⟩
    rw [nth0]
    have hja := hins.lo
    have hji := hins.hi
    refine drawS_i ?_
    have hd := Same.drew w2
    have hm2' : Mod (· = b) w w2.drew := hm2.trans hd.mod
    have hg2' : PtrSl w2.drew v (tab n g') b := hg2.ext hd.ext
    have hV' : ∀ k, k < n → V (g' k) := fun k hk => by
      have : g' k ∈ tab n f := hpm2.mem_iff.1 (mem_tab.2 ⟨k, hk, rfl⟩)
      obtain ⟨k', q1, q2⟩ := mem_tab.1 this
      rw [← q2]; exact hV k' q1
    generalize w2.drew = w3 at hm2' hg2' ⊢
    have fin : ∀ w', Mod (· = b) w w' → PtrSl w' v (tab n g') b → Srt lt a (i + 1) g' → pur Pg (binOp Go.BinOp.add 3 (i64 i) (Go.Value.int Go.IntKind.i64 1)) fun t => (∃ (i : Nat) (g : Nat → Nat), [t] = [i64 i] ∧ a + 1 ≤ i ∧ i ≤ e ∧ Mod (· = b) w w' ∧ PtrSl w' v (tab n g) b ∧ RP a i f g ∧ (tab n g).Perm (tab n f) ∧ Srt lt a i g) ∧ e - (intOf (nth [t] 0)).toNat < e - (intOf (nth [i64 i] 0)).toNat := by
      intro w' k1 k2 k3
      refine add_i (.of (by omega) (by omega)) ?_
      refine ⟨⟨i + 1, g', by simp, by omega, by omega, k1, k2, hrp2, hpm2, k3⟩, ?_⟩
      simp only [nth0, intOf]; omega
    refine gtr_i ?_
    rw [joinS_eq]
    refine ifG_t (fun hgt => ?_) (fun hgt => ?_)
    · have hgt' : a < j := by have := of_decide_eq_true hgt; omega
      have hj0 : (j : Int) - 1 = ((j - 1 : Nat) : Int) := by omega
      refine ptrs_ld hg2' (by omega) (tab_get (i := j) (by omega)) ?_
      refine sub_i (.of (by omega) (by omega)) ?_
      rw [hj0]
      refine ptrs_ld hg2' (by omega) (tab_get (i := j - 1) (by omega)) ?_
      refine hC.run _ _ _ (hV' j (by omega)) (hV' (j - 1) (by omega)) (hm.trans hm2') _ fun c w4 he4 hc => ?_
      refine lss_i ?_
      intro g5
      rw [hgt, pickS_eq, nth0, cond_true]
      have hg4 := hg2'.ext he4
      have hm4 : Mod (· = b) w w4 := hm2'.trans he4.mod
      refine ifB_i (fun hlt2 => ?_) (fun hlt2 => ?_)
      · refine drawS_i ?_
        have hd4 := Same.drew w4
        refine sub_i (.of (by omega) (by omega)) ?_
        refine sub_i (.of (by omega) (by omega)) ?_
        rw [hj0]
        refine pswap (hg4.ext hd4.ext) rfl rfl (by omega) (by omega) fun w5 hm5 hg5 => ?_
        refine sub_i (.of (by omega) (by omega)) ?_
        rw [hj0]
        refine ⟨⟨j - 1, swp g' j (j - 1), rfl, (hm4.trans hd4.mod).trans hm5, hg5, hrp2.trans (RP.swp _ ⟨by omega, by omega⟩ ⟨by omega, by omega⟩), (swp_perm (by omega) (by omega)).trans hpm2, hins.step (by omega) (h1 _ _ (hc.1 hlt2)), ?_, ?_⟩, ?_⟩
        · unfold swp; rw [if_pos rfl]; exact hgj
        · intro p p1 p2
          unfold swp; rw [if_neg (by omega), if_neg (by omega)]; exact hbj p p1 (by omega)
        · simp only [nth0, intOf]; omega
      · refine fin w4 hm4 hg4 (hins.done ht (.inr (h2 _ _ ?_ ?_)))
        · rw [hgj]; exact hbj (j - 1) (by omega) (by omega)
        · exact Int.not_lt.1 fun k => hlt2 (hc.2 k)
    · intro g5
      rw [hgt, pickS_eq, cond_false, ifB_eq, if_neg (by simp)]
      have hgt' : j = a := by have := of_decide_eq_false hgt; omega
      exact fin w3 hm2' hg2' (hins.done ht (.inl hgt'))
  · have : i = e := by omega
    subst this
    exact hK g w1 hm1 hg hrp hpm hst


theorem cvt_i {P : Program} {w : World} {T U : TypeId} {k k' : IntKind} {x : Int} {K : Value → World → Prop} (hT : ∃ d, P.underlying T = some d) (hU : P.underlying U = some (.int k')) (hx : k'.wrap x = x) (hK : K (.int k' x) w) : eff P (convert T U (.int k x)) w K := by
  obtain ⟨d, hT⟩ := hT
  refine eff_i (v := .int k' x) (w' := w) ?_ hK
  unfold Go.convert
  simp only [underlying, Sem.run_bind, run_program, Result.andThen_ok, hT, hU, Sem.run_pure, Conv.intToInt, hx]
theorem idxU8_i {P : Program} {T : Nat} {s : ByteArray} {i : Int} {x : UInt8} {k : IntKind} {K : Value → Prop} (hT : strT P T = true) (h0 : 0 ≤ i) (h1 : s[i.toNat]? = some x) (hK : K (.int .u8 x.toNat)) : pur P (Instr.index T (.string s) (.int k i)) K := by
  have hu := strT_spec hT
  exact pur_i (v := .int .u8 x.toNat) (fun w => by simp [Instr.index, asIntOf, underlying, hu, h0, h1]) hK
theorem len64_c {m : Nat} {w : World} {K : Value → World → Prop} (hm : m ≤ 12) (hK : ∀ r : Nat, K (i64 r) w) : callS Pg n_math_bits_Len64 #[.int .u64 m] w K := by
  refine call_math_bits_Len64 _ _ _ ?_
  unfold S_math_bits_Len64
  rw [joinS_eq]
  refine geq_i (ifB_i (fun h => by omega) (fun h => ?_))
  intro g
  rw [joinS_eq]
  rw [nth0, nth1]
  refine geq_i (ifB_i (fun h => by omega) (fun h => ?_))
  intro g
  rw [joinS_eq, nth0, nth1]
  refine geq_i (ifB_i (fun h => by omega) (fun h => ?_))
  intro g
  rw [nth0, nth1]
  have hw : IntKind.u8.wrap (m : Int) = m := by
    unfold IntKind.wrap
    have : IntKind.u8.signed = false := rfl
    have hb : (2 : Int) ^ IntKind.u8.bits = 256 := by decide
    simp only [this, hb, Bool.false_and, Bool.false_eq_true, if_false]
    omega
  refine cvt_i ⟨_, (by kernel_rfl : Pg.underlying ty_uint64 = some (.int .u64))⟩ (by kernel_rfl) hw ?_
  have key : ∀ x : UInt8, eff Pg (convert ty_uint8 ty_int (.int .u8 x.toNat)) w fun t w => pur Pg (binOp Go.BinOp.add ty_int (i64 0) t) fun t => K t w := fun x => by
    have hx : x.toNat < 256 := x.toNat_lt
    refine cvt_i ⟨_, (by kernel_rfl : Pg.underlying ty_uint8 = some (.int .u8))⟩ (by kernel_rfl) (k' := .i64) ?_ ?_
    · unfold IntKind.wrap
      have hb : (2 : Int) ^ IntKind.i64.bits = 18446744073709551616 := by decide
      have hc : (2 : Int) ^ (IntKind.i64.bits - 1) = 9223372036854775808 := by decide
      simp only [hb, hc]
      rw [show ((x.toNat : Nat) : Int) % 18446744073709551616 = (x.toNat : Int) by omega]
      split
      · rename_i h
        simp only [Bool.and_eq_true, decide_eq_true_eq] at h
        omega
      · rfl
    · refine add_i (.of (by omega) (by omega)) ?_
      rw [Int.zero_add]; exact hK _
  obtain rfl | rfl | rfl | rfl | rfl | rfl | rfl | rfl | rfl | rfl | rfl | rfl | rfl : m = 0 ∨ m = 1 ∨ m = 2 ∨ m = 3 ∨ m = 4 ∨ m = 5 ∨ m = 6 ∨ m = 7 ∨ m = 8 ∨ m = 9 ∨ m = 10 ∨ m = 11 ∨ m = 12 := by omega
  · exact idxU8_i (x := 0) (by kernel_rfl) (by decide) (by kernel_rfl) (key _)
  · exact idxU8_i (x := 1) (by kernel_rfl) (by decide) (by kernel_rfl) (key _)
  · exact idxU8_i (x := 2) (by kernel_rfl) (by decide) (by kernel_rfl) (key _)
  · exact idxU8_i (x := 2) (by kernel_rfl) (by decide) (by kernel_rfl) (key _)
  · exact idxU8_i (x := 3) (by kernel_rfl) (by decide) (by kernel_rfl) (key _)
  · exact idxU8_i (x := 3) (by kernel_rfl) (by decide) (by kernel_rfl) (key _)
  · exact idxU8_i (x := 3) (by kernel_rfl) (by decide) (by kernel_rfl) (key _)
  · exact idxU8_i (x := 3) (by kernel_rfl) (by decide) (by kernel_rfl) (key _)
  · exact idxU8_i (x := 4) (by kernel_rfl) (by decide) (by kernel_rfl) (key _)
  · exact idxU8_i (x := 4) (by kernel_rfl) (by decide) (by kernel_rfl) (key _)
  · exact idxU8_i (x := 4) (by kernel_rfl) (by decide) (by kernel_rfl) (key _)
  · exact idxU8_i (x := 4) (by kernel_rfl) (by decide) (by kernel_rfl) (key _)
  · exact idxU8_i (x := 4) (by kernel_rfl) (by decide) (by kernel_rfl) (key _)
theorem bitsLen_c {m : Nat} {w : World} {K : Value → World → Prop} (hm : m ≤ 12) (hK : ∀ r : Nat, K (i64 r) w) : callS Pg n_math_bits_Len #[.int .u64 m] w K := by
  refine call_math_bits_Len _ _ _ ?_
  unfold S_math_bits_Len
  rw [ifB_eq, if_neg (by simp)]
  exact len64_c hm hK
theorem sortP_c {w : World} {f : Nat → Nat} {K : Value → World → Prop} (hC : CmpP w b fv key V) (hn : n ≤ 12) (h1 : ∀ x y, key x < key y → lt x y) (h2 : ∀ x y, bf x y → key x ≤ key y → lt x y) (ht : ∀ x y z, lt x y → lt y z → lt x z)
    (hV : ∀ k, k < n → V (f k)) (hbf : ∀ p q, p < q → q < n → bf (f p) (f q)) (h : PtrSl w v (tab n f) b)
    (hK : ∀ f' w', Mod (· = b) w w' → PtrSl w' v (tab n f') b → (tab n f').Perm (tab n f) → Srt lt 0 n f' → K (.tuple #[]) w') :
    callS Pg n_slices_SortFunc_impl_valley_impl_valley #[v, fv] w K := by
  refine call_slices_SortFunc_impl_valley_impl_valley _ _ _ _ ?_
  unfold S_slices_SortFunc_impl_valley_impl_valley
  refine sl1_len (by kernel_rfl) h ?_
  rw [List.length_map, tab_len]
  refine cvt_i (k' := .u64) ⟨_, (by kernel_rfl : Pg.underlying ty_int = some (.int .i64))⟩ (by kernel_rfl) ?_ ?_
  · unfold IntKind.wrap
    have : IntKind.u64.signed = false := rfl
    have hb : (2 : Int) ^ IntKind.u64.bits = 18446744073709551616 := by decide
    simp only [this, hb, Bool.false_and, Bool.false_eq_true, if_false]
    omega
  refine bitsLen_c hn fun r => ?_
  refine call_slices_pdqsortCmpFunc_impl_valley _ _ _ _ _ _ _ ?_
  unfold S_slices_pdqsortCmpFunc_impl_valley
  refine loopS_i (fun s w' => s = [i64 (r : Int), i64 0, .bool true, .bool true, i64 (n : Int)] ∧ w' = w) (fun _ _ => 0) ⟨rfl, rfl⟩ ?_
  rintro g s w' ⟨rfl, rfl⟩
  have e4 : nth [i64 (r : Int), i64 0, .bool true, .bool true, i64 (n : Int)] 4 = i64 (n : Int) := rfl
  rw [e4, nth1]
  refine sub_i (.of (by omega) (by omega)) ?_
  refine leq_i (ifB_i (fun hle => ?_) (fun hle => by omega))
  refine insertP_c (a := 0) hC (by omega) (Nat.le_refl _) (by omega) hV h1 h2 ht (fun p q _ p2 p3 => hbf p q p2 p3) (Mod.refl _) h fun f' w2 hm h' hrp hp hs => ?_
  exact hK f' w2 hm h' hp hs

theorem containsP_c {w : World} {l : List Nat} {b p : Nat} {v : Value} {K : Value → World → Prop} (h : PtrSl w v l b) (hl : ∀ x ∈ l, Plain w x) (hp : Plain w p) (hn : l.length ≤ 1000000) (hK : K (.bool (decide (p ∈ l))) w) :
    callS Pg n_slices_Contains_impl_valley_impl_valley #[v, ptr p 0] w K := by
  refine call_slices_Contains_impl_valley_impl_valley _ _ _ _ ?_
  unfold S_slices_Contains_impl_valley_impl_valley
  refine call_slices_Index_impl_valley_impl_valley _ _ _ _ ?_
  unfold S_slices_Index_impl_valley_impl_valley
  refine sl1_len (by kernel_rfl) h ?_
  rw [List.length_map]
  refine loopS_i (fun s w' => ∃ i : Nat, s = [i64 i] ∧ i ≤ l.length ∧ w' = w ∧ p ∉ l.take i) (fun s _ => l.length - (intOf (nth s 0)).toNat) ⟨0, rfl, by omega, rfl, by simp⟩ ?_
  rintro g s w' ⟨i, rfl, hi, rfl, hni⟩
  rw [nth0]
  refine lss_i (ifB_i (fun hlt => ?_) (fun hlt => ?_))
  · have hil : i < l.length := by omega
    refine ptrs_ld (p := l[i]) h (by omega) (by rw [Int.toNat_natCast, List.getElem?_eq_getElem hil]) ?_
    refine eqPtr_i (by kernel_rfl) hp (hl _ (List.getElem_mem hil)) ?_
    refine ifB_i (fun he => ?_) (fun he => ?_)
    · refine geq_i ?_
      have : p ∈ l := by rw [he]; exact List.getElem_mem hil
      rw [decide_eq_true (by omega : (i : Int) ≥ 0), ← decide_eq_true this]; exact hK
    · refine add_i (.of (by omega) (by omega)) ?_
      refine ⟨⟨i + 1, by simp, by omega, rfl, ?_⟩, by simp only [nth0, intOf]; omega⟩
      rw [List.take_succ_eq_append_getElem hil, List.mem_append, List.mem_singleton]
      rintro (h | h)
      · exact hni h
      · exact he h
  · have : i = l.length := by omega
    subst this
    rw [List.take_length] at hni
    refine geq_i ?_
    rw [decide_eq_false (by omega : ¬ ((-1 : Int) ≥ 0)), ← decide_eq_false hni]; exact hK

theorem nanInt_c {x : Int} {w : World} {K : Value → World → Prop} (hK : K (.bool false) w) : callS Pg n_cmp_isNaN_int #[i64 x] w K := by
  refine call_cmp_isNaN_int _ _ _ ?_
  unfold S_cmp_isNaN_int
  refine neq_i ?_
  rw [decide_eq_false (by simp)]; exact hK
theorem nanInt64_c {x : Int} {w : World} {K : Value → World → Prop} (hK : K (.bool false) w) : callS Pg n_cmp_isNaN_int64 #[i64 x] w K := by
  refine call_cmp_isNaN_int64 _ _ _ ?_
  unfold S_cmp_isNaN_int64
  refine neq_i ?_
  rw [decide_eq_false (by simp)]; exact hK
theorem cmpInt_c {x y : Int} {w : World} {K : Value → World → Prop} (hK : ∀ c : Int, (c < 0 ↔ x < y) → K (i64 c) w) : callS Pg n_cmp_Compare_int #[i64 x, i64 y] w K := by
  refine call_cmp_Compare_int _ _ _ _ ?_
  unfold S_cmp_Compare_int
  refine nanInt_c (nanInt_c ?_)
  rw [ifB_eq, if_neg (by simp), ifB_eq, if_neg (by simp)]
  refine lss_i (ifB_i (fun h => hK _ (by omega)) (fun h => ?_))
  exact gtr_i (ifB_i (fun h2 => hK _ (by omega)) (fun h2 => hK _ (by omega)))
theorem cmpInt64_c {x y : Int} {w : World} {K : Value → World → Prop} (hK : ∀ c : Int, (c < 0 ↔ x < y) → K (i64 c) w) : callS Pg n_cmp_Compare_int64 #[i64 x, i64 y] w K := by
  refine call_cmp_Compare_int64 _ _ _ _ ?_
  unfold S_cmp_Compare_int64
  refine nanInt64_c (nanInt64_c ?_)
  rw [ifB_eq, if_neg (by simp), ifB_eq, if_neg (by simp)]
  refine lss_i (ifB_i (fun h => hK _ (by omega)) (fun h => ?_))
  exact gtr_i (ifB_i (fun h2 => hK _ (by omega)) (fun h2 => hK _ (by omega)))
end
end Go.Proofs.Ytfdmphgbodmkpaa
