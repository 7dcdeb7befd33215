/- Contracts of the laws' helpers on rows of numbers, continued: copies, equality, marks. -/
import Derived.Test.YtfdmphgbodmkpaaCLawG
set_option linter.unusedVariables false
set_option linter.unusedSimpArgs false
namespace Go.Proofs.Ytfdmphgbodmkpaa
open Go Go.SL Go.RowKit
set_option maxRecDepth 100000

theorem toR_c {w : World} {u : Value} {L : List (List Int)} {K : Value → World → Prop} (h : ArgR w u L) (hL : L.length ≤ 1048576) (hl : ∀ l ∈ L, l.length ≤ 1048576)
    (hK : ∀ v b rb w', Ext w w' → Fresh w.heap.size b rb L.length → RR w' v L b rb → K v w') : callS Pg n_laws_toInt64SS #[u] w K := by
  refine call_laws_toInt64SS _ _ _ ?_
  unfold S_laws_toInt64SS
  refine argR_len rfl h ?_
  refine sl1_make (E := ty_Sint64) (.slice none 0 0) (by kernel_rfl) (by kernel_rfl) (by omega) fun v b w1 he1 hb hv => ?_
  refine loopS_i (fun s w' => ∃ (i : Nat) (ru : Nat → Value) (rb : Nat → Nat), s = [i64 i] ∧ i ≤ L.length ∧ Ext w w' ∧ Sl1 w' ty_Sint64 v (tab L.length fun q => if q < i then ru q else .slice none 0 0) b ∧ (∀ y l, y < i → L[y]? = some l → Sl1 w' ty_int64 (ru y) (l.map i64) (rb y)) ∧ Fresh w.heap.size b rb i) (fun s _ => L.length - (intOf (nth s 0)).toNat)
    ⟨0, fun _ => undef, fun _ => 0, rfl, by omega, he1, ?_, fun y l hy => by omega, ⟨hb, fun y hy => by omega, fun y z hy => by omega⟩⟩ ?_
  · have : (tab L.length fun q => if q < 0 then undef else (Value.slice none 0 0)) = List.replicate L.length (.slice none 0 0) := by
      apply List.ext_getElem?
      intro k
      rw [List.getElem?_replicate]
      by_cases hk : k < L.length
      · rw [tab_get hk, if_pos hk]; rfl
      · rw [List.getElem?_eq_none (by rw [tab_len]; omega), if_neg hk]
    rw [this]; exact hv
  clear hv
  rintro g s w2 ⟨i, ru, rb, rfl, hi, hE, hv, hrows, hF⟩
  rw [nth0]
  refine argR_len rfl (h.ext hE) ?_
  refine lss_i (ifB_i (fun hlt => ?_) (fun hlt => ?_))
  · have hil : i < L.length := by omega
    refine argR_get ⟨rfl, rfl⟩ (h.ext hE) hil fun au hau => ?_
    refine toI_c hau (hl _ (List.getElem_mem hil)) fun rv rbk w3 he3 hrbk hrv => ?_
    have hrv1 := hrv.one
    refine sl1_addr (by kernel_rfl) (hv.ext he3) (by omega) (by rw [Int.toNat_natCast, tab_len]; exact hil) fun a hst => ?_
    refine hst _ _ _ (by kernel_rfl) hrv1 fun w4 hm4 hv4 => ?_
    rw [Int.toNat_natCast, tab_set] at hv4
    refine add_i (.of (by omega) (by omega)) ?_
    have z2 := hE.size
    obtain ⟨cv, qv⟩ := (hv.ext he3).cells
    have rne : ∀ {b' : Nat} {u' : Value} {xs : List Value}, Sl1 w3 ty_int64 u' xs b' → b' ≠ b := fun h => by
      obtain ⟨c, q⟩ := h.cells
      exact at_ne q qv (by decide)
    refine ⟨⟨i + 1, upd ru i rv, upd rb i rbk, by simp, by omega, (hE.trans he3).own hm4 hb, ?_, fun y l hy hyl => ?_, ?_⟩, by simp only [nth0, intOf]; omega⟩
    · have : tab L.length (upd (fun q => if q < i then ru q else .slice none 0 0) i rv) = tab L.length fun q => if q < i + 1 then upd ru i rv q else .slice none 0 0 := tab_congr fun q _ => by
        unfold upd
        by_cases e : q = i
        · rw [if_pos e, if_pos (by omega), if_pos e]
        · rw [if_neg e]
          show (if q < i then ru q else .slice none 0 0) = _
          by_cases e2 : q < i
          · rw [if_pos e2, if_pos (by omega), if_neg e]
          · rw [if_neg e2, if_neg (by omega)]
      rw [← this]; exact hv4
    · unfold upd
      by_cases e : y = i
      · subst e
        rw [if_pos rfl, if_pos rfl]
        rw [List.getElem?_eq_getElem hil, Option.some.injEq] at hyl
        subst hyl
        exact hrv.mod hm4 (rne hrv)
      · rw [if_neg e, if_neg e]
        have := (hrows y l (by omega) hyl).ext he3
        exact this.mod hm4 (rne this)
    · refine ⟨hb, fun y hy => ?_, fun y z hy hz => ?_⟩
      · unfold upd; split
        · omega
        · exact hF.r y (by omega)
      · have hlt' : ∀ y, y < i → rb y < w2.heap.size := fun y hy => (hrows y L[y] hy (List.getElem?_eq_getElem (by omega))).lt
        unfold upd
        split <;> split
        · omega
        · intro e; have := hlt' z (by omega); omega
        · intro e; have := hlt' y (by omega); omega
        · exact hF.inj y z (by omega) (by omega)
  · have : i = L.length := by omega
    subst this
    refine hK v b rb w2 hE hF ⟨_, hv, tab_len _ _, fun y l hyl => ?_⟩
    have hy := (List.getElem?_eq_some_iff.1 hyl).1
    exact ⟨ru y, by rw [tab_get hy, if_pos hy], hrows y l hy hyl⟩
theorem toG_c {w : World} {u : Value} {L : List (List Int)} {K : Value → World → Prop} (h : ArgR w u L) (hL : L.length ≤ 1048576) (hl : ∀ l ∈ L, l.length ≤ 1048576)
    (hK : ∀ v b rb w', Ext w w' → Fresh w.heap.size b rb L.length → RR w' v L b rb → K (.agg #[v]) w') : callS Pg n_laws_toGrey #[.agg #[u]] w K := by
  refine call_laws_toGrey _ _ _ ?_
  unfold S_laws_toGrey
  refine box_i fun p w1 h1 => ?_
  refine alloc_i rfl fun rbk w2 h2 => ?_
  refine alloc_i rfl fun ob w3 h3 => ?_
  have hE3 : Ext w w3 := h1.ext.trans (h2.ext.trans h3.ext)
  refine fldi_i (by kernel_rfl) (ld_i (by kernel_rfl) (h3.ext.at_ (h2.ext.at_ h1.at_)) rfl ?_)
  refine toR_c (h.ext hE3) hL hl fun v b rb w4 he4 hF hv => ?_
  refine fldi_i (by kernel_rfl) ?_
  have z1 := h1.ext.size; have z2 := h2.ext.size; have z3 := h3.ext.size
  have o2 := h2.old; have o3 := h3.old
  have l2 := lt_of_at h2.at_; have l3 := lt_of_at h3.at_
  have hv1 := hv.one
  have hob := he4.at_ h3.at_
  refine st_i (by kernel_rfl) hv1 hob (by decide) ?_
  have hm5 := setAt_mod w4 ob (row (((Value.agg #[.slice none 0 0]).cells).setIfInBounds 0 v) ty_impl_Grey)
  have hat := setAt_at w4 (lt_of_at hob) (row (((Value.agg #[.slice none 0 0]).cells).setIfInBounds 0 v) ty_impl_Grey)
  refine ldn_i (n := 1) (vs := #[v]) (by kernel_rfl) hat (Nat.le_refl 1) rfl ?_
  have hrb := hm5.at_ (he4.at_ (h3.ext.at_ h2.at_)) (by omega)
  refine stn_i (n := 1) (by kernel_rfl) (by intro x hx; simp at hx; subst hx; exact hv1) rfl hrb (Nat.le_refl 1) ?_
  have hm6 := setAt_mod (setAt w4 ob (row (((Value.agg #[.slice none 0 0]).cells).setIfInBounds 0 v) ty_impl_Grey)) rbk (row (wr (Value.agg #[.slice none 0 0]).cells 0 [v]) ty_impl_Grey)
  refine resn_i (n := 1) (by kernel_rfl) (setAt_at _ (lt_of_at hrb) _) (Nat.le_refl 1) rfl ?_
  have hE4 := hE3.trans he4
  have hb0 := hF.b
  have zz : w.heap.size ≤ w3.heap.size := hE3.size
  refine hK _ b rb _ ((hE4.own hm5 (by omega)).own hm6 (by omega)) ⟨by omega, fun y hy => by have := hF.r y hy; omega, hF.inj⟩ ((hv.mod hm5 (by omega) fun y hy => by have := hF.r y hy; omega).mod hm6 (by omega) fun y hy => by have := hF.r y hy; omega)

/-! ### Rows or nil -/
def RV (w : World) (v : Value) (L : List (List Int)) (b0 : Nat) (rb : Nat → Nat) : Prop := (v = .slice none 0 0 ∧ L = []) ∨ RR w v L b0 rb
section
variable {w : World} {v : Value} {L : List (List Int)} {b0 : Nat} {rb : Nat → Nat}
theorem RV.mod {S : Nat → Prop} {w' : World} (h : RV w v L b0 rb) (hm : Mod S w w') (h0 : L ≠ [] → ¬ S b0) (h0' : ¬ S b0) (hr : ∀ y, y < L.length → ¬ S (rb y)) : RV w' v L b0 rb := h.imp id fun h => h.mod hm h0' hr
theorem RV.ext {w' : World} (h : RV w v L b0 rb) (hm : Ext w w') : RV w' v L b0 rb := h.imp id fun h => h.ext hm
theorem rv_len {T ty : TypeId} {K : Value → Prop} (hT : T = ty_SSint64) (h : RV w v L b0 rb) (hK : K (i64 L.length)) : rd Pg (Builtin.len_ #[T] ty #[v]) w K := by
  rcases h with ⟨rfl, rfl⟩ | h
  · subst hT; exact lenS_i (T := ty_SSint64) rfl hK
  · exact rr_len hT h hK
theorem rv_row {T1 T2 : TypeId} {y : Int} {l : List Int} {K : Value → Prop} (hT : T1 = ty_SSint64 ∧ T2 = ty_Sint64) (h : RV w v L b0 rb) (h0 : 0 ≤ y) (hy : L[y.toNat]? = some l) (hK : ∀ u, Sl1 w ty_int64 u (l.map i64) (rb y.toNat) → K u) :
    pur Pg (Instr.indexAt T1 v (i64 y)) fun t => rd Pg (Instr.loadAt T2 t) w K := by
  rcases h with ⟨rfl, rfl⟩ | h
  · simp at hy
  · exact rr_row hT h h0 hy hK
end

theorem eqI_c {w : World} {u1 u2 : Value} {l1 l2 : List Int} {b1 b2 : Nat} {K : Value → World → Prop} (h1 : Sl1 w ty_int64 u1 (l1.map i64) b1) (h2 : Sl1 w ty_int64 u2 (l2.map i64) b2) (hl : l1.length ≤ 1000000000) (hl2 : l2.length ≤ 1000000000)
    (hK : ∀ w', Ext w w' → K (.bool (decide (l1 = l2))) w') : callS Pg n_laws_eqInt64S #[u1, u2] w K := by
  refine call_laws_eqInt64S _ _ _ _ ?_
  unfold S_laws_eqInt64S
  have no : l1 ≠ l2 → ∀ w', Ext w w' → K (.bool false) w' := fun h w' he => by have := hK w' he; rw [decide_eq_false h] at this; exact this
  refine int_len rfl h1 (int_len rfl h2 ?_)
  refine neq_i (ifB_i (fun hne => ?_) (fun hne => ?_))
  · exact no (fun e => hne (by rw [e])) w (Mod.refl _)
  · have hlen : l1.length = l2.length := by omega
    refine loopS_i (fun s w' => ∃ i : Nat, s = [i64 i] ∧ i ≤ l1.length ∧ Ext w w' ∧ l1.take i = l2.take i) (fun s _ => l1.length - (intOf (nth s 0)).toNat) ⟨0, rfl, by omega, Mod.refl _, rfl⟩ ?_
    rintro g s w2 ⟨i, rfl, hi, hE, hd⟩
    rw [nth0]
    refine int_len rfl (h1.ext hE) ?_
    refine lss_i (ifB_i (fun hlt => ?_) (fun hlt => ?_))
    · have hil : i < l1.length := by omega
      refine drawS_i ?_
      have hE2 := hE.trans (Same.drew w2).ext
      refine int_get ⟨rfl, rfl⟩ (h1.ext hE2) (by omega) (n := l1[i]) (by rw [Int.toNat_natCast, List.getElem?_eq_getElem hil]) ?_
      refine int_get ⟨rfl, rfl⟩ (h2.ext hE2) (by omega) (n := l2[i]) (by rw [Int.toNat_natCast, List.getElem?_eq_getElem (by omega)]) ?_
      refine neq_i (ifB_i (fun hx => ?_) (fun hx => ?_))
      · exact no (fun e => hx (by subst e; rfl)) _ hE2
      · refine add_i (.of (by omega) (by omega)) ?_
        refine ⟨⟨i + 1, by simp, by omega, hE2, ?_⟩, by simp only [nth0, intOf]; omega⟩
        rw [List.take_succ_eq_append_getElem hil, List.take_succ_eq_append_getElem (by omega), hd, Decidable.not_not.1 hx]
    · have : i = l1.length := by omega
      subst this
      rw [List.take_length, hlen, List.take_length] at hd
      have := hK w2 hE
      rw [decide_eq_true hd] at this; exact this
theorem eqR_c {w : World} {v1 v2 : Value} {L1 L2 : List (List Int)} {b1 b2 : Nat} {r1 r2 : Nat → Nat} {K : Value → World → Prop} (h1 : RV w v1 L1 b1 r1) (h2 : RV w v2 L2 b2 r2) (hL1 : L1.length ≤ 1000000000) (hL2 : L2.length ≤ 1000000000) (hl1 : ∀ l ∈ L1, l.length ≤ 1000000000) (hl2 : ∀ l ∈ L2, l.length ≤ 1000000000)
    (hK : ∀ w', Ext w w' → K (.bool (decide (L1 = L2))) w') : callS Pg n_laws_eqInt64SS #[v1, v2] w K := by
  refine call_laws_eqInt64SS _ _ _ _ ?_
  unfold S_laws_eqInt64SS
  have no : L1 ≠ L2 → ∀ w', Ext w w' → K (.bool false) w' := fun h w' he => by have := hK w' he; rw [decide_eq_false h] at this; exact this
  refine rv_len rfl h1 (rv_len rfl h2 ?_)
  refine neq_i (ifB_i (fun hne => ?_) (fun hne => ?_))
  · exact no (fun e => hne (by rw [e])) w (Mod.refl _)
  · have hlen : L1.length = L2.length := by omega
    refine loopS_i (fun s w' => ∃ i : Nat, s = [i64 i] ∧ i ≤ L1.length ∧ Ext w w' ∧ L1.take i = L2.take i) (fun s _ => L1.length - (intOf (nth s 0)).toNat) ⟨0, rfl, by omega, Mod.refl _, rfl⟩ ?_
    rintro g s w2 ⟨i, rfl, hi, hE, hd⟩
    rw [nth0]
    refine rv_len rfl (h1.ext hE) ?_
    refine lss_i (ifB_i (fun hlt => ?_) (fun hlt => ?_))
    · have hil : i < L1.length := by omega
      refine drawS_i ?_
      have hE2 := hE.trans (Same.drew w2).ext
      refine rv_row ⟨rfl, rfl⟩ (h1.ext hE2) (by omega) (l := L1[i]) (by rw [Int.toNat_natCast, List.getElem?_eq_getElem hil]) fun u1 hu1 => ?_
      refine rv_row ⟨rfl, rfl⟩ (h2.ext hE2) (by omega) (l := L2[i]) (by rw [Int.toNat_natCast, List.getElem?_eq_getElem (by omega)]) fun u2 hu2 => ?_
      refine eqI_c hu1 hu2 (hl1 _ (List.getElem_mem hil)) (hl2 _ (List.getElem_mem (by omega))) fun w3 he3 => ?_
      refine not_i ?_
      by_cases hx : L1[i] = L2[i]
      · rw [decide_eq_true hx, Bool.not_true, ifB_eq, if_neg (by simp)]
        refine add_i (.of (by omega) (by omega)) ?_
        refine ⟨⟨i + 1, by simp, by omega, hE2.trans he3, ?_⟩, by simp only [nth0, intOf]; omega⟩
        rw [List.take_succ_eq_append_getElem hil, List.take_succ_eq_append_getElem (by omega), hd, hx]
      · rw [decide_eq_false hx, Bool.not_false, ifB_eq, if_pos rfl]
        exact no (fun e => hx (by subst e; rfl)) _ (hE2.trans he3)
    · have : i = L1.length := by omega
      subst this
      rw [List.take_length, hlen, List.take_length] at hd
      have := hK w2 hE
      rw [decide_eq_true hd] at this; exact this
theorem eqG_c {w : World} {v1 v2 : Value} {L1 L2 : List (List Int)} {b1 b2 : Nat} {r1 r2 : Nat → Nat} {K : Value → World → Prop} (h1 : RV w v1 L1 b1 r1) (h2 : RV w v2 L2 b2 r2) (hL1 : L1.length ≤ 1000000000) (hL2 : L2.length ≤ 1000000000) (hl1 : ∀ l ∈ L1, l.length ≤ 1000000000) (hl2 : ∀ l ∈ L2, l.length ≤ 1000000000)
    (hK : ∀ w', Ext w w' → K (.bool (decide (L1 = L2))) w') : callS Pg n_laws_eqGrey #[.agg #[v1], .agg #[v2]] w K := by
  refine call_laws_eqGrey _ _ _ _ ?_
  unfold S_laws_eqGrey
  refine box_i fun p w1 h3 => ?_
  refine box_i fun q w2 h4 => ?_
  have hE := h3.ext.trans h4.ext
  refine fldi_i (by kernel_rfl) (ld_i (by kernel_rfl) (h4.ext.at_ h3.at_) rfl ?_)
  refine fldi_i (by kernel_rfl) (ld_i (by kernel_rfl) h4.at_ rfl ?_)
  refine eqR_c (h1.ext hE) (h2.ext hE) hL1 hL2 hl1 hl2 fun w3 he3 => ?_
  refine not_i ?_
  have := hK w3 (hE.trans he3)
  by_cases hx : L1 = L2
  · rw [decide_eq_true hx] at this ⊢
    rw [Bool.not_true, ifB_eq, if_neg (by simp)]; exact this
  · rw [decide_eq_false hx] at this ⊢
    rw [Bool.not_false, ifB_eq, if_pos rfl]; exact this

/-! ### Marks -/
def total (L : List (List Int)) : Nat := (L.map List.length).sum
theorem total_snoc (L : List (List Int)) (l : List Int) : total (L ++ [l]) = total L + l.length := by simp [total]
def markL : Int → List (List Int) → List (List Int)
  | _, [] => []
  | k, l :: L => (tab l.length fun i => k + (i : Int)) :: markL (k + l.length) L
theorem markL_len : ∀ (L : List (List Int)) (k : Int), (markL k L).length = L.length
  | [], _ => rfl
  | l :: L, k => by simp [markL, markL_len L]
theorem markL_get : ∀ {L : List (List Int)} {k : Int} {y : Nat} {l : List Int}, L[y]? = some l → (markL k L)[y]? = some (tab l.length fun i => k + (total (L.take y) : Int) + (i : Int))
  | [], _, _, _, h => by simp at h
  | l0 :: L, k, 0, l, h => by
    simp only [List.getElem?_cons_zero, Option.some.injEq] at h
    subst h
    simp [markL, total]
  | l0 :: L, k, y + 1, l, h => by
    have h' : L[y]? = some l := by simpa using h
    have := markL_get (k := k + l0.length) h'
    simp only [markL, List.getElem?_cons_succ, this, List.take_succ_cons, Option.some.injEq]
    refine tab_congr fun i _ => ?_
    simp only [total, List.map_cons, List.sum_cons]
    omega
theorem total_le : ∀ {L : List (List Int)} {y : Nat}, total (L.take y) ≤ total L
  | [], y => by simp [total]
  | l :: L, 0 => by simp [total]
  | l :: L, y + 1 => by
    have := total_le (L := L) (y := y)
    simp only [List.take_succ_cons, total, List.map_cons, List.sum_cons] at this ⊢
    omega
theorem total_step {L : List (List Int)} {y : Nat} {l : List Int} (h : L[y]? = some l) : total (L.take (y + 1)) = total (L.take y) + l.length := by
  have hy := (List.getElem?_eq_some_iff.1 h).1
  rw [List.take_succ_eq_append_getElem hy, total_snoc]
  rw [List.getElem?_eq_getElem hy, Option.some.injEq] at h
  rw [h]

theorem markI_c {w : World} {u : Value} {l : List Int} {b : Nat} {k : Int} {K : Value → World → Prop} (h : Sl1 w ty_int64 u (l.map i64) b) (hl : l.length ≤ 1000000000) (hk : 0 ≤ k ∧ k ≤ 1000000000000000)
    (hK : ∀ w', Mod (· = b) w w' → Sl1 w' ty_int64 u ((tab l.length fun i => k + (i : Int)).map i64) b → K (i64 (k + l.length)) w') : callS Pg n_laws_markInt64S #[u, i64 k] w K := by
  refine call_laws_markInt64S _ _ _ _ ?_
  unfold S_laws_markInt64S
  refine loopS_i (fun s w' => ∃ i : Nat, s = [i64 (k + (i : Int)), i64 i] ∧ i ≤ l.length ∧ Mod (· = b) w w' ∧ Sl1 w' ty_int64 u ((tab l.length fun q => if q < i then k + (q : Int) else l.getD q 0).map i64) b) (fun s _ => l.length - (intOf (nth s 1)).toNat) ⟨0, by simp, by omega, Mod.refl _, ?_⟩ ?_
  · have e := tab_of l (0 : Int)
    have : (tab l.length fun q => if q < 0 then k + (q : Int) else l.getD q 0) = l := by
      rw [e, tab_len]
      exact tab_congr fun q hq => by rw [if_neg (by omega), ← e]
    rw [this]; exact h
  rintro g s w2 ⟨i, rfl, hi, hm, hv⟩
  rw [nth0, nth1]
  refine int_len rfl hv ?_
  rw [tab_len]
  refine lss_i (ifB_i (fun hlt => ?_) (fun hlt => ?_))
  · have hil : i < l.length := by omega
    refine int_set ⟨rfl, rfl⟩ hv (by omega) (by rw [Int.toNat_natCast, tab_len]; exact hil) fun w3 hm3 hv3 => ?_
    rw [Int.toNat_natCast, tab_set] at hv3
    refine add_i (.of (by omega) (by omega)) (add_i (.of (by omega) (by omega)) ?_)
    refine ⟨⟨i + 1, by rw [show k + (i : Int) + 1 = k + ((i + 1 : Nat) : Int) by omega, show ((i : Int) + 1) = ((i + 1 : Nat) : Int) by omega], by omega, hm.trans hm3, ?_⟩, by simp only [nth1, intOf]; omega⟩
    have : tab l.length (upd (fun q => if q < i then k + (q : Int) else l.getD q 0) i (k + (i : Int))) = tab l.length fun q => if q < i + 1 then k + (q : Int) else l.getD q 0 := tab_congr fun q _ => by
      unfold upd
      by_cases e : q = i
      · subst e; rw [if_pos rfl, if_pos (by omega)]
      · rw [if_neg e]
        show (if q < i then k + (q : Int) else l.getD q 0) = _
        by_cases e2 : q < i
        · rw [if_pos e2, if_pos (by omega)]
        · rw [if_neg e2, if_neg (by omega)]
    rw [← this]; exact hv3
  · have : i = l.length := by omega
    subst this
    refine hK w2 hm ?_
    have : (tab l.length fun q => if q < l.length then k + (q : Int) else l.getD q 0) = tab l.length fun i => k + (i : Int) := tab_congr fun q hq => by rw [if_pos hq]
    rw [this] at hv; exact hv
theorem markR_c {w : World} {v : Value} {L : List (List Int)} {b0 : Nat} {rb : Nat → Nat} {K : Value → World → Prop} (h : RV w v L b0 rb) (hinj : ∀ y z, y < L.length → z < L.length → rb y = rb z → y = z) (hL : L.length ≤ 1048576) (hl : ∀ l ∈ L, l.length ≤ 1048576)
    (hK : ∀ w', Mod (fun b => ∃ y, y < L.length ∧ b = rb y) w w' → RV w' v (markL 1 L) b0 rb → K (i64 (1 + total L)) w') : callS Pg n_laws_markInt64SS #[v, i64 1] w K := by
  refine call_laws_markInt64SS _ _ _ _ ?_
  unfold S_laws_markInt64SS
  have htot : ∀ y, total (L.take y) ≤ y * 1048576 := fun y => by
    have : ∀ (L : List (List Int)), (∀ l ∈ L, l.length ≤ 1048576) → total L ≤ L.length * 1048576 := by
      intro L
      induction L with
      | nil => intro _; simp [total]
      | cons l L ih =>
        intro h
        have h1 := ih fun l' hl' => h l' (List.mem_cons_of_mem _ hl')
        have h2 := h l (List.mem_cons_self ..)
        simp only [total, List.map_cons, List.sum_cons, List.length_cons] at h1 ⊢
        omega
    have h1 := this (L.take y) fun l hl' => hl l (List.mem_of_mem_take hl')
    have h2 : (L.take y).length ≤ y := by rw [List.length_take]; omega
    exact Nat.le_trans h1 (Nat.mul_le_mul_right _ h2)
  rcases h with ⟨rfl, rfl⟩ | h
  · refine loopS_i (fun s w' => s = [i64 1, i64 0] ∧ w' = w) (fun _ _ => 0) ⟨rfl, rfl⟩ ?_
    rintro g s w' ⟨rfl, rfl⟩
    rw [nth0, nth1]
    refine lenS_i (T := ty_SSint64) rfl ?_
    refine lss_i (ifB_i (fun hlt => by simp at hlt) (fun hlt => ?_))
    exact hK w' (Mod.refl _) (.inl ⟨rfl, rfl⟩)
  refine loopS_i (fun s w' => ∃ y : Nat, s = [i64 (1 + (total (L.take y) : Int)), i64 y] ∧ y ≤ L.length ∧ Mod (fun b => ∃ y, y < L.length ∧ b = rb y) w w' ∧ RR w' v ((markL 1 L).take y ++ L.drop y) b0 rb) (fun s _ => L.length - (intOf (nth s 1)).toNat) ⟨0, by simp [total], by omega, Mod.refl _, by simpa using h⟩ ?_
  rintro g s w2 ⟨y, rfl, hy, hm, hv⟩
  rw [nth0, nth1]
  have hml := markL_len L 1
  have hlen : ((markL 1 L).take y ++ L.drop y).length = L.length := by rw [List.length_append, List.length_take, List.length_drop, hml]; omega
  refine rr_len rfl hv ?_
  rw [hlen]
  refine lss_i (ifB_i (fun hlt => ?_) (fun hlt => ?_))
  · have hyl : y < L.length := by omega
    have hgy := List.getElem?_eq_getElem hyl
    have hmy : L[y] ∈ L := List.getElem_mem hyl
    have hdrop : L.drop y = L[y] :: L.drop (y + 1) := List.drop_eq_getElem_cons hyl
    have hmg := markL_get (k := 1) hgy
    have hst := total_step hgy
    generalize L[y] = l at hgy hmy hmg hst hdrop
    have htl : ((markL 1 L).take y).length = y := by rw [List.length_take, hml]; omega
    have hcur : ((markL 1 L).take y ++ L.drop y)[y]? = some l := by
      rw [List.getElem?_append_right (by omega), htl, Nat.sub_self, hdrop]; rfl
    obtain ⟨us, q1, q2, q3⟩ := hv
    obtain ⟨u, k1, k2⟩ := q3 y l hcur
    have hne : ∀ z, z < L.length → b0 ≠ rb z := fun z hz => RR.ne ⟨us, q1, q2, q3⟩ (by rw [hlen]; exact hz)
    refine sl1_get (x := u) (by kernel_rfl) (by kernel_rfl) q1 (by omega) (by rw [Int.toNat_natCast]; exact k1) ?_
    have hty := htot y
    have hty2 : y * 1048576 ≤ 1048576 * 1048576 := Nat.mul_le_mul_right _ (by omega)
    refine markI_c k2 (by have := hl l hmy; omega) ⟨by omega, by omega⟩ fun w3 hm3 hv3 => ?_
    have hll := hl l hmy
    refine add_i (.of (by omega) (by omega)) ?_
    refine ⟨⟨y + 1, by rw [hst, show 1 + (total (L.take y) : Int) + l.length = 1 + ((total (L.take y) + l.length : Nat) : Int) by omega, show ((y : Int) + 1) = ((y + 1 : Nat) : Int) by omega], by omega, hm.trans (hm3.mono fun k _ e => ⟨y, hyl, e⟩), ?_⟩, by simp only [nth1, intOf]; omega⟩
    refine ⟨us, q1.mod hm3 (hne y hyl), ?_, fun z l' hz => ?_⟩
    · rw [q2, hlen, List.length_append, List.length_take, List.length_drop, hml]; omega
    · have htl' : ((markL 1 L).take (y + 1)).length = y + 1 := by rw [List.length_take, hml]; omega
      by_cases e : z = y
      · subst e
        rw [List.getElem?_append_left (by omega), List.getElem?_take, if_pos (by omega), hmg, Option.some.injEq] at hz
        subst hz
        exact ⟨u, k1, hv3⟩
      · have hz' : ((markL 1 L).take y ++ L.drop y)[z]? = some l' := by
          by_cases e2 : z < y
          · rw [List.getElem?_append_left (by omega), List.getElem?_take, if_pos (by omega)] at hz
            rw [List.getElem?_append_left (by omega), List.getElem?_take, if_pos e2]; exact hz
          · rw [List.getElem?_append_right (by omega), htl', List.getElem?_drop] at hz
            rw [List.getElem?_append_right (by omega), htl, List.getElem?_drop]
            rw [show y + 1 + (z - (y + 1)) = y + (z - y) by omega] at hz
            exact hz
        obtain ⟨u', j1, j2⟩ := q3 z l' hz'
        have hzl : z < L.length := by
          have := (List.getElem?_eq_some_iff.1 hz').1
          rw [hlen] at this; exact this
        exact ⟨u', j1, j2.mod hm3 fun e3 => e (hinj z y hzl hyl e3)⟩
  · have : y = L.length := by omega
    subst this
    rw [List.drop_length, List.append_nil, List.take_of_length_le (by rw [hml]; exact Nat.le_refl _)] at hv
    rw [List.take_length]
    exact hK w2 hm (.inr hv)

theorem heldI_c {w : World} {u : Value} {n b : Nat} {k : Int} {K : Value → World → Prop} (h : Sl1 w ty_int64 u ((tab n fun i => k + (i : Int)).map i64) b) (hl : n ≤ 1000000000) (hk : 0 ≤ k ∧ k ≤ 1000000000000000) (hK : K (i64 (k + n)) w) : callS Pg n_laws_heldInt64S #[u, i64 k] w K := by
  refine call_laws_heldInt64S _ _ _ _ ?_
  unfold S_laws_heldInt64S
  refine loopS_i (fun s w' => ∃ i : Nat, s = [i64 (k + (i : Int)), i64 i] ∧ i ≤ n ∧ w' = w) (fun s _ => n - (intOf (nth s 1)).toNat) ⟨0, by simp, by omega, rfl⟩ ?_
  rintro g s w2 ⟨i, rfl, hi, rfl⟩
  rw [nth0, nth1]
  refine int_len rfl h ?_
  rw [tab_len]
  refine lss_i (ifB_i (fun hlt => ?_) (fun hlt => ?_))
  · refine int_get ⟨rfl, rfl⟩ h (by omega) (tab_get (i := i) (by omega)) ?_
    refine neq_i (ifB_i (fun hne => absurd rfl hne) (fun _ => ?_))
    refine add_i (.of (by omega) (by omega)) (add_i (.of (by omega) (by omega)) ?_)
    exact ⟨⟨i + 1, by rw [show k + (i : Int) + 1 = k + ((i + 1 : Nat) : Int) by omega, show ((i : Int) + 1) = ((i + 1 : Nat) : Int) by omega], by omega, rfl⟩, by simp only [nth1, intOf]; omega⟩
  · have : i = n := by omega
    subst this
    exact hK
theorem heldR_c {w : World} {v : Value} {L : List (List Int)} {b0 : Nat} {rb : Nat → Nat} {K : Value → World → Prop} (h : RV w v (markL 1 L) b0 rb) (hL : L.length ≤ 1048576) (hl : ∀ l ∈ L, l.length ≤ 1048576) (hK : K (i64 (1 + total L)) w) : callS Pg n_laws_heldInt64SS #[v, i64 1] w K := by
  refine call_laws_heldInt64SS _ _ _ _ ?_
  unfold S_laws_heldInt64SS
  have hml := markL_len L 1
  refine loopS_i (fun s w' => ∃ y : Nat, s = [i64 (1 + (total (L.take y) : Int)), i64 y] ∧ y ≤ L.length ∧ w' = w ∧ total (L.take y) ≤ y * 1048576) (fun s _ => L.length - (intOf (nth s 1)).toNat) ⟨0, by simp [total], by omega, rfl, by simp [total]⟩ ?_
  rintro g s w2 ⟨y, rfl, hy, rfl, hty⟩
  rw [nth0, nth1]
  refine rv_len rfl h ?_
  rw [hml]
  have hty2 : y * 1048576 ≤ 1048576 * 1048576 := Nat.mul_le_mul_right _ (by omega)
  refine lss_i (ifB_i (fun hlt => ?_) (fun hlt => ?_))
  · have hyl : y < L.length := by omega
    have hgy := List.getElem?_eq_getElem hyl
    have hll := hl _ (List.getElem_mem hyl)
    have hst := total_step hgy
    refine rv_row ⟨rfl, rfl⟩ h (by omega) (by rw [Int.toNat_natCast]; exact markL_get hgy) fun u hu => ?_
    refine heldI_c hu (by omega) ⟨by omega, by omega⟩ ?_
    refine lss_i (ifB_i (fun h2 => by omega) (fun h2 => ?_))
    refine add_i (.of (by omega) (by omega)) ?_
    exact ⟨⟨y + 1, by rw [hst, show 1 + (total (L.take y) : Int) + L[y].length = 1 + ((total (L.take y) + L[y].length : Nat) : Int) by omega, show ((y : Int) + 1) = ((y + 1 : Nat) : Int) by omega], by omega, rfl, by rw [hst]; omega⟩, by simp only [nth1, intOf]; omega⟩
  · have : y = L.length := by omega
    subst this
    rw [List.take_length]
    exact hK
end Go.Proofs.Ytfdmphgbodmkpaa
