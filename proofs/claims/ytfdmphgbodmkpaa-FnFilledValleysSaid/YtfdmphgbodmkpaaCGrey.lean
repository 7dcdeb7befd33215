/- Contracts of grey pictures: rows of numbers, their reading, sizes, validity. -/
import Derived.Test.YtfdmphgbodmkpaaCSpec1
import Derived.Test.YtfdmphgbodmkpaaPSort
set_option linter.unusedVariables false
set_option linter.unusedSimpArgs false
namespace Go.Proofs.Ytfdmphgbodmkpaa
open Go Go.SL Go.RowKit
set_option maxRecDepth 100000

/-- The slice value v over block b0 has the rows L of numbers, row y over block rb y. -/
def RR (w : World) (v : Value) (L : List (List Int)) (b0 : Nat) (rb : Nat → Nat) : Prop :=
  ∃ us : List Value, Sl1 w ty_Sint64 v us b0 ∧ us.length = L.length ∧ ∀ y l, L[y]? = some l → ∃ u, us[y]? = some u ∧ Sl1 w ty_int64 u (l.map i64) (rb y)
section
variable {w : World} {v : Value} {L : List (List Int)} {b0 : Nat} {rb : Nat → Nat}
theorem RR.mod {S : Nat → Prop} {w' : World} (h : RR w v L b0 rb) (hm : Mod S w w') (h0 : ¬ S b0) (hr : ∀ y, y < L.length → ¬ S (rb y)) : RR w' v L b0 rb := by
  obtain ⟨us, h1, h2, h3⟩ := h
  refine ⟨us, h1.mod hm h0, h2, fun y l hl => ?_⟩
  obtain ⟨u, k1, k2⟩ := h3 y l hl
  exact ⟨u, k1, k2.mod hm (hr y (List.getElem?_eq_some_iff.1 hl).1)⟩
theorem RR.ext {w' : World} (h : RR w v L b0 rb) (hm : Ext w w') : RR w' v L b0 rb := h.mod hm id fun _ _ => id
theorem RR.lt0 (h : RR w v L b0 rb) : b0 < w.heap.size := by obtain ⟨us, h1, _⟩ := h; exact h1.lt
theorem RR.lt (h : RR w v L b0 rb) {y : Nat} (hy : y < L.length) : rb y < w.heap.size := by
  obtain ⟨us, _, _, h3⟩ := h
  obtain ⟨u, _, k⟩ := h3 y _ (List.getElem?_eq_getElem hy)
  exact k.lt
theorem RR.one (h : RR w v L b0 rb) : SL.one v = true := by obtain ⟨us, h1, _⟩ := h; exact h1.one
theorem RR.ne (h : RR w v L b0 rb) {y : Nat} (hy : y < L.length) : b0 ≠ rb y := fun e => by
  obtain ⟨us, h1, h2, h3⟩ := h
  obtain ⟨u, _, k⟩ := h3 y _ (List.getElem?_eq_getElem hy)
  obtain ⟨c1, q1⟩ := h1.cells
  obtain ⟨c2, q2⟩ := k.cells
  rw [e] at q1
  exact at_ne q1 q2 (by decide) rfl
theorem rr_len {T ty : TypeId} {K : Value → Prop} (hT : T = ty_SSint64) (h : RR w v L b0 rb) (hK : K (i64 L.length)) : rd Pg (Builtin.len_ #[T] ty #[v]) w K := by
  subst hT
  obtain ⟨us, h1, h2, _⟩ := h
  refine sl1_len (by kernel_rfl) h1 ?_
  rw [h2]; exact hK
theorem rr_row {T1 T2 : TypeId} {y : Int} {l : List Int} {K : Value → Prop} (hT : T1 = ty_SSint64 ∧ T2 = ty_Sint64) (h : RR w v L b0 rb) (h0 : 0 ≤ y) (hy : L[y.toNat]? = some l) (hK : ∀ u, Sl1 w ty_int64 u (l.map i64) (rb y.toNat) → K u) :
    pur Pg (Instr.indexAt T1 v (i64 y)) fun t => rd Pg (Instr.loadAt T2 t) w K := by
  obtain ⟨rfl, rfl⟩ := hT
  obtain ⟨us, h1, h2, h3⟩ := h
  obtain ⟨u, k1, k2⟩ := h3 _ _ hy
  exact sl1_get (by kernel_rfl) (by kernel_rfl) h1 h0 k1 (hK u k2)
end
theorem int_len {w : World} {T ty b : Nat} {u : Value} {l : List Int} {K : Value → Prop} (hT : T = ty_Sint64) (h : Sl1 w ty_int64 u (l.map i64) b) (hK : K (i64 l.length)) : rd Pg (Builtin.len_ #[T] ty #[u]) w K := by
  subst hT
  refine sl1_len (by kernel_rfl) h ?_
  rw [List.length_map]; exact hK
theorem int_get {w : World} {T1 T2 b : Nat} {u : Value} {l : List Int} {x n : Int} {K : Value → Prop} (hT : T1 = ty_Sint64 ∧ T2 = ty_int64) (h : Sl1 w ty_int64 u (l.map i64) b) (h0 : 0 ≤ x) (hx : l[x.toNat]? = some n) (hK : K (i64 n)) :
    pur Pg (Instr.indexAt T1 u (i64 x)) fun t => rd Pg (Instr.loadAt T2 t) w K := by
  obtain ⟨rfl, rfl⟩ := hT
  exact sl1_get (x := i64 n) (by kernel_rfl) (by kernel_rfl) h h0 (by rw [List.getElem?_map, hx]; rfl) hK
theorem int_set {w : World} {T1 T2 b : Nat} {u : Value} {l : List Int} {x n : Int} {K : World → Prop} (hT : T1 = ty_Sint64 ∧ T2 = ty_int64) (h : Sl1 w ty_int64 u (l.map i64) b) (h0 : 0 ≤ x) (hx : x.toNat < l.length) (hK : ∀ w', Mod (· = b) w w' → Sl1 w' ty_int64 u ((l.set x.toNat n).map i64) b → K w') :
    pur Pg (Instr.indexAt T1 u (i64 x)) fun t => effU Pg (Instr.storeAt T2 t (i64 n)) w K := by
  obtain ⟨rfl, rfl⟩ := hT
  refine sl1_addr (by kernel_rfl) h h0 (by rw [List.length_map]; exact hx) fun a hst => ?_
  refine hst _ _ _ (by kernel_rfl) rfl fun w' hm h' => hK w' hm ?_
  rw [List.map_set]
  exact h'

/-- Rows that make a table with numbers up to a greatest one. -/
def TableOk (most : Int) (L : List (List Int)) : Prop := (1 ≤ L.length ∧ L.length ≤ 16) ∧ (1 ≤ (L.getD 0 []).length ∧ (L.getD 0 []).length ≤ 16) ∧ ∀ l ∈ L, l.length = (L.getD 0 []).length ∧ ∀ n ∈ l, 0 ≤ n ∧ n ≤ most
instance (most : Int) (L : List (List Int)) : Decidable (TableOk most L) := by unfold TableOk; exact inferInstance
theorem getD0 {L : List (List Int)} (h : 0 < L.length) : L[0]? = some (L.getD 0 []) := by
  rw [List.getD_eq_getElem?_getD, List.getElem?_eq_getElem h]; rfl

theorem l07Table_c {w : World} {v : Value} {L : List (List Int)} {b0 : Nat} {rb : Nat → Nat} {most : Int} {K : Value → World → Prop} (h : RR w v L b0 rb) (hL : L.length ≤ 1000000000) (hl : ∀ l ∈ L, l.length ≤ 1000000000) (hK : ∀ w', Ext w w' → K (.bool (decide (TableOk most L))) w') : callS Pg n_l07Table #[v, i64 most] w K := by
  refine call_l07Table _ _ _ _ ?_
  unfold S_l07Table
  have no : ¬ TableOk most L → ∀ w', Ext w w' → K (.bool false) w' := fun hn w' he => by have := hK w' he; rw [decide_eq_false hn] at this; exact this
  refine rr_len rfl h ?_
  refine l01Side_c ?_
  refine not_i ?_
  rw [joinS_eq]
  rcases (Decidable.em (1 ≤ L.length ∧ L.length ≤ 16)).symm with h1 | h1
  · rw [decide_eq_false (by omega), Bool.not_false, ifG_eq_f, if_pos rfl]
    intro g
    rw [pickS_eq, cond_true, ifB_eq, if_pos rfl]
    exact no (fun k => h1 k.1) w (Mod.refl _)
  rw [decide_eq_true (by omega), Bool.not_true, ifG_eq_f, if_neg (by simp)]
  have hg0 := getD0 (L := L) (by omega)
  have hm0 : L.getD 0 [] ∈ L := List.mem_of_getElem? hg0
  refine rr_row ⟨rfl, rfl⟩ h (by omega) hg0 fun u hu => ?_
  refine int_len rfl hu ?_
  refine l01Side_c (not_i ?_)
  intro g
  rw [pickS_eq, cond_false, nth0]
  rcases (Decidable.em (1 ≤ (L.getD 0 []).length ∧ (L.getD 0 []).length ≤ 16)).symm with h2 | h2
  · rw [decide_eq_false (by omega), Bool.not_false, ifB_eq, if_pos rfl]
    exact no (fun k => h2 k.2.1) w (Mod.refl _)
  rw [decide_eq_true (by omega), Bool.not_true, ifB_eq, if_neg (by simp)]
  refine loopS_i (fun s w' => ∃ y : Nat, s = [i64 y] ∧ y ≤ L.length ∧ Ext w w' ∧ ∀ l ∈ L.take y, l.length = (L.getD 0 []).length ∧ ∀ n ∈ l, 0 ≤ n ∧ n ≤ most) (fun s _ => L.length - (intOf (nth s 0)).toNat) ⟨0, rfl, by omega, Mod.refl _, by simp⟩ ?_
  rintro g2 s w1 ⟨y, rfl, hy, hE, hdone⟩
  rw [nth0]
  refine rr_len rfl (h.ext hE) ?_
  refine lss_i (ifB_i (fun hlt => ?_) (fun hlt => ?_))
  · have hyl : y < L.length := by omega
    refine drawS_i ?_
    have hE2 := hE.trans (Same.drew w1).ext
    generalize w1.drew = w2 at hE2 ⊢
    have hgy : L[((y : Nat) : Int).toNat]? = some L[y] := by rw [Int.toNat_natCast, List.getElem?_eq_getElem hyl]
    have hmy : L[y] ∈ L := List.getElem_mem hyl
    refine rr_row ⟨rfl, rfl⟩ (h.ext hE2) (by omega) hgy fun uy huy => ?_
    refine int_len rfl huy ?_
    refine rr_row ⟨rfl, rfl⟩ (h.ext hE2) (by omega) hg0 fun u0 hu0 => ?_
    refine int_len rfl hu0 ?_
    refine neq_i (ifB_i (fun hne => ?_) (fun hne => ?_))
    · exact no (fun k => hne (by have := (k.2.2 _ hmy).1; omega)) w2 hE2
    · have hleny : L[y].length = (L.getD 0 []).length := by omega
      refine loopS_i (fun s w' => ∃ x : Nat, s = [i64 x] ∧ x ≤ L[y].length ∧ Ext w w' ∧ ∀ n ∈ L[y].take x, 0 ≤ n ∧ n ≤ most) (fun s _ => L[y].length - (intOf (nth s 0)).toNat) ⟨0, rfl, by omega, hE2, by simp⟩ ?_
      rintro g3 s3 w3 ⟨x, rfl, hx, hE3, hdx⟩
      rw [nth0]
      refine rr_row ⟨rfl, rfl⟩ (h.ext hE3) (by omega) hgy fun uy huy => ?_
      refine int_len rfl huy ?_
      refine lss_i (ifB_i (fun hlt2 => ?_) (fun hlt2 => ?_))
      · have hxl : x < L[y].length := by omega
        have hly := hl _ hmy
        refine rr_row ⟨rfl, rfl⟩ (h.ext hE3) (by omega) hgy fun uy huy => ?_
        refine int_get ⟨rfl, rfl⟩ huy (by omega) (n := L[y][x]) (by rw [Int.toNat_natCast, List.getElem?_eq_getElem hxl]) ?_
        refine l00In_c (not_i ?_)
        refine ifB_b (fun hb => ?_) (fun hb => ?_)
        · have hb : ¬ (0 ≤ L[y][x] ∧ L[y][x] ≤ most) := fun k => by rw [decide_eq_true k] at hb; cases hb
          exact no (fun k => hb ((k.2.2 _ hmy).2 _ (List.getElem_mem hxl))) w3 hE3
        · have hb : 0 ≤ L[y][x] ∧ L[y][x] ≤ most := by simpa using hb
          refine add_i (.of (by omega) (by omega)) ?_
          refine ⟨⟨x + 1, by simp, by omega, hE3, ?_⟩, by simp only [nth0, intOf]; omega⟩
          rw [List.take_succ_eq_append_getElem hxl]
          intro n hn
          rcases List.mem_append.1 hn with hn | hn
          · exact hdx n hn
          · rw [List.mem_singleton] at hn; subst hn; exact hb
      · have : x = L[y].length := by omega
        subst this
        rw [List.take_length] at hdx
        refine add_i (.of (by omega) (by omega)) ?_
        refine ⟨⟨y + 1, by simp, by omega, hE3, ?_⟩, by simp only [nth0, intOf]; omega⟩
        rw [List.take_succ_eq_append_getElem hyl]
        intro l hn
        rcases List.mem_append.1 hn with hn | hn
        · exact hdone l hn
        · rw [List.mem_singleton] at hn; subst hn; exact ⟨hleny, hdx⟩
  · have : y = L.length := by omega
    subst this
    rw [List.take_length] at hdone
    have := hK w1 hE
    rw [decide_eq_true (show TableOk most L from ⟨h1, h2, hdone⟩)] at this
    exact this

/-- ContainsFunc over numbers, by a test that reads. -/
theorem containsI_c {w : World} {u fv : Value} {l : List Int} {b : Nat} {t : Int → Bool} {K : Value → World → Prop} (h : Sl1 w ty_int64 u (l.map i64) b) (hl : l.length ≤ 1000000000)
    (hf : ∀ x w1, Ext w w1 → ∀ K' : Value → World → Prop, (∀ w2, Ext w1 w2 → K' (.bool (t x)) w2) → callV Pg fv #[i64 x] w1 K') (hK : ∀ w', Ext w w' → K (.bool (l.any t)) w') : callS Pg n_slices_ContainsFunc_int64_int64_90 #[u, fv] w K := by
  refine call_slices_ContainsFunc_int64_int64_90 _ _ _ _ ?_
  unfold S_slices_ContainsFunc_int64_int64_90
  refine call_slices_IndexFunc_int64_int64_108 _ _ _ _ ?_
  unfold S_slices_IndexFunc_int64_int64_108
  refine int_len rfl h ?_
  refine loopS_i (fun s w' => ∃ i : Nat, s = [i64 i] ∧ i ≤ l.length ∧ Ext w w' ∧ ∀ x ∈ l.take i, t x = false) (fun s _ => l.length - (intOf (nth s 0)).toNat) ⟨0, rfl, by omega, Mod.refl _, by simp⟩ ?_
  rintro g s w1 ⟨i, rfl, hi, hE, hd⟩
  rw [nth0]
  refine lss_i (ifB_i (fun hlt => ?_) (fun hlt => ?_))
  · have hil : i < l.length := by omega
    refine int_get ⟨rfl, rfl⟩ (h.ext hE) (by omega) (n := l[i]) (by rw [Int.toNat_natCast, List.getElem?_eq_getElem hil]) ?_
    refine hf _ _ hE _ fun w2 hE2 => ?_
    refine ifB_b (fun hb => ?_) (fun hb => ?_)
    · refine geq_i ?_
      have := hK w2 (hE.trans hE2)
      rw [List.any_eq_true.2 ⟨_, List.getElem_mem hil, hb⟩] at this
      rw [decide_eq_true (by omega)]; exact this
    · refine add_i (.of (by omega) (by omega)) ?_
      refine ⟨⟨i + 1, by simp, by omega, hE.trans hE2, ?_⟩, by simp only [nth0, intOf]; omega⟩
      rw [List.take_succ_eq_append_getElem hil]
      intro x hx
      rcases List.mem_append.1 hx with hx | hx
      · exact hd x hx
      · rw [List.mem_singleton] at hx; subst hx; exact hb
  · have : i = l.length := by omega
    subst this
    rw [List.take_length] at hd
    refine geq_i ?_
    have := hK w1 hE
    rw [List.any_eq_false.2 (fun x hx => by simp [hd x hx])] at this
    rw [decide_eq_false (by omega)]; exact this
/-- ContainsFunc over rows, by a test that reads. -/
theorem containsR_c {w : World} {v fv : Value} {L : List (List Int)} {b0 : Nat} {rb : Nat → Nat} {t : List Int → Bool} {K : Value → World → Prop} (h : RR w v L b0 rb) (hL : L.length ≤ 1000000000)
    (hf : ∀ l u b w1, l ∈ L → Ext w w1 → Sl1 w1 ty_int64 u (l.map i64) b → ∀ K' : Value → World → Prop, (∀ w2, Ext w1 w2 → K' (.bool (t l)) w2) → callV Pg fv #[u] w1 K') (hK : ∀ w', Ext w w' → K (.bool (L.any t)) w') : callS Pg n_slices_ContainsFunc_int64_int64 #[v, fv] w K := by
  refine call_slices_ContainsFunc_int64_int64 _ _ _ _ ?_
  unfold S_slices_ContainsFunc_int64_int64
  refine call_slices_IndexFunc_int64_int64 _ _ _ _ ?_
  unfold S_slices_IndexFunc_int64_int64
  refine rr_len rfl h ?_
  refine loopS_i (fun s w' => ∃ i : Nat, s = [i64 i] ∧ i ≤ L.length ∧ Ext w w' ∧ ∀ x ∈ L.take i, t x = false) (fun s _ => L.length - (intOf (nth s 0)).toNat) ⟨0, rfl, by omega, Mod.refl _, by simp⟩ ?_
  rintro g s w1 ⟨i, rfl, hi, hE, hd⟩
  rw [nth0]
  refine lss_i (ifB_i (fun hlt => ?_) (fun hlt => ?_))
  · have hil : i < L.length := by omega
    refine rr_row ⟨rfl, rfl⟩ (h.ext hE) (by omega) (l := L[i]) (by rw [Int.toNat_natCast, List.getElem?_eq_getElem hil]) fun u hu => ?_
    refine hf _ _ _ _ (List.getElem_mem hil) hE hu _ fun w2 hE2 => ?_
    refine ifB_b (fun hb => ?_) (fun hb => ?_)
    · refine geq_i ?_
      have := hK w2 (hE.trans hE2)
      rw [List.any_eq_true.2 ⟨_, List.getElem_mem hil, hb⟩] at this
      rw [decide_eq_true (by omega)]; exact this
    · refine add_i (.of (by omega) (by omega)) ?_
      refine ⟨⟨i + 1, by simp, by omega, hE.trans hE2, ?_⟩, by simp only [nth0, intOf]; omega⟩
      rw [List.take_succ_eq_append_getElem hil]
      intro x hx
      rcases List.mem_append.1 hx with hx | hx
      · exact hd x hx
      · rw [List.mem_singleton] at hx; subst hx; exact hb
  · have : i = L.length := by omega
    subst this
    rw [List.take_length] at hd
    refine geq_i ?_
    have := hK w1 hE
    rw [List.any_eq_false.2 (fun x hx => by simp [hd x hx])] at this
    rw [decide_eq_false (by omega)]; exact this

theorem rowsOk_c {w : World} {v : Value} {L : List (List Int)} {b0 : Nat} {rb : Nat → Nat} {most : Int} {K : Value → World → Prop} (h : RR w v L b0 rb) (hL : L.length ≤ 1000000000) (hl : ∀ l ∈ L, l.length ≤ 1000000000) (hK : ∀ w', Ext w w' → K (.bool (decide (TableOk most L))) w') : callS Pg n_rowsOk #[v, i64 most] w K := by
  refine call_rowsOk _ _ _ _ ?_
  unfold S_rowsOk
  have hv1 := h.one
  refine box_i fun p1 w1 h1 => ?_
  rw [one_cells hv1] at h1
  refine box_i fun p2 w2 h2 => ?_
  refine drawS_i ?_
  have hE : Ext w w2.drew := (h1.ext.trans h2.ext).trans (Same.drew w2).ext
  have hp1 : w2.drew.heap[p1]? = some (row #[v] ty_SSint64) := h2.ext.at_ h1.at_
  have hp2 : w2.drew.heap[p2]? = some (row #[i64 most] ty_int64) := h2.at_
  generalize w2.drew = w3 at hE hp1 hp2 ⊢
  have no : ¬ TableOk most L → ∀ w', Ext w w' → K (.bool false) w' := fun hn w' he => by have := hK w' he; rw [decide_eq_false hn] at this; exact this
  refine ld_i (by kernel_rfl) hp1 rfl ?_
  refine rr_len rfl (h.ext hE) (eql_i ?_)
  rw [joinS_eq]
  by_cases h0 : L.length = 0
  · rw [decide_eq_true (by omega), ifG_eq_f, if_pos rfl]
    intro g
    rw [pickS_eq, cond_true, ifB_eq, if_pos rfl]
    exact no (fun k => by have := k.1.1; omega) w3 hE
  rw [decide_eq_false (by omega), ifG_eq_f, if_neg (by simp)]
  have hg0 := getD0 (L := L) (by omega)
  have hm0 : L.getD 0 [] ∈ L := List.mem_of_getElem? hg0
  refine ld_i (by kernel_rfl) hp1 rfl ?_
  refine rr_row ⟨rfl, rfl⟩ (h.ext hE) (by omega) hg0 fun u hu => ?_
  refine int_len rfl hu ?_
  refine ld_i (by kernel_rfl) hp1 rfl ?_
  refine rr_len rfl (h.ext hE) ?_
  refine sizeOk_c (not_i ?_)
  intro g
  rw [pickS_eq, cond_false, nth0]
  rcases (Decidable.em (1 ≤ ((L.getD 0 []).length : Int) ∧ ((L.getD 0 []).length : Int) ≤ 16 ∧ 1 ≤ (L.length : Int) ∧ (L.length : Int) ≤ 16)).symm with h2 | h2
  · rw [decide_eq_false h2, Bool.not_false, ifB_eq, if_pos rfl]
    exact no (fun k => h2 (by have := k.1; have := k.2.1; omega)) w3 hE
  rw [decide_eq_true h2, Bool.not_true, ifB_eq, if_neg (by simp)]
  refine ld_i (by kernel_rfl) hp1 rfl ?_
  let bad : List Int → Bool := fun l => !decide (l.length = (L.getD 0 []).length) || l.any fun n => !decide (0 ≤ n ∧ n ≤ most)
  refine containsR_c (t := bad) (h.ext hE) hL (fun l u b w4 hl4 hE4 hu4 K' hK' => ?_) fun w4 hE4 => ?_
  · refine callV_i ?_
    refine call_rowsOk_1 _ _ _ _ _ ?_
    unfold S_rowsOk_1
    have hE4' := hE.trans hE4
    refine int_len rfl hu4 ?_
    refine ld_i (by kernel_rfl) (hE4.at_ hp1) rfl ?_
    refine rr_row ⟨rfl, rfl⟩ (h.ext hE4') (by omega) hg0 fun u0 hu0 => ?_
    refine int_len rfl hu0 (neq_i ?_)
    rw [joinS_eq]
    have hc : decide ((l.length : Int) ≠ ((L.getD 0 []).length : Int)) = !decide (l.length = (L.getD 0 []).length) := by
      by_cases e : l.length = (L.getD 0 []).length
      · rw [decide_eq_true e, decide_eq_false (by omega)]; rfl
      · rw [decide_eq_false e, decide_eq_true (by omega)]; rfl
    rw [hc]
    by_cases e : l.length = (L.getD 0 []).length
    · rw [decide_eq_true e, Bool.not_true, ifG_eq_f, if_neg (by simp)]
      refine containsI_c (t := fun n => !decide (0 ≤ n ∧ n ≤ most)) hu4 (hl l hl4) (fun x w5 hE5 K2 hK2 => ?_) fun w5 hE5 => ?_
      · refine callV_i ?_
        refine call_rowsOk_1_1 _ _ _ _ ?_
        unfold S_rowsOk_1_1
        refine ld_i (by kernel_rfl) (hE5.at_ (hE4.at_ hp2)) rfl ?_
        refine in_c (not_i ?_)
        exact hK2 w5 (Mod.refl _)
      · intro g
        rw [pickS_eq, cond_false, nth0]
        have := hK' w5 hE5
        simp only [bad, decide_eq_true e, Bool.not_true, Bool.false_or] at this
        exact this
    · rw [decide_eq_false e, Bool.not_false, ifG_eq_f, if_pos rfl]
      intro g
      rw [pickS_eq, cond_true]
      have := hK' w4 (Mod.refl _)
      simp only [bad, decide_eq_false e, Bool.not_false, Bool.true_or] at this
      exact this
  · refine not_i ?_
    have := hK w4 (hE.trans hE4)
    have e : (!L.any bad) = decide (TableOk most L) := by
      rw [Bool.eq_iff_iff, Bool.not_eq_true', List.any_eq_false, decide_eq_true_iff]
      constructor
      · intro k
        refine ⟨by omega, by omega, fun l hl => ?_⟩
        have hb : ¬ bad l = true := k l hl
        have hbf : bad l = false := by simpa using hb
        simp only [bad, Bool.or_eq_false_iff, List.any_eq_false] at hbf
        refine ⟨by simpa using hbf.1, fun n hn => ?_⟩
        have := hbf.2 n hn
        simpa using this
      · intro k l hl
        obtain ⟨k1, k2⟩ := k.2.2 l hl
        have hbf : bad l = false := by
          simp only [bad, Bool.or_eq_false_iff, List.any_eq_false]
          exact ⟨by simp [k1], fun n hn => by have := k2 n hn; simp [this]⟩
        simp [hbf]
    rw [e]; exact this
end Go.Proofs.Ytfdmphgbodmkpaa
