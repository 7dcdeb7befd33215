/- Contracts of the reference's tree and of its test of a picture. -/
import Derived.Test.YtnpkcdegckfjeaaCSpec8
namespace Go.Proofs.Ytnpkcdegckfjeaa
open Go Go.SL Go.RowKit
set_option maxRecDepth 100000

/-- Code and depth of a picture. -/
def TreeIs (W H : Nat) (px : List Bool) (c : ByteArray) (d : Int) : Prop := CodeOf (W + 2) (H + 2) (colOf (W + 2) (H + 2) (padOf W H px)) (fun _ => False) (0, 0) c d
theorem pad_corner (W H : Nat) (px : List Bool) : colOf (W + 2) (H + 2) (padOf W H px) (0, 0) = false := by
  rw [pixel_get ⟨by omega, by omega, by omega, by omega⟩]
  unfold padOf mk
  have h : 0 < (W + 2) * (H + 2) := Nat.mul_pos (by omega) (by omega)
  rw [List.getD_eq_getElem?_getD, List.getElem?_map]
  show (Option.map _ ((List.range ((W + 2) * (H + 2)))[0 * (W + 2) + 0]?)).getD false = false
  rw [Nat.zero_mul, Nat.add_zero, List.getElem?_range h]
  show pixel W H px _ _ = false
  rw [Nat.zero_mod, Nat.zero_div]
  unfold pixel
  rw [decide_eq_false (by omega), Bool.false_and]
theorem marks_none {W H : Nat} (q : Int × Int) : ¬ marks W H (List.replicate (W * H) false) q := by
  unfold marks
  intro h
  have hin := pixel_inG h
  rw [pixel_get hin, List.getD_eq_getElem?_getD, List.getElem?_replicate] at h
  split at h <;> cases h

theorem l05Tree_c {w : World} {p b W H : Nat} {px : List Bool} {K : Value → World → Prop} (h : SPic w p b W H px) (hw : W ≤ 16) (hh : H ≤ 16)
    (hK : ∀ c d w', Ext w w' → TreeIs W H px c d → K (.tuple #[.string c, i64 d]) w') : callS Pg n_l05Tree #[ptr p 0] w K := by
  refine call_l05Tree _ _ _ ?_
  unfold S_l05Tree
  refine l05Pad_c h (by omega) (by omega) fun v c w1 he1 hc hP => ?_
  refine varP_i rfl hP fun q w2 he2 hq hP2 => ?_
  have hE2 := he1.trans he2
  have hmb : (W + 2) * (H + 2) ≤ 18 * 18 := Nat.mul_le_mul (by omega) (by omega)
  refine build_i rfl rfl ?_
  refine l01Width_c hP2 ?_
  refine l01Height_c hP2 ?_
  refine mul_i (.of (by rw [← Int.natCast_mul]; omega) (by rw [← Int.natCast_mul]; omega)) ?_
  rw [← Int.natCast_mul]
  refine sl1_make (E := ty_bool) (.bool false) (by kernel_rfl) (by kernel_rfl) (by omega) fun sv sb w3 he3 hsb hs3 => ?_
  rw [show List.replicate ((W + 2) * (H + 2)) (Value.bool false) = (List.replicate ((W + 2) * (H + 2)) false).map Value.bool by rw [List.map_replicate]] at hs3
  have z2 := hE2.size
  refine l05Node_c (W := W + 2) (H := H + 2) (px := padOf W H px) (by omega) ((W + 2) * (H + 2)) (s := (0, 0)) (P := fun _ => False) (by omega) (pad_corner W H px).symm (hP2.ext he3) hs3 (by simp) ⟨by simp only; omega, by simp only; omega, by simp only; omega, by simp only; omega⟩ (.inl fun _ h => h) (fun _ h => h.elim) (fun x _ => marks_none x) fun cd d ms' w4 V0 hm4 _ _ _ hvis => ?_
  refine ext_i rfl (ext_i rfl ?_)
  exact hK cd d w4 ((hE2.trans he3).own hm4 (by omega)) hvis.code

/-! ### Is it a picture? -/
def Good (rows : List ByteArray) : Prop := 1 ≤ rows.length ∧ rows.length ≤ 16 ∧ ∃ W, 1 ≤ W ∧ W ≤ 16 ∧ ∀ r ∈ rows, r.size = W ∧ ∀ x, x < W → r[x]? = some 35 ∨ r[x]? = some 46
def pxOf (rows : List ByteArray) (W : Nat) : List Bool := mk W rows.length fun x y => decide ((rows[y]?).bind (fun r => r[x]?) = some 35)
theorem Good.isPic {rows : List ByteArray} {W : Nat} (h1 : 1 ≤ rows.length) (h2 : rows.length ≤ 16) (h3 : 1 ≤ W) (h4 : W ≤ 16) (h5 : ∀ r ∈ rows, r.size = W ∧ ∀ x, x < W → r[x]? = some 35 ∨ r[x]? = some 46) : IsPic rows W rows.length (pxOf rows W) where
  rl := rfl
  len := mk_len _ _ _
  w1 := h3
  h1 := h1
  wb := by omega
  hb := by omega
  each := fun y hy => ⟨rows[y], List.getElem?_eq_getElem hy, (h5 _ (List.getElem_mem hy)).1, fun x hx => by
    have hlt := lin_lt hx hy
    have e : (pxOf rows W).getD (y * W + x) false = decide (rows[y][x]? = some 35) := by
      unfold pxOf mk
      rw [List.getD_eq_getElem?_getD, List.getElem?_map, List.getElem?_range hlt]
      show decide ((rows[(y * W + x) / W]?).bind _ = _) = _
      rw [(lin_div hx).1, (lin_div hx).2, List.getElem?_eq_getElem hy]; rfl
    rw [e]
    rcases (h5 _ (List.getElem_mem hy)).2 x hx with h | h <;> rw [h] <;> rfl⟩

/-- Any list of rows as a picture. -/
structure APic (w : World) (p b : Nat) (rows : List ByteArray) : Prop where
  ex : ∃ v, w.heap[p]? = some (row #[v] ty_impl_Picture) ∧ Sl1 w ty_string v (rows.map Value.string) b
theorem APic.ext {w w' : World} {p b : Nat} {rows : List ByteArray} (h : APic w p b rows) (he : Ext w w') : APic w' p b rows := by
  obtain ⟨v, a1, a2⟩ := h; exact ⟨v, he.at_ a1, a2.ext he⟩
theorem APic.spic {w : World} {p b W H : Nat} {rows : List ByteArray} {px : List Bool} (h : APic w p b rows) (hp : IsPic rows W H px) : SPic w p b W H px := by
  obtain ⟨v, a1, a2⟩ := h; exact ⟨v, rows, a1, a2, hp⟩
theorem arows_i {w : World} {p b : Nat} {rows : List ByteArray} {T1 T2 : TypeId} {K : Value → Prop} (hT : T1 = ty_impl_Picture ∧ T2 = ty_Sstring) (h : APic w p b rows) (hK : ∀ v, Sl1 w ty_string v (rows.map Value.string) b → K v) :
    pur Pg (Instr.fieldAt T1 (ptr p 0) 0) fun t => rd Pg (Instr.loadAt T2 t) w K := by
  obtain ⟨rfl, rfl⟩ := hT
  obtain ⟨v, a1, a2⟩ := h
  refine fldi_i (by kernel_rfl) ?_
  exact ld_i (by kernel_rfl) a1 rfl (hK v a2)
theorem arow_i {w : World} {v : Value} {b : Nat} {rows : List ByteArray} {y : Nat} {T1 T2 : TypeId} {K : Value → Prop} (hT : T1 = ty_Sstring ∧ T2 = ty_string) (h : Sl1 w ty_string v (rows.map Value.string) b) (hy : y < rows.length) (hK : K (.string rows[y])) :
    pur Pg (Instr.indexAt T1 v (i64 y)) fun t => rd Pg (Instr.loadAt T2 t) w K := by
  obtain ⟨rfl, rfl⟩ := hT
  exact sl1_get (x := .string rows[y]) (by kernel_rfl) (by kernel_rfl) h (by omega) (by simp [hy]) hK
theorem alen_i {w : World} {v : Value} {b : Nat} {rows : List ByteArray} {T ty : TypeId} {K : Value → Prop} (hT : T = ty_Sstring) (h : Sl1 w ty_string v (rows.map Value.string) b) (hK : K (i64 rows.length)) : rd Pg (Builtin.len_ #[T] ty #[v]) w K := by
  subst hT
  refine sl1_len (by kernel_rfl) h ?_
  rw [List.length_map]; exact hK

def rowGood (W : Nat) (r : ByteArray) : Prop := r.size = W ∧ ∀ x, x < W → r[x]? = some 35 ∨ r[x]? = some 46
theorem getByte {r : ByteArray} {x : Nat} (h : x < r.size) : r[x]? = some r[x] := by
  rw [getElem?_pos r x h]
theorem u8_eq {a : UInt8} {n : Nat} (hn : n < 256) : ((a.toNat : Int) = (n : Int)) ↔ a = UInt8.ofNat n := by
  constructor
  · intro h
    apply UInt8.toNat.inj
    rw [UInt8.toNat_ofNat_of_lt' (by simpa using hn)]; omega
  · rintro rfl
    rw [UInt8.toNat_ofNat_of_lt' (by simpa using hn)]

theorem l01Is_c {w : World} {p b : Nat} {rows : List ByteArray} {K : Value → World → Prop} (h : APic w p b rows) (hK : ∀ g w', Ext w w' → (g = true ↔ Good rows) → K (.bool g) w') : callS Pg n_l01Is #[ptr p 0] w K := by
  refine call_l01Is _ _ _ ?_
  unfold S_l01Is
  refine nilS_i ?_
  refine arows_i ⟨rfl, rfl⟩ h fun v hv => ?_
  refine alen_i rfl hv ?_
  refine l01Side_c ?_
  refine not_i ?_
  rw [joinS_eq]
  have bad : ∀ w', Ext w w' → ¬ Good rows → K (.bool false) w' := fun w' he hn => hK false w' he ⟨fun h => (by cases h), fun h => absurd h hn⟩
  refine ifG_f (fun h1 => ?_) (fun h1 => ?_)
  · have h1 : 1 ≤ (rows.length : Int) ∧ (rows.length : Int) ≤ 16 := by simpa using h1
    have h0 : 0 < rows.length := by omega
    refine nilS_i ?_
    refine arows_i ⟨rfl, rfl⟩ h fun v hv => ?_
    refine arow_i (y := 0) ⟨rfl, rfl⟩ hv h0 ?_
    refine lenStr_i (by kernel_rfl) ?_
    refine l01Side_c ?_
    refine not_i ?_
    intro g
    rw [decide_eq_true h1, Bool.not_true, pickS_eq, nth0, cond_false, ifB_eq]
    split
    · rename_i h2
      have h2 : ¬ (1 ≤ (rows[0].size : Int) ∧ (rows[0].size : Int) ≤ 16) := by rw [Bool.not_eq_true', decide_eq_false_iff_not] at h2; exact h2
      refine bad w (Mod.refl _) fun hg => h2 ?_
      obtain ⟨_, _, W, a1, a2, a3⟩ := hg
      have := (a3 _ (List.getElem_mem h0)).1
      omega
    · rename_i h2
      have h2 : 1 ≤ (rows[0].size : Int) ∧ (rows[0].size : Int) ≤ 16 := by simpa using h2
      have notGood : ∀ y, (hy : y < rows.length) → ¬ rowGood rows[0].size rows[y] → ¬ Good rows := by
        rintro y hy hn ⟨_, _, W, a1, a2, a3⟩
        have e := (a3 _ (List.getElem_mem h0)).1
        rw [e] at hn
        exact hn (a3 _ (List.getElem_mem hy))
      refine loopS_i (fun s w' => ∃ y : Nat, s = [i64 y] ∧ y ≤ rows.length ∧ Ext w w' ∧ ∀ j, (hj : j < rows.length) → j < y → rowGood rows[0].size rows[j]) (fun s _ => rows.length - (intOf (nth s 0)).toNat) ⟨0, rfl, by omega, Mod.refl _, by intro j _ h; omega⟩ ?_
      rintro g s w1 ⟨y, rfl, hy, hE, hgood⟩
      rw [nth0]
      refine nilS_i ?_
      refine arows_i ⟨rfl, rfl⟩ (h.ext hE) fun v hv => ?_
      refine alen_i rfl hv ?_
      refine lss_i (ifB_i (fun hlt => ?_) (fun hlt => ?_))
      · have hyl : y < rows.length := by omega
        refine drawS_i ?_
        have hE2 : Ext w w1.drew := hE.trans (Same.drew w1).ext
        have h2' := h.ext hE2
        refine nilS_i ?_
        refine arows_i ⟨rfl, rfl⟩ h2' fun v hv => ?_
        refine arow_i ⟨rfl, rfl⟩ hv hyl ?_
        refine lenStr_i (by kernel_rfl) ?_
        refine nilS_i ?_
        refine arows_i ⟨rfl, rfl⟩ h2' fun v hv => ?_
        refine arow_i (y := 0) ⟨rfl, rfl⟩ hv h0 ?_
        refine lenStr_i (by kernel_rfl) ?_
        refine neq_i (ifB_i (fun hne => ?_) (fun hne => ?_))
        · exact bad _ hE2 (notGood y hyl fun hr => hne (by rw [hr.1]))
        · have hsz : rows[y].size = rows[0].size := by omega
          refine loopS_i (fun s w' => ∃ x : Nat, s = [i64 x] ∧ x ≤ rows[0].size ∧ Ext w w' ∧ ∀ j, j < x → rows[y][j]? = some 35 ∨ rows[y][j]? = some 46) (fun s _ => rows[0].size - (intOf (nth s 0)).toNat) ⟨0, rfl, by omega, hE2, by intro j h; omega⟩ ?_
          rintro g' s' w3 ⟨x, rfl, hx, hE3, hpre⟩
          rw [nth0]
          have h3' := h.ext hE3
          refine nilS_i ?_
          refine arows_i ⟨rfl, rfl⟩ h3' fun v hv => ?_
          refine arow_i ⟨rfl, rfl⟩ hv hyl ?_
          refine lenStr_i (by kernel_rfl) ?_
          rw [hsz]
          refine lss_i (ifB_i (fun hlt2 => ?_) (fun hlt2 => ?_))
          · have hxl : x < rows[y].size := by omega
            refine nilS_i ?_
            refine arows_i ⟨rfl, rfl⟩ h3' fun v hv => ?_
            refine arow_i ⟨rfl, rfl⟩ hv hyl ?_
            refine idxStr_i (by kernel_rfl) (by omega) (getByte hxl) ?_
            refine neq_i ?_
            rw [joinS_eq]
            have stepx : (rows[y][x]? = some 35 ∨ rows[y][x]? = some 46) → ∀ {w4}, Ext w w4 → pur Pg (binOp Go.BinOp.add ty_int (i64 x) (Go.Value.int Go.IntKind.i64 1)) fun t59 => (fun s' w' => (∃ x : Nat, s' = [i64 x] ∧ x ≤ rows[0].size ∧ Ext w w' ∧ ∀ j, j < x → rows[y][j]? = some 35 ∨ rows[y][j]? = some 46) ∧ rows[0].size - (intOf (nth s' 0)).toNat < rows[0].size - (intOf (i64 x)).toNat) [t59] w4 := by
              intro hok w4 hE4
              refine add_i (.of (by omega) (by omega)) ?_
              refine ⟨⟨x + 1, by simp, by omega, hE4, fun j hj => ?_⟩, ?_⟩
              · rcases Nat.lt_or_ge j x with h' | h'
                · exact hpre j h'
                · have : j = x := by omega
                  rw [this]; exact hok
              · simp only [nth0, intOf]; omega
            refine ifG_t (fun h35 => ?_) (fun h35 => ?_)
            · refine nilS_i ?_
              refine arows_i ⟨rfl, rfl⟩ h3' fun v hv => ?_
              refine arow_i ⟨rfl, rfl⟩ hv hyl ?_
              refine idxStr_i (by kernel_rfl) (by omega) (getByte hxl) ?_
              refine neq_i ?_
              intro g
              rw [h35, pickS_eq, nth0, cond_true, ifB_eq]
              have n35 : rows[y][x] ≠ 35 := fun e => by rw [e] at h35; simp at h35
              split
              · rename_i h46
                have n46 : rows[y][x] ≠ 46 := fun e => by rw [e] at h46; simp at h46
                refine bad _ hE3 (notGood y hyl fun hr => ?_)
                rcases hr.2 x (by omega) with h | h <;> rw [getByte hxl, Option.some.injEq] at h
                · exact n35 h
                · exact n46 h
              · rename_i h46
                have e46 : rows[y][x] = 46 := (u8_eq (n := 46) (by omega)).1 (by simpa using h46)
                exact stepx (.inr (by rw [getByte hxl, e46])) hE3
            · intro g
              rw [h35, pickS_eq, cond_false, ifB_eq, if_neg (by simp)]
              have e35 : rows[y][x] = 35 := (u8_eq (n := 35) (by omega)).1 (by simpa using h35)
              exact stepx (.inl (by rw [getByte hxl, e35])) hE3
          · have : x = rows[0].size := by omega
            refine add_i (.of (by omega) (by omega)) ?_
            refine ⟨⟨y + 1, by simp, by omega, hE3, fun j hj hji => ?_⟩, ?_⟩
            · rcases Nat.lt_or_ge j y with h' | h'
              · exact hgood j hj h'
              · have : j = y := by omega
                subst this
                exact ⟨hsz, fun k hk => hpre k (by omega)⟩
            · simp only [nth0, intOf]; omega
      · have : y = rows.length := by omega
        refine hK true w1 hE ⟨fun _ => ?_, fun _ => rfl⟩
        refine ⟨by omega, by omega, rows[0].size, by omega, by omega, fun r hr => ?_⟩
        obtain ⟨j, hj, rfl⟩ := List.mem_iff_getElem.1 hr
        exact hgood j hj (by omega)
  · have h1 : ¬ (1 ≤ (rows.length : Int) ∧ (rows.length : Int) ≤ 16) := by rw [Bool.not_eq_true', decide_eq_false_iff_not] at h1; exact h1
    intro g
    rw [decide_eq_false h1, Bool.not_false, pickS_eq, cond_true, ifB_eq, if_pos rfl]
    exact bad w (Mod.refl _) fun hg => h1 ⟨by have := hg.1; omega, by have := hg.2.1; omega⟩
end Go.Proofs.Ytnpkcdegckfjeaa
