/- Contracts of imageOf and of the two asking functions. -/
import Derived.Test.YtnpkcdegckfjeaaCSpec9
namespace Go.Proofs.Ytnpkcdegckfjeaa
open Go Go.SL Go.RowKit
set_option maxRecDepth 100000

structure GoodW (rows : List ByteArray) (W : Nat) : Prop where
  h1 : 1 ≤ rows.length
  h2 : rows.length ≤ 16
  h3 : 1 ≤ W
  h4 : W ≤ 16
  h5 : ∀ r ∈ rows, rowGood W r
theorem GoodW.good {rows : List ByteArray} {W : Nat} (h : GoodW rows W) : Good rows := ⟨h.h1, h.h2, W, h.h3, h.h4, h.h5⟩
theorem Good.w {rows : List ByteArray} (h : Good rows) : ∃ W, GoodW rows W := by obtain ⟨a, b, W, c, d, e⟩ := h; exact ⟨W, a, b, c, d, e⟩
theorem GoodW.same {rows : List ByteArray} {W V : Nat} (h : GoodW rows W) (k : GoodW rows V) : W = V := by
  have h0 : 0 < rows.length := h.h1
  rw [← (h.h5 _ (List.getElem_mem h0)).1, (k.h5 _ (List.getElem_mem h0)).1]
theorem GoodW.isPic {rows : List ByteArray} {W : Nat} (h : GoodW rows W) : IsPic rows W rows.length (pxOf rows W) := Good.isPic h.h1 h.h2 h.h3 h.h4 h.h5

/-- A list of rows as a value. -/
def AVal (w : World) (v : Value) (b : Nat) (rows : List ByteArray) : Prop := ∃ u, v = .agg #[u] ∧ Sl1 w ty_string u (rows.map Value.string) b
theorem AVal.ext {w w' : World} {v : Value} {b : Nat} {rows : List ByteArray} (h : AVal w v b rows) (he : Ext w w') : AVal w' v b rows := by
  obtain ⟨u, a1, a2⟩ := h; exact ⟨u, a1, a2.ext he⟩
theorem boxA_i {w : World} {T b : Nat} {v : Value} {rows : List ByteArray} {K : Value → World → Prop} (hT : T = ty_impl_Picture) (h : AVal w v b rows) (hK : ∀ p w1, Ext w w1 → w.heap.size ≤ p → APic w1 p b rows → K (ptr p 0) w1) : eff Pg (Instr.box T v) w K := by
  subst hT
  obtain ⟨u, rfl, a2⟩ := h
  refine box_i fun p w1 h1 => ?_
  exact hK p w1 h1.ext h1.old ⟨u, h1.at_, a2.ext h1.ext⟩
theorem ldA_i {w : World} {T p b : Nat} {rows : List ByteArray} {K : Value → Prop} (hT : T = ty_impl_Picture) (h : APic w p b rows) (hK : ∀ v, AVal w v b rows → K v) : rd Pg (Instr.loadAt T (ptr p 0)) w K := by
  subst hT
  obtain ⟨u, a1, a2⟩ := h
  exact ldn_i (n := 1) (by kernel_rfl) a1 (Nat.le_refl 1) rfl (hK _ ⟨u, rfl, a2⟩)

theorem imageOf_c {w : World} {v : Value} {b : Nat} {rows : List ByteArray} {K : Value → World → Prop} (h : AVal w v b rows)
    (hK1 : ∀ m c W w', GoodW rows W → Ext w w' → w.heap.size ≤ m → w.heap.size ≤ c → Img w' m c W rows.length (pxOf rows W) → K (.tuple #[ptr m 0, .bool true]) w')
    (hK0 : ∀ w', Ext w w' → ¬ Good rows → K (.tuple #[.pointer none, .bool false]) w') : callS Pg n_imageOf #[v] w K := by
  refine call_imageOf _ _ _ ?_
  unfold S_imageOf
  refine boxA_i rfl h fun p w1 he1 hp1 hA1 => ?_
  refine drawS_i ?_
  have he2 : Ext w w1.drew := he1.trans (Same.drew w1).ext
  have hA := hA1.ext (Same.drew w1).ext
  generalize w1.drew = w2 at he2 hA
  refine arows_i ⟨rfl, rfl⟩ hA fun v hv => ?_
  refine alen_i rfl hv ?_
  refine eql_i ?_
  rw [joinS_eq]
  refine ifG_f (fun h1 => ?_) (fun h1 => ?_)
  · have h0 : 0 < rows.length := by have := of_decide_eq_false h1; omega
    refine arows_i ⟨rfl, rfl⟩ hA fun v hv => ?_
    refine arow_i (y := 0) ⟨rfl, rfl⟩ hv h0 ?_
    refine lenStr_i (by kernel_rfl) ?_
    refine arows_i ⟨rfl, rfl⟩ hA fun v hv => ?_
    refine alen_i rfl hv ?_
    refine sizeOk_c ?_
    refine not_i ?_
    intro g
    rw [h1, pickS_eq, nth0, cond_false, ifB_eq]
    split
    · rename_i h2
      rw [Bool.not_eq_true', decide_eq_false_iff_not] at h2
      refine hK0 w2 he2 fun hg => h2 ?_
      obtain ⟨W, hW⟩ := hg.w
      have := (hW.h5 _ (List.getElem_mem h0)).1
      have := hW.h1; have := hW.h2; have := hW.h3; have := hW.h4
      omega
    · rename_i h2
      have h2 : 1 ≤ (rows[0].size : Int) ∧ (rows[0].size : Int) ≤ 16 ∧ 1 ≤ (rows.length : Int) ∧ (rows.length : Int) ≤ 16 := by simpa using h2
      have notGood : ∀ y, (hy : y < rows.length) → ¬ rowGood rows[0].size rows[y] → ¬ Good rows := by
        rintro y hy hn ⟨_, _, W, a1, a2, a3⟩
        have e := (a3 _ (List.getElem_mem h0)).1
        rw [e] at hn
        exact hn (a3 _ (List.getElem_mem hy))
      refine drawS_i ?_
      have he3 : Ext w w2.drew := he2.trans (Same.drew w2).ext
      have hA3 := hA.ext (Same.drew w2).ext
      refine arows_i ⟨rfl, rfl⟩ hA3 fun v hv => ?_
      refine arow_i (y := 0) ⟨rfl, rfl⟩ hv h0 ?_
      refine lenStr_i (by kernel_rfl) ?_
      refine arows_i ⟨rfl, rfl⟩ hA3 fun v hv => ?_
      refine alen_i rfl hv ?_
      refine blank_c (by omega) (by omega) fun m c w4 he4 hm hc hI4 => ?_
      have he4' := he3.trans he4
      have z3 := he3.size
      have hA4 := hA3.ext he4
      refine arows_i ⟨rfl, rfl⟩ hA4 fun rv hrv => ?_
      refine alen_i rfl hrv ?_
      let F : Nat → Nat → Bool := fun x y => decide ((rows[y]?).bind (fun r => r[x]?) = some 35)
      have hcb : ∀ {w'}, Mod (· = c) w4 w' → Sl1 w' ty_string rv (rows.map Value.string) b := fun hm => hrv.mod hm (by obtain ⟨cs, hc⟩ := hrv.cells; exact at_ne hc hI4.dat (by decide))
      refine loopS_i (fun s w' => ∃ y : Nat, s = [i64 y] ∧ y ≤ rows.length ∧ Mod (· = c) w4 w' ∧ Img w' m c rows[0].size rows.length (part rows[0].size rows.length F (y * rows[0].size)) ∧ ∀ j, (hj : j < rows.length) → j < y → rowGood rows[0].size rows[j]) (fun s _ => rows.length - (intOf (nth s 0)).toNat)
        ⟨0, rfl, by omega, Mod.refl _, by rw [Nat.zero_mul, part_zero]; exact hI4, by intro j _ h; omega⟩ ?_
      rintro g s w5 ⟨y, rfl, hy, hm5, hI5, hgood⟩
      rw [nth0]
      have he5 : Ext w w5 := he4'.own hm5 (by omega)
      refine lss_i (ifB_i (fun hlt => ?_) (fun hlt => ?_))
      · have hyl : y < rows.length := by omega
        refine arow_i ⟨rfl, rfl⟩ (hcb hm5) hyl ?_
        refine lenStr_i (by kernel_rfl) ?_
        refine nilS_i ?_
        refine fldi_i (by kernel_rfl) ?_
        refine ld_i (by kernel_rfl) hI5.hd rfl ?_
        refine neq_i (ifB_i (fun hne => ?_) (fun hne => ?_))
        · exact hK0 _ he5 (notGood y hyl fun hr => hne (by rw [hr.1]))
        · have hsz : rows[y].size = rows[0].size := by omega
          refine lenStr_i (by kernel_rfl) ?_
          rw [hsz]
          refine loopS_i (fun s w' => ∃ x : Nat, s = [i64 x] ∧ x ≤ rows[0].size ∧ Mod (· = c) w4 w' ∧ Img w' m c rows[0].size rows.length (part rows[0].size rows.length F (y * rows[0].size + x)) ∧ ∀ j, j < x → rows[y][j]? = some 35 ∨ rows[y][j]? = some 46) (fun s _ => rows[0].size - (intOf (nth s 0)).toNat)
            ⟨0, rfl, by omega, hm5, hI5, by intro j h; omega⟩ ?_
          rintro g' s' w6 ⟨x, rfl, hx, hm6, hI6, hpre⟩
          rw [nth0]
          have he6 : Ext w w6 := he4'.own hm6 (by omega)
          refine lss_i (ifB_i (fun hlt2 => ?_) (fun hlt2 => ?_))
          · have hxl : x < rows[y].size := by omega
            refine idxStr_i (by kernel_rfl) (by omega) (getByte hxl) ?_
            refine neq_i ?_
            rw [joinS_eq]
            have stepx : (rows[y][x]? = some 35 ∨ rows[y][x]? = some 46) → pur Pg (Instr.index ty_string (.string rows[y]) (i64 x)) fun t68 => rd Pg (binSem Go.BinOp.eql ty_uint8 (Go.Operand.tmp 68) (Go.Operand.const (Go.Value.int Go.IntKind.u8 35)) t68 (Go.Value.int Go.IntKind.u8 35)) w6 fun t69 =>
                callS Pg n_image_set #[ptr m 0, i64 x, i64 y, t69] w6 fun _ w => pur Pg (binOp Go.BinOp.add ty_int (i64 x) (Go.Value.int Go.IntKind.i64 1)) fun t71 => (fun s' w' => (∃ x : Nat, s' = [i64 x] ∧ x ≤ rows[0].size ∧ Mod (· = c) w4 w' ∧ Img w' m c rows[0].size rows.length (part rows[0].size rows.length F (y * rows[0].size + x)) ∧ ∀ j, j < x → rows[y][j]? = some 35 ∨ rows[y][j]? = some 46) ∧ rows[0].size - (intOf (nth s' 0)).toNat < rows[0].size - (intOf (i64 x)).toNat) [t71] w := by
              intro hok
              refine idxStr_i (by kernel_rfl) (by omega) (getByte hxl) ?_
              refine eql_i ?_
              refine set_c hI6 ⟨by omega, by omega, by omega, by omega⟩ fun w7 hm7 hI7 => ?_
              refine add_i (.of (by omega) (by omega)) ?_
              refine ⟨⟨x + 1, by simp, by omega, hm6.trans hm7, ?_, fun j hj => ?_⟩, ?_⟩
              · have hF : decide (((rows[y][x].toNat : Nat) : Int) = 35) = F x y := by
                  show _ = decide ((rows[y]?).bind (fun r => r[x]?) = some 35)
                  rw [List.getElem?_eq_getElem hyl]
                  show _ = decide (rows[y][x]? = some 35)
                  rw [getByte hxl]
                  refine decide_eq_decide.2 ?_
                  rw [Option.some.injEq]
                  exact u8_eq (n := 35) (by omega)
                rw [hF, Int.toNat_natCast, Int.toNat_natCast, part_step (by omega) hyl] at hI7
                exact hI7
              · rcases Nat.lt_or_ge j x with h' | h'
                · exact hpre j h'
                · have : j = x := by omega
                  rw [this]; exact hok
              · simp only [nth0, intOf]; omega
            refine ifG_t (fun h35 => ?_) (fun h35 => ?_)
            · refine idxStr_i (by kernel_rfl) (by omega) (getByte hxl) ?_
              refine neq_i ?_
              intro g
              rw [h35, pickS_eq, nth0, cond_true, ifB_eq]
              have n35 : rows[y][x] ≠ 35 := fun e => by rw [e] at h35; simp at h35
              split
              · rename_i h46
                have n46 : rows[y][x] ≠ 46 := fun e => by rw [e] at h46; simp at h46
                refine hK0 _ he6 (notGood y hyl fun hr => ?_)
                rcases hr.2 x (by omega) with h | h <;> rw [getByte hxl, Option.some.injEq] at h
                · exact n35 h
                · exact n46 h
              · rename_i h46
                have e46 : rows[y][x] = 46 := (u8_eq (n := 46) (by omega)).1 (by simpa using h46)
                exact stepx (.inr (by rw [getByte hxl, e46]))
            · intro g
              rw [h35, pickS_eq, cond_false, ifB_eq, if_neg (by simp)]
              have e35 : rows[y][x] = 35 := (u8_eq (n := 35) (by omega)).1 (by simpa using h35)
              exact stepx (.inl (by rw [getByte hxl, e35]))
          · have : x = rows[0].size := by omega
            refine add_i (.of (by omega) (by omega)) ?_
            refine ⟨⟨y + 1, by simp, by omega, hm6, by rw [Nat.add_mul, Nat.one_mul, ← this]; rw [← this] at hI6; exact hI6, fun j hj hji => ?_⟩, ?_⟩
            · rcases Nat.lt_or_ge j y with h' | h'
              · exact hgood j hj h'
              · have : j = y := by omega
                subst this
                exact ⟨hsz, fun k hk => hpre k (by omega)⟩
            · simp only [nth0, intOf]; omega
      · have : y = rows.length := by omega
        subst this
        rw [Nat.mul_comm, part_all] at hI5
        refine hK1 m c rows[0].size w5 ⟨by omega, by omega, by omega, by omega, fun r hr => ?_⟩ he5 (by omega) (by omega) hI5
        obtain ⟨j, hj, rfl⟩ := List.mem_iff_getElem.1 hr
        exact hgood j hj hj
  · have h0 : (rows.length : Int) = 0 := of_decide_eq_true h1
    intro g
    rw [h1, pickS_eq, cond_true, ifB_eq, if_pos rfl]
    exact hK0 _ he2 fun hg => by have := hg.1; omega

/-- The asking functions of spread, as it calls them. -/
theorem tree1_c {w : World} {fb b c W H : Nat} {px : List Bool} {q : Int × Int} {T1 : TypeId} {K : Value → World → Prop} (hi : Img w b c W H px) (hf : w.heap[fb]? = some (row #[ptr b 0] T1))
    (hK : ∀ w2, Ext w w2 → K (.bool (okc W H (colOf W H px) false q)) w2) : callV Pg (.func (.func n_image_tree_1) #[] #[ptr fb 0]) #[pairV q] w K := by
  refine callV_i ?_
  refine call_image_tree_1 _ _ _ _ ?_
  unfold S_image_tree_1
  refine box_i fun sb w1 h1 => ?_
  have hf1 := h1.ext.at_ hf
  refine ld_i (by kernel_rfl) hf1 rfl ?_
  refine fldi_i (by kernel_rfl) (ld_i (by kernel_rfl) h1.at_ rfl ?_)
  refine fldi_i (by kernel_rfl) (ld_i (by kernel_rfl) h1.at_ rfl ?_)
  refine has_c (hi.ext h1.ext) ?_
  rw [joinS_eq]
  refine ifG_t (fun hh => ?_) (fun hh => ?_)
  · refine ld_i (by kernel_rfl) hf1 rfl ?_
    refine fldi_i (by kernel_rfl) (ld_i (by kernel_rfl) h1.at_ rfl ?_)
    refine fldi_i (by kernel_rfl) (ld_i (by kernel_rfl) h1.at_ rfl ?_)
    refine get_c (hi.ext h1.ext) fun w2 hs => ?_
    refine not_i ?_
    intro g
    rw [hh, pickS_eq, nth0, cond_true]
    have e : okc W H (colOf W H px) false q = !pixel W H px q.1 q.2 := by
      unfold okc inG
      rw [hh, Bool.true_and]
      show (pixel W H px q.1 q.2 == false) = _
      cases pixel W H px q.1 q.2 <;> rfl
    rw [← e]
    exact hK w2 (h1.ext.trans hs.ext)
  · intro g
    rw [hh, pickS_eq, cond_false]
    have e : okc W H (colOf W H px) false q = false := by
      unfold okc inG
      rw [hh, Bool.false_and]
    rw [← e]
    exact hK w1 h1.ext
theorem below1_c {w : World} {fb kb b c W H : Nat} {px : List Bool} {q : Int × Int} {k : Bool} {T1 T2 : TypeId} {K : Value → World → Prop} (hi : Img w b c W H px) (hf : w.heap[fb]? = some (row #[ptr b 0] T1)) (hkb : w.heap[kb]? = some (row #[.bool k] T2))
    (hK : ∀ w2, Ext w w2 → K (.bool (okc W H (colOf W H px) (!k) q)) w2) : callV Pg (.func (.func n_image_below_1) #[] #[ptr fb 0, ptr kb 0]) #[pairV q] w K := by
  refine callV_i ?_
  refine call_image_below_1 _ _ _ _ _ ?_
  unfold S_image_below_1
  refine box_i fun sb w1 h1 => ?_
  have hd := (Same.drew w1).ext
  have hk1 := hd.at_ (h1.ext.at_ hkb)
  have hf1 := hd.at_ (h1.ext.at_ hf)
  have hs1 := hd.at_ h1.at_
  have he1 : Ext w w1.drew := h1.ext.trans hd
  refine drawF_i (fun w' => w'.heap[kb]? = some (row #[.bool k] T2)) hk1 ?_
  refine ld_i (by kernel_rfl) hf1 rfl ?_
  refine fldi_i (by kernel_rfl) (ld_i (by kernel_rfl) hs1 rfl ?_)
  refine fldi_i (by kernel_rfl) (ld_i (by kernel_rfl) hs1 rfl ?_)
  refine has_c (hi.ext he1) ?_
  refine ⟨hk1, ?_⟩
  rw [joinS_eq]
  refine ifG_t (fun hh => ?_) (fun hh => ?_)
  · refine ld_i (by kernel_rfl) hf1 rfl ?_
    refine fldi_i (by kernel_rfl) (ld_i (by kernel_rfl) hs1 rfl ?_)
    refine fldi_i (by kernel_rfl) (ld_i (by kernel_rfl) hs1 rfl ?_)
    refine rdF_i (fun w' hS => ld_run (by kernel_rfl) hS rfl) ?_
    refine get_c (hi.ext he1) fun w2 hs => ?_
    refine ⟨hs.ext.at_ hk1, ?_⟩
    refine neqBool_i (by kernel_rfl) ?_
    intro g
    rw [hh, pickS_eq, nth0, cond_true]
    have e : okc W H (colOf W H px) (!k) q = !(pixel W H px q.1 q.2 == k) := by
      unfold okc inG
      rw [hh, Bool.true_and]
      show (pixel W H px q.1 q.2 == !k) = _
      cases pixel W H px q.1 q.2 <;> cases k <;> rfl
    rw [← e]
    exact hK w2 (he1.trans hs.ext)
  · intro g
    rw [hh, pickS_eq, cond_false]
    have e : okc W H (colOf W H px) (!k) q = false := by
      unfold okc inG
      rw [hh, Bool.false_and]
    rw [← e]
    exact hK _ he1
end Go.Proofs.Ytnpkcdegckfjeaa
