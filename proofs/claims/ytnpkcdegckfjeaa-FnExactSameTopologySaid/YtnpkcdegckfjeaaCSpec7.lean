/- Helpers for the reference's node. -/
import Derived.Test.YtnpkcdegckfjeaaPTree
namespace Go.Proofs.Ytnpkcdegckfjeaa
open Go Go.SL Go.RowKit
set_option maxRecDepth 100000

theorem own_off {w : World} {b o n c : Nat} {l : List (Int × Int)} (h : OwnSpots w (sl b o n c) l b) : n = l.length ∧ Sl w ty_impl_Spot 2 b o n c (pairCells l) := by
  obtain ⟨o', c', e, hs⟩ := h
  simp only [sl, Value.slice.injEq, Option.some.injEq, Addr.mk.injEq, true_and, and_true] at e
  obtain ⟨rfl, rfl, rfl⟩ := e
  exact ⟨rfl, hs⟩
theorem spotXF_i {S : World → Prop} {w : World} {T1 T2 T3 : TypeId} {v : Value} {l : List (Int × Int)} {b : Nat} {j : Int} {p : Int × Int} {K : Value → Prop} (hT : T1 = ty_Simpl_Spot ∧ T2 = ty_impl_Spot ∧ T3 = ty_int64) (hS : ∀ w', S w' → OwnSpots w' v l b) (h : OwnSpots w v l b) (h0 : 0 ≤ j) (hp : l[j.toNat]? = some p) (hK : K (i64 p.1)) :
    pur Pg (Instr.indexAt T1 v (i64 j)) fun t => pur Pg (Instr.fieldAt T2 t 0) fun t => rdF Pg S (Instr.loadAt T3 t) K := by
  obtain ⟨rfl, rfl, rfl⟩ := hT
  obtain ⟨o, c, rfl, hsl⟩ := h
  have hlt : j.toNat < l.length := (List.getElem?_eq_some_iff.1 hp).1
  refine idx_i (size := 2) rfl h0 (by omega) ?_
  refine fldi_i (by kernel_rfl) ?_
  refine rdF_i (fun w' hw => ?_) hK
  obtain ⟨_, hs⟩ := own_off (hS w' hw)
  obtain ⟨cs, h1, h2⟩ := hs.cell (pairCells_get hp).1
  exact ld_run (by kernel_rfl) h1 (by rw [show o + j.toNat * 2 + 0 = o + 2 * j.toNat by omega]; exact h2)
theorem spotYF_i {S : World → Prop} {w : World} {T1 T2 T3 : TypeId} {v : Value} {l : List (Int × Int)} {b : Nat} {j : Int} {p : Int × Int} {K : Value → Prop} (hT : T1 = ty_Simpl_Spot ∧ T2 = ty_impl_Spot ∧ T3 = ty_int64) (hS : ∀ w', S w' → OwnSpots w' v l b) (h : OwnSpots w v l b) (h0 : 0 ≤ j) (hp : l[j.toNat]? = some p) (hK : K (i64 p.2)) :
    pur Pg (Instr.indexAt T1 v (i64 j)) fun t => pur Pg (Instr.fieldAt T2 t 1) fun t => rdF Pg S (Instr.loadAt T3 t) K := by
  obtain ⟨rfl, rfl, rfl⟩ := hT
  obtain ⟨o, c, rfl, hsl⟩ := h
  have hlt : j.toNat < l.length := (List.getElem?_eq_some_iff.1 hp).1
  refine idx_i (size := 2) rfl h0 (by omega) ?_
  refine fldi_i (by kernel_rfl) ?_
  refine rdF_i (fun w' hw => ?_) hK
  obtain ⟨_, hs⟩ := own_off (hS w' hw)
  obtain ⟨cs, h1, h2⟩ := hs.cell (pairCells_get hp).2
  exact ld_run (by kernel_rfl) h1 (by rw [show o + j.toNat * 2 + 1 = o + (2 * j.toNat + 1) by omega]; exact h2)

theorem storeP_i {w : World} {T p c W H : Nat} {px : List Bool} {z v : Value} {K : World → Prop} (hT : T = ty_impl_Picture) (hp : w.heap[p]? = some (row #[z] ty_impl_Picture)) (h : VPic w v c W H px) (hne : p ≠ c) (hK : ∀ w1, Mod (· = p) w w1 → SPic w1 p c W H px → K w1) :
    effU Pg (Instr.storeAt T (ptr p 0) v) w K := by
  subst hT
  obtain ⟨u, rows, rfl, a2, a3⟩ := h
  have h1 := a2.one
  refine stn_i (n := 1) (by kernel_rfl) (by intro v hv; simp at hv; subst hv; exact h1) rfl hp (Nat.le_refl 1) ?_
  have hm := setAt_mod w p (row (wr #[z] 0 [u]) ty_impl_Picture)
  exact hK _ hm ⟨u, rows, setAt_at w (lt_of_at hp) _, a2.mod hm (fun e => hne e.symm), a3⟩
theorem SPic.cell {w : World} {p c W H : Nat} {px : List Bool} (h : SPic w p c W H px) : ∃ z, w.heap[p]? = some (row #[z] ty_impl_Picture) := by
  obtain ⟨u, rows, a1, _⟩ := h; exact ⟨u, a1⟩
theorem SPic.rows {w : World} {p c W H : Nat} {px : List Bool} (h : SPic w p c W H px) : ∃ cs, w.heap[c]? = some (row cs ty_string) := by
  obtain ⟨u, rows, _, a2, _⟩ := h; exact a2.cells

theorem varSF_i {S : World → Prop} {w : World} {T : TypeId} {p : Int × Int} {K : Value → World → Prop} (hT : T = ty_impl_Spot) (hS : ∀ w1, Ext w w1 → S w1) (hK : ∀ b w1, New w w1 b (row #[i64 p.1, i64 p.2] ty_impl_Spot) → K (ptr b 0) w1) :
    eff Pg (Instr.alloc T true (.tuple #[])) w fun t w => S w ∧ effU Pg (Instr.storeAt T t (pairV p)) w fun w => K t w := by
  subst hT
  refine alloc_i rfl fun b w1 h => ⟨hS w1 h.ext, ?_⟩
  refine stn_i (n := 2) (vs := #[i64 p.1, i64 p.2]) (by kernel_rfl) (by intro v hv; simp at hv; rcases hv with rfl | rfl <;> rfl) rfl h.at_ (Nat.le_refl 2) ?_
  have hlt := lt_of_at h.at_
  exact hK b _ ⟨h.ext.own (setAt_mod _ _ _) h.old, setAt_at _ hlt _, h.old⟩

/-- The colour of a cell. -/
def colOf (W H : Nat) (px : List Bool) (p : Int × Int) : Bool := pixel W H px p.1 p.2
theorem pixel_inG {W H : Nat} {px : List Bool} {p : Int × Int} (h : colOf W H px p = true) : inG W H p := pixel_true h
theorem pixel_get {W H : Nat} {px : List Bool} {p : Int × Int} (h : inG W H p) : colOf W H px p = px.getD (p.2.toNat * W + p.1.toNat) false := by
  unfold colOf pixel
  have : decide (0 ≤ p.1 ∧ p.1 < (W : Int) ∧ 0 ≤ p.2 ∧ p.2 < (H : Int)) = true := decide_eq_true h
  rw [this, Bool.true_and]
theorem pixel_not {W H : Nat} {px : List Bool} {p : Int × Int} (hl : px.length = W * H) (h : inG W H p) : colOf W H (px.map not) p = !colOf W H px p := by
  rw [pixel_get h, pixel_get h]
  have hb := idx_bound h
  rw [List.getD_eq_getElem?_getD, List.getD_eq_getElem?_getD, List.getElem?_map, List.getElem?_eq_getElem (by omega)]
  rfl
theorem ok_colour {W H : Nat} {px : List Bool} (hl : px.length = W * H) (c : Bool) : (fun p : Int × Int => pixel W H (if c then px else px.map not) p.1 p.2) = okc W H (colOf W H px) c := by
  funext p
  unfold okc
  by_cases h : inG W H p
  · rw [decide_eq_true h, Bool.true_and]
    cases c
    · rw [if_neg (by simp)]
      show colOf W H (px.map not) p = _
      rw [pixel_not hl h]; cases colOf W H px p <;> rfl
    · rw [if_pos rfl]
      show colOf W H px p = _
      cases colOf W H px p <;> rfl
  · rw [decide_eq_false h, Bool.false_and]
    apply Bool.eq_false_iff.2
    exact fun k => h (pixel_true k)
theorem conn_reach {W H : Nat} {px : List Bool} (hl : px.length = W * H) (s q : Int × Int) : Reach (fun p => pixel W H (if colOf W H px s then px else px.map not) p.1 p.2) (colOf W H px s) [s] q ↔ Conn W H (colOf W H px) s q := by
  rw [ok_colour hl]; exact Iff.rfl
theorem mask_pixel {W H : Nat} {S : List (Int × Int)} {q : Int × Int} (h : inG W H q) : colOf W H (maskOf W H S) q = decide (q ∈ S) := by
  obtain ⟨x, y⟩ := q
  obtain ⟨X, hX⟩ := Int.eq_ofNat_of_zero_le h.1
  obtain ⟨Y, hY⟩ := Int.eq_ofNat_of_zero_le h.2.2.1
  simp only at hX hY
  subst hX hY
  obtain ⟨_, h1, _, h2⟩ := h
  rw [pixel_get ⟨by omega, h1, by omega, h2⟩, List.getD_eq_getElem?_getD]
  have := maskOf_get S (W := W) (H := H) (x := X) (y := Y) (by simpa using h1) (by simpa using h2)
  rw [Int.toNat_natCast, Int.toNat_natCast, this]; rfl
theorem mem_spotsOf {W H : Nat} {px : List Bool} {q : Int × Int} : q ∈ spotsOf W px (W * H) ↔ colOf W H px q = true := by
  unfold spotsOf
  rw [List.mem_map]
  constructor
  · rintro ⟨i, hi, rfl⟩
    rw [List.mem_filter, List.mem_range] at hi
    have hW : 0 < W := by rcases Nat.eq_zero_or_pos W with h | h; subst h; omega; exact h
    have h1 : i % W < W := Nat.mod_lt _ hW
    have h2 : i / W < H := by rw [Nat.div_lt_iff_lt_mul hW, Nat.mul_comm]; exact hi.1
    have h3 : i / W * W + i % W = i := by rw [Nat.mul_comm]; exact Nat.div_add_mod i W
    show pixel W H px _ _ = true
    rw [pixel_in h1 h2, h3]; exact hi.2
  · intro h
    have hin := pixel_inG h
    refine ⟨q.2.toNat * W + q.1.toNat, ?_, ?_⟩
    · rw [List.mem_filter, List.mem_range]
      exact ⟨idx_bound hin, by rw [← pixel_get hin]; exact h⟩
    · have hx : q.1.toNat < W := by have := hin.1; have := hin.2.1; omega
      rw [(lin_div hx).1, (lin_div hx).2, Int.toNat_of_nonneg hin.1, Int.toNat_of_nonneg hin.2.2.1]
theorem spots_conn {W H : Nat} {px : List Bool} {s : Int × Int} {S : List (Int × Int)} (hS : ∀ r, r ∈ S ↔ Conn W H (colOf W H px) s r) (q : Int × Int) : q ∈ spotsOf W (maskOf W H S) (W * H) ↔ Conn W H (colOf W H px) s q := by
  rw [mem_spotsOf]
  constructor
  · intro h
    have hin := pixel_inG h
    rw [mask_pixel hin, decide_eq_true_iff] at h
    exact (hS q).1 h
  · intro h
    rw [mask_pixel (conn_ok h).1, decide_eq_true_iff]
    exact (hS q).2 h

/-- Marks: set one. -/
theorem marks_set {W H : Nat} {ms : List Bool} (hl : ms.length = W * H) {p q : Int × Int} (hp : inG W H p) : colOf W H (ms.set (p.2.toNat * W + p.1.toNat) true) q = true ↔ colOf W H ms q = true ∨ q = p := by
  by_cases hq : inG W H q
  · rw [pixel_get hq, pixel_get hq]
    have hbp := idx_bound hp
    rw [List.getD_eq_getElem?_getD, List.getD_eq_getElem?_getD, List.getElem?_set, hl]
    have hxp : p.1.toNat < W := by have := hp.1; have := hp.2.1; omega
    have hxq : q.1.toNat < W := by have := hq.1; have := hq.2.1; omega
    by_cases h : p.2.toNat * W + p.1.toNat = q.2.toNat * W + q.1.toNat
    · rw [if_pos h, if_pos hbp]
      have h1 := (lin_div (y := p.2.toNat) hxp).1; have h2 := (lin_div (y := p.2.toNat) hxp).2
      rw [h, (lin_div hxq).1] at h1
      rw [h, (lin_div hxq).2] at h2
      have : q = p := Prod.ext (by have := hp.1; have := hq.1; omega) (by have := hp.2.2.1; have := hq.2.2.1; omega)
      simp [this]
    · rw [if_neg h]
      have : q ≠ p := fun e => h (by rw [e])
      simp [this]
  · constructor
    · intro h; exact absurd (pixel_inG h) hq
    · rintro (h | rfl)
      · exact absurd (pixel_inG h) hq
      · exact absurd hp hq
end Go.Proofs.Ytnpkcdegckfjeaa
