/- Contract of the reference's reach: a search over a picture. -/
import Derived.Test.YtnpkcdegckfjeaaCSpec3
namespace Go.Proofs.Ytnpkcdegckfjeaa
open Go Go.SL Go.RowKit
set_option maxRecDepth 100000

def maskOf (W H : Nat) (S : List (Int × Int)) : List Bool := mk W H fun x y => decide (((x : Int), (y : Int)) ∈ S)
theorem maskOf_len (W H : Nat) (S : List (Int × Int)) : (maskOf W H S).length = W * H := mk_len W H _
theorem lin_div {W x y : Nat} (hx : x < W) : (y * W + x) % W = x ∧ (y * W + x) / W = y := by
  constructor
  · rw [Nat.add_comm, Nat.add_mul_mod_self_right, Nat.mod_eq_of_lt hx]
  · rw [Nat.add_comm, Nat.add_mul_div_right _ _ (by omega), Nat.div_eq_of_lt hx, Nat.zero_add]
theorem lin_lt {W H x y : Nat} (hx : x < W) (hy : y < H) : y * W + x < W * H := by
  have := Nat.mul_le_mul_right W (show y + 1 ≤ H by omega)
  rw [Nat.add_mul, Nat.mul_comm H W] at this
  omega
theorem maskOf_get {W H x y : Nat} (S : List (Int × Int)) (hx : x < W) (hy : y < H) : (maskOf W H S)[y * W + x]? = some (decide (((x : Int), (y : Int)) ∈ S)) := by
  unfold maskOf mk
  rw [List.getElem?_map, List.getElem?_range (lin_lt hx hy)]
  show some (decide (((((y * W + x) % W : Nat) : Int), (((y * W + x) / W : Nat) : Int)) ∈ S)) = _
  rw [(lin_div hx).1, (lin_div hx).2]
theorem maskOf_nil (W H : Nat) : maskOf W H [] = List.replicate (W * H) false := by
  unfold maskOf mk
  apply List.ext_getElem <;> simp
theorem maskOf_set {W H x y : Nat} (S : List (Int × Int)) (hx : x < W) (hy : y < H) : (maskOf W H S).set (y * W + x) true = maskOf W H (S ++ [((x : Int), (y : Int))]) := by
  apply List.ext_getElem?
  intro i
  rw [List.getElem?_set, maskOf_len]
  by_cases hi : i < W * H
  · have hW : 0 < W := by omega
    have h1 : i % W < W := Nat.mod_lt _ hW
    have h2 : i / W < H := by rw [Nat.div_lt_iff_lt_mul hW, Nat.mul_comm]; exact hi
    have h3 : i / W * W + i % W = i := by rw [Nat.mul_comm]; exact Nat.div_add_mod i W
    have g1 := maskOf_get S h1 h2
    have g2 := maskOf_get (S ++ [((x : Int), (y : Int))]) h1 h2
    rw [h3] at g1 g2
    rw [g1, g2]
    by_cases he : y * W + x = i
    · subst he
      obtain ⟨e1, e2⟩ := lin_div (y := y) hx
      rw [if_pos rfl, if_pos hi, e1, e2]; simp
    · rw [if_neg he]
      have : ((((i % W : Nat) : Int), ((i / W : Nat) : Int)) : Int × Int) ≠ ((x : Int), (y : Int)) := by
        intro h
        rw [Prod.mk.injEq] at h
        apply he
        rw [← h3, show i % W = x by omega, show i / W = y by omega]
      congr 1
      exact decide_eq_decide.2 ⟨fun h => List.mem_append_left _ h, fun h => (List.mem_append.1 h).elim id fun h => absurd (List.mem_singleton.1 h) this⟩
  · rw [List.getElem?_eq_none (by rw [maskOf_len]; omega), List.getElem?_eq_none (by rw [maskOf_len]; omega)]
    have : y * W + x ≠ i := by have := lin_lt hx hy; omega
    rw [if_neg this]
theorem pixel_true {W H : Nat} {px : List Bool} {x y : Int} (h : pixel W H px x y = true) : 0 ≤ x ∧ x < W ∧ 0 ≤ y ∧ y < H := by
  unfold pixel at h
  rw [Bool.and_eq_true] at h
  exact of_decide_eq_true h.1

theorem mem_steps (e : Bool) (h q : Int × Int) (hq : q ∈ nbrs e h) : q ∈ (steps e).map fun d => (h.1 + d.1, h.2 + d.2) := by
  unfold nbrs at hq
  rw [List.mem_map] at hq ⊢
  obtain ⟨d, hd, rfl⟩ := hq
  refine ⟨d, ?_, rfl⟩
  revert d
  cases e <;> decide
theorem steps_mem (e : Bool) (h d : Int × Int) (hd : d ∈ steps e) : (h.1 + d.1, h.2 + d.2) ∈ nbrs e h := by
  cases e <;> simp [steps] at hd <;> rcases hd with rfl | rfl | rfl | rfl | hd <;> (try rcases hd with rfl | rfl | rfl | rfl) <;> simp [nbrs, nine, stepOk]
theorem steps_bd (e : Bool) (d : Int × Int) (hd : d ∈ steps e) : -1 ≤ d.1 ∧ d.1 ≤ 1 ∧ -1 ≤ d.2 ∧ d.2 ≤ 1 := by
  cases e <;> simp [steps] at hd <;> rcases hd with rfl | rfl | rfl | rfl | hd <;> (try rcases hd with rfl | rfl | rfl | rfl) <;> decide

/-- The state of the search. -/
structure RS (W H : Nat) (w0 w : World) (rb : Nat) (z : Value) (av : Value) (l : List (Int × Int)) (ab : Nat) (qv : Value) (qb : Nat) (sv : Value) (sc : Nat) (S M : List (Int × Int)) : Prop where
  ext : Ext w0 w
  hr : w0.heap.size ≤ rb
  hq : w0.heap.size ≤ qb
  hs : w0.heap.size ≤ sc
  ne : ab ≠ qb
  cell : w.heap[rb]? = some (row #[z] ty_impl_Picture)
  al : OwnSpots w av l ab
  ql : OwnSpots w qv S qb
  sl : Sl1 w ty_bool sv ((maskOf W H M).map Value.bool) sc
section
variable {W H : Nat} {w0 w : World} {rb : Nat} {z : Value} {av : Value} {l : List (Int × Int)} {ab : Nat} {qv : Value} {qb : Nat} {sv : Value} {sc : Nat} {S M : List (Int × Int)}
theorem RS.step {w' : World} (h : RS W H w0 w rb z av l ab qv qb sv sc S M) (he : Ext w w') : RS W H w0 w' rb z av l ab qv qb sv sc S M :=
  ⟨h.ext.trans he, h.hr, h.hq, h.hs, h.ne, he.at_ h.cell, h.al.ext he, h.ql.ext he, h.sl.ext he⟩
theorem rs_get {T U : TypeId} {x y : Int} {K : Value → Prop} (h : RS W H w0 w rb z av l ab qv qb sv sc S M) (hin : 0 ≤ x ∧ x < (W : Int) ∧ 0 ≤ y ∧ y < (H : Int)) (hT : T = ty_Sbool ∧ U = ty_bool) (hK : K (.bool (decide ((x, y) ∈ M)))) :
    pur Pg (Instr.indexAt T sv (i64 (y * W + x))) fun t => rd Pg (Instr.loadAt U t) w K := by
  obtain ⟨rfl, rfl⟩ := hT
  obtain ⟨X, rfl⟩ := Int.eq_ofNat_of_zero_le hin.1
  obtain ⟨Y, rfl⟩ := Int.eq_ofNat_of_zero_le hin.2.2.1
  refine sl1_get (x := .bool (decide (((X : Int), (Y : Int)) ∈ M))) (by kernel_rfl) (by kernel_rfl) h.sl (by rw [← Int.natCast_mul]; omega) ?_ hK
  rw [show ((Y : Int) * (W : Int) + (X : Int)).toNat = Y * W + X by rw [← Int.natCast_mul]; omega, List.getElem?_map, maskOf_get M (by omega) (by omega)]; rfl
theorem rs_put {T U : TypeId} {x y : Int} {K : World → Prop} (h : RS W H w0 w rb z av l ab qv qb sv sc S M) (hin : 0 ≤ x ∧ x < (W : Int) ∧ 0 ≤ y ∧ y < (H : Int)) (hT : T = ty_Sbool ∧ U = ty_bool)
    (hK : ∀ w', RS W H w0 w' rb z av l ab qv qb sv sc S (M ++ [(x, y)]) → K w') :
    pur Pg (Instr.indexAt T sv (i64 (y * W + x))) fun t => effU Pg (Instr.storeAt U t (.bool true)) w K := by
  obtain ⟨rfl, rfl⟩ := hT
  obtain ⟨X, rfl⟩ := Int.eq_ofNat_of_zero_le hin.1
  obtain ⟨Y, rfl⟩ := Int.eq_ofNat_of_zero_le hin.2.2.1
  have e : ((Y : Int) * (W : Int) + (X : Int)).toNat = Y * W + X := by rw [← Int.natCast_mul]; omega
  have hlt := lin_lt (W := W) (H := H) (x := X) (y := Y) (by omega) (by omega)
  refine sl1_addr (by kernel_rfl) h.sl (by rw [← Int.natCast_mul]; omega) (by rw [e, List.length_map, maskOf_len]; exact hlt) fun a hst => ?_
  refine hst _ _ _ (by kernel_rfl) rfl fun w' hm hs => ?_
  rw [e, show Value.bool true = (Value.bool) true from rfl, ← List.map_set, maskOf_set M (by omega) (by omega)] at hs
  obtain ⟨cs, hc⟩ := h.sl.cells
  refine hK w' ⟨h.ext.own hm h.hs, h.hr, h.hq, h.hs, h.ne, hm.at_ h.cell (at_ne h.cell hc (by decide)), h.al.mod hm ?_, h.ql.mod hm ?_, hs⟩
  · obtain ⟨cs', hc'⟩ := h.al.row; exact at_ne hc' hc (by decide)
  · obtain ⟨cs', hc'⟩ := h.ql.row; exact at_ne hc' hc (by decide)
theorem rs_app {T1 T2 T3 ty : TypeId} {q : Int × Int} {K : Value → World → Prop} (h : RS W H w0 w rb z av l ab qv qb sv sc S M) (hn : S.length < 1000000) (hT : T1 = ty_Simpl_Spot ∧ T2 = ty_Simpl_Spot ∧ T3 = ty_Simpl_Spot)
    (hK : ∀ qv' qb' w', RS W H w0 w' rb z av l ab qv' qb' sv sc (S ++ [q]) M → K qv' w') :
    eff Pg (Instr.buildSlice T1 1 #[(0, pairV q)]) w fun t w => eff Pg (Builtin.append_ #[T2, T3] ty #[qv, t]) w K := by
  refine spots_app_i hT h.ql hn fun v' w' b' hor hm hq' => ?_
  have hs := h.ext.size
  obtain ⟨cs, hc⟩ := h.ql.row
  obtain ⟨cs', hc'⟩ := h.sl.cells
  have hal := h.al.lt
  refine hK v' b' w' ⟨h.ext.own hm h.hq, h.hr, ?_, h.hs, ?_, hm.at_ h.cell (at_ne h.cell hc (by decide)), h.al.mod hm h.ne, hq', h.sl.mod hm (at_ne hc' hc (by decide))⟩
  · have := h.hq; rcases hor with rfl | h' <;> omega
  · have := h.ne; rcases hor with rfl | h' <;> omega
end
theorem all_grid {W H : Nat} (p : Int × Int) (h : 0 ≤ p.1 ∧ p.1 < (W : Int) ∧ 0 ≤ p.2 ∧ p.2 < (H : Int)) : p ∈ (List.range (W * H)).map fun i => (((i % W : Nat) : Int), ((i / W : Nat) : Int)) := by
  obtain ⟨x, y⟩ := p
  obtain ⟨X, hX⟩ := Int.eq_ofNat_of_zero_le h.1
  obtain ⟨Y, hY⟩ := Int.eq_ofNat_of_zero_le h.2.2.1
  simp only at hX hY h
  subst hX hY
  rw [List.mem_map]
  refine ⟨Y * W + X, by rw [List.mem_range]; exact lin_lt (by omega) (by omega), ?_⟩
  obtain ⟨e1, e2⟩ := lin_div (W := W) (x := X) (y := Y) (by omega)
  rw [e1, e2]
end Go.Proofs.Ytnpkcdegckfjeaa
