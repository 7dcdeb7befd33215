/- Contracts of the reference's makers of pictures. -/
import Derived.Test.YtfdmphgbodmkpaaCSpec1
import Derived.Test.YtfdmphgbodmkpaaPrim7
set_option linter.unusedVariables false
set_option linter.unusedSimpArgs false
namespace Go.Proofs.Ytfdmphgbodmkpaa
open Go Go.SL Go.RowKit
set_option maxRecDepth 100000

/-- A picture as a value. -/
def VPic (w : World) (v : Value) (b W H : Nat) (px : List Bool) : Prop := ∃ u rows, v = .agg #[u] ∧ Sl1 w ty_string u (rows.map Value.string) b ∧ IsPic rows W H px
theorem VPic.mod {S : Nat → Prop} {w w' : World} {v : Value} {b W H : Nat} {px : List Bool} (h : VPic w v b W H px) (hm : Mod S w w') (h2 : ¬ S b) : VPic w' v b W H px := by
  obtain ⟨u, rows, a1, a2, a3⟩ := h
  exact ⟨u, rows, a1, a2.mod hm h2, a3⟩
theorem VPic.ext {w w' : World} {v : Value} {b W H : Nat} {px : List Bool} (h : VPic w v b W H px) (hm : Ext w w') : VPic w' v b W H px := h.mod hm id
theorem VPic.lt {w : World} {v : Value} {b W H : Nat} {px : List Bool} (h : VPic w v b W H px) : b < w.heap.size := by
  obtain ⟨u, rows, a1, a2, a3⟩ := h; exact a2.lt
def rowB (W : Nat) (px : List Bool) (y x : Nat) : List UInt8 := (List.range x).map fun i => byteOf (px.getD (y * W + i) false)
def rowsB (W : Nat) (px : List Bool) (y : Nat) : List ByteArray := (List.range y).map fun j => ⟨(rowB W px j W).toArray⟩
theorem isPic_rowsB {W H : Nat} {px : List Bool} (hl : px.length = W * H) (h1 : 1 ≤ W) (h2 : 1 ≤ H) (h3 : W ≤ 1000) (h4 : H ≤ 1000) : IsPic (rowsB W px H) W H px where
  rl := by simp [rowsB]
  len := hl
  w1 := h1
  h1 := h2
  wb := h3
  hb := h4
  each := fun y hy => ⟨⟨(rowB W px y W).toArray⟩, by simp [rowsB, hy], by simp [ByteArray.size, rowB], fun x hx => by
    show (rowB W px y W).toArray[x]? = _
    simp [rowB, hx]⟩

end Go.Proofs.Ytfdmphgbodmkpaa
