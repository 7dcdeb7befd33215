/- Opening arguments of bytes. -/
import Derived.Test.YtfdmphgbodmkpaaCArgG
import Derived.Test.YtfdmphgbodmkpaaCSrc
set_option linter.unusedVariables false
set_option linter.unusedSimpArgs false
namespace Go.Proofs.Ytfdmphgbodmkpaa
open Go Go.ChangeShapes Go.WideShapes Go.ChangeAt
set_option maxRecDepth 100000

theorem undBy : Try.prog.underlying ty_Suint8 = some (.slice ty_uint8) := by kernel_rfl
theorem undU8 : Try.prog.underlying ty_uint8 = some (.int .u8) := by kernel_rfl
theorem cellsU8 : Try.prog.cellsOf ty_uint8 = 1 := by kernel_rfl
theorem open_byteArg {H : Type} {enc : TypeId × Value → H} {W : World} {base : Nat} {v : Value} {d : DataW H} {p : List MemPlace} (hv : Value.okWide Try.prog W .any base ty_Suint8 v) (h : DataW.Trod enc Try.prog W 0 (fun _ => true) true ty_Suint8 v d p) :
    ∃ l, ArgB W v l := by
  obtain ⟨a0, len0, cap0, rfl⟩ := okWide_slice undBy hv
  obtain ⟨fuel, hf⟩ := h
  rcases open_ints undBy undU8 cellsU8 hf with ⟨hcs, _⟩ | ⟨a, len, cap, zs, hcs, _, hl, _, hz, _, hcell, hwf⟩
  · simp only [Value.cells, List.cons.injEq, and_true, Value.slice.injEq] at hcs
    obtain ⟨rfl, rfl, rfl⟩ := hcs
    exact ⟨[], .inl ⟨_, _, rfl, rfl⟩⟩
  · simp only [Value.cells, List.cons.injEq, and_true, Value.slice.injEq] at hcs
    obtain ⟨rfl, rfl, rfl⟩ := hcs
    simp only [if_true] at hz
    have htl : (zs.take len0).length = len0 := by rw [List.length_take]; omega
    refine ⟨zs.take len0, ?_⟩
    rcases Nat.eq_zero_or_pos len0 with rfl | hpos
    · exact .inl ⟨_, cap0, rfl, by simp⟩
    · right
      have hsp : a.spot = none := spot_none (hcell 0 (by omega))
      obtain ⟨b, o, spot⟩ := a
      simp only at hsp
      subst hsp
      refine ⟨b, o, cap0, by rw [htl], fun j hj => ?_⟩
      rw [htl] at hj
      obtain ⟨cs, E, fz, h1, h2⟩ := cells_at (hcell j (by omega))
      have hjz : j < zs.length := by omega
      have hw := hwf zs[j] (List.getElem_mem hjz)
      simp only [Lit.wf, Bool.and_eq_true, decide_eq_true_eq] at hw
      have e1 : IntKind.u8.min = 0 := by decide
      have e2 : IntKind.u8.max = 255 := by decide
      rw [e1, e2] at hw
      refine ⟨cs, E, fz, h1, ?_, ?_⟩
      · rw [h2, List.getElem_take, List.getD_eq_getElem?_getD, List.getElem?_eq_getElem hjz]; rfl
      · rw [List.getElem_take]; exact hw
end Go.Proofs.Ytfdmphgbodmkpaa
