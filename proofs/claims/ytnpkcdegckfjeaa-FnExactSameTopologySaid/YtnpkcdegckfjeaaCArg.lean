/- Opening the laws' arguments. -/
import Derived.Test.YtnpkcdegckfjeaaCLaws
import Derived.Test.YtnpkcdegckfjeaaRows
import Derived.ProofKit
import Derived.SliceStrings
import Derived.ReadAgain
import Derived.ChangeSame
import Derived.JoinedOf
namespace Go.Proofs.Ytnpkcdegckfjeaa
open Go Go.ChangeShapes Go.WideShapes Go.ChangeAt
set_option maxRecDepth 100000

theorem own : ownKnob Try.prog.godebug = none := by kernel_rfl
theorem und24 : Try.prog.underlying 24 = some (.struct #[⟨ "Rows", 22, 0, false, "", "", 0⟩]) := by kernel_rfl
theorem und22 : Try.prog.underlying 22 = some (.slice 9) := by kernel_rfl
theorem und9 : Try.prog.underlying 9 = some .string := by kernel_rfl
theorem und4 : Try.prog.underlying 4 = some .bool := by kernel_rfl
theorem cells9 : Try.prog.cellsOf 9 = 1 := by kernel_rfl
theorem cells22 : Try.prog.cellsOf 22 = 1 := by kernel_rfl
theorem cells24 : Try.prog.cellsOf 24 = 1 := by kernel_rfl

theorem open_pic {H : Type} {enc : TypeId × Value → H} {W : World} {base : Nat} {v : Value} {d : DataW H} {p : List MemPlace} (hv : Value.okWide Try.prog W .any base 24 v) (h : DataW.Trod enc Try.prog W 0 (fun _ => true) true 24 v d p) :
    ∃ u rows, v = .agg #[u] ∧ ArgS W u rows ∧ rows.length ≤ 9223372036854775807 ∧ ∀ r ∈ rows, r.size ≤ 9223372036854775807 := by
  obtain ⟨cs, rfl, hsz⟩ := okWide_struct und24 hv
  rw [cells24] at hsz
  obtain ⟨u, rfl⟩ : ∃ u, cs = #[u] := by
    match cs, hsz with
    | ⟨[u]⟩, _ => exact ⟨u, rfl⟩
  obtain ⟨fuel, hf⟩ := h
  obtain ⟨y0, n, _, _, h0⟩ := trod_struct1 und24 hf
  have h0 : DataW.trod enc Try.prog W 0 (fun _ => true) true n 22 [u] = some y0 := by rw [cells22] at h0; exact h0
  rcases open_strings und22 und9 cells9 h0 with ⟨hcs, _⟩ | ⟨a, len, cap, ss, hcs, _, hl, hm, hz, _, hcell, hws⟩
  · simp only [List.cons.injEq, and_true] at hcs
    subst hcs
    exact ⟨_, [], rfl, .inl ⟨_, 0, 0, rfl, rfl, rfl⟩, by simp, by simp⟩
  · simp only [List.cons.injEq, and_true] at hcs
    subst hcs
    simp only [if_true] at hz
    have hm' : cap ≤ 9223372036854775807 := by have h : cap ≤ Go.maxLen := hm; unfold Go.maxLen at h; omega
    have hws' : ∀ r ∈ ss, r.size ≤ 9223372036854775807 := fun r hr => by have h : r.size ≤ Go.maxLen := hws r hr; unfold Go.maxLen at h; omega
    have htl : (ss.take len).length = len := by rw [List.length_take]; omega
    refine ⟨_, ss.take len, rfl, ?_, by rw [htl]; omega, fun r hr => hws' r (List.mem_of_mem_take hr)⟩
    rcases Nat.eq_zero_or_pos len with rfl | hpos
    · exact .inl ⟨_, 0, cap, rfl, rfl, by simp⟩
    · right
      obtain ⟨b, o, spot⟩ := a
      have hsp : spot = none := by
        have := hcell 0 (by omega)
        unfold Addr.add World.cell? at this
        rw [if_pos rfl] at this
        cases spot with
        | none => rfl
        | some x =>
          exfalso
          simp only at this
          split at this <;> simp at this
      subst hsp
      refine ⟨b, o, cap, by rw [htl], fun j hj => ?_⟩
      rw [htl] at hj
      have hc := hcell j (by omega)
      rw [Go.SL.addr_add] at hc
      unfold World.cell? at hc
      simp only at hc
      split at hc
      · rename_i cs E fz he
        refine ⟨cs, E, fz, he, ?_⟩
        simp only [Option.isSome_none, Bool.false_eq_true, if_false] at hc
        rw [hc, List.getElem_take, List.getD_eq_getElem?_getD, List.getElem?_eq_getElem (by omega)]; rfl
      · cases hc
end Go.Proofs.Ytnpkcdegckfjeaa
