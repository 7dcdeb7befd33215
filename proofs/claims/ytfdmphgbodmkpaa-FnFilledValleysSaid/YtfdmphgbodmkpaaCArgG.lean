/- Opening the laws' arguments: a struct of one slice of slices of numbers. -/
import Derived.Test.YtfdmphgbodmkpaaCLawG
import Derived.Test.YtfdmphgbodmkpaaRows
import Derived.ProofKit
import Derived.SliceStrings
import Derived.ChangeSlices
import Derived.ReadAgain
import Derived.ChangeSame
import Derived.JoinedOf
set_option linter.unusedVariables false
set_option linter.unusedSimpArgs false
namespace Go.Proofs.Ytfdmphgbodmkpaa
open Go Go.ChangeShapes Go.WideShapes Go.ChangeAt
set_option maxRecDepth 100000

theorem own : ownKnob Try.prog.godebug = none := by kernel_rfl
theorem undG : Try.prog.underlying ty_laws_Grey = some (.struct #[⟨ "Rows", ty_SSint64, 0, false, "", "", 0⟩]) := by kernel_rfl
theorem undR : Try.prog.underlying ty_SSint64 = some (.slice ty_Sint64) := by kernel_rfl
theorem undS : Try.prog.underlying ty_Sint64 = some (.slice ty_int64) := by kernel_rfl
theorem undN : Try.prog.underlying ty_int64 = some (.int .i64) := by kernel_rfl
theorem undB : Try.prog.underlying ty_bool = some .bool := by kernel_rfl
theorem cellsN : Try.prog.cellsOf ty_int64 = 1 := by kernel_rfl
theorem cellsS : Try.prog.cellsOf ty_Sint64 = 1 := by kernel_rfl
theorem cellsR : Try.prog.cellsOf ty_SSint64 = 1 := by kernel_rfl
theorem cellsG : Try.prog.cellsOf ty_laws_Grey = 1 := by kernel_rfl

/-- Cells that are read: where they lie. -/
theorem spot_none {W : World} {a : Addr} {v : Value} (h : W.cell? (a.add 0) = some v) : a.spot = none := by
  unfold Addr.add World.cell? at h
  rw [if_pos rfl] at h
  obtain ⟨b, o, spot⟩ := a
  cases spot with
  | none => rfl
  | some x =>
    exfalso
    simp only at h
    split at h <;> simp at h
theorem cells_at {W : World} {b o j : Nat} {v : Value} (h : W.cell? ((⟨b, o, none⟩ : Addr).add j) = some v) : ∃ cs E fz, W.heap[b]? = some (.cells cs E fz) ∧ cs[o + j]? = some v := by
  rw [Go.SL.addr_add] at h
  unfold World.cell? at h
  simp only at h
  split at h
  · rename_i cs E fz he
    refine ⟨cs, E, fz, he, ?_⟩
    simp only [Option.isSome_none, Bool.false_eq_true, if_false] at h
    exact h
  · cases h

theorem open_row1 {H : Type} {enc : TypeId × Value → H} {W : World} {n : Nat} {u : Value} {y : DataW H × List MemPlace} (h : DataW.trod enc Try.prog W 0 (fun _ => true) true n ty_Sint64 [u] = some y) : ∃ l, ArgI W u l ∧ l.length ≤ big := by
  rcases open_ints undS undN cellsN h with ⟨hcs, _⟩ | ⟨a, len, cap, zs, hcs, _, hl, hm, hz, _, hcell, _⟩
  · simp only [List.cons.injEq, and_true] at hcs
    subst hcs
    exact ⟨[], .inl ⟨_, _, rfl, rfl⟩, by simp⟩
  · simp only [List.cons.injEq, and_true] at hcs
    subst hcs
    simp only [if_true] at hz
    have hm' : cap ≤ big := by have h : cap ≤ Go.maxLen := hm; unfold Go.maxLen at h; unfold big; omega
    have htl : (zs.take len).length = len := by rw [List.length_take]; omega
    refine ⟨zs.take len, ?_, by rw [htl]; omega⟩
    rcases Nat.eq_zero_or_pos len with rfl | hpos
    · exact .inl ⟨_, cap, rfl, by simp⟩
    · right
      have hsp : a.spot = none := spot_none (hcell 0 (by omega))
      obtain ⟨b, o, spot⟩ := a
      simp only at hsp
      subst hsp
      refine ⟨b, o, cap, by rw [htl], fun j hj => ?_⟩
      rw [htl] at hj
      obtain ⟨cs, E, fz, h1, h2⟩ := cells_at (hcell j (by omega))
      refine ⟨cs, E, fz, h1, ?_⟩
      rw [h2, List.getElem_take, List.getD_eq_getElem?_getD, List.getElem?_eq_getElem (by omega)]; rfl

theorem open_grey {H : Type} {enc : TypeId × Value → H} {W : World} {base : Nat} {v : Value} {d : DataW H} {p : List MemPlace} (hv : Value.okWide Try.prog W .any base ty_laws_Grey v) (h : DataW.Trod enc Try.prog W 0 (fun _ => true) true ty_laws_Grey v d p) :
    ∃ u L, v = .agg #[u] ∧ ArgR W u L ∧ L.length ≤ big ∧ ∀ l ∈ L, l.length ≤ big := by
  obtain ⟨cs, rfl, hsz⟩ := okWide_struct undG hv
  rw [cellsG] at hsz
  obtain ⟨u, rfl⟩ : ∃ u, cs = #[u] := by
    match cs, hsz with
    | ⟨[u]⟩, _ => exact ⟨u, rfl⟩
  obtain ⟨fuel, hf⟩ := h
  obtain ⟨y0, n, _, _, h0⟩ := trod_struct1 undG hf
  have h0 : DataW.trod enc Try.prog W 0 (fun _ => true) true n ty_SSint64 [u] = some y0 := by rw [cellsR] at h0; exact h0
  rcases DataW.trod_slice undR h0 with ⟨hcs, _⟩ | ⟨a, len, cap, elems, rest, m, _, hcs, _, _, hl, hm, hlen, hel, _⟩
  · simp only [List.cons.injEq, and_true] at hcs
    subst hcs
    exact ⟨_, [], rfl, .inl ⟨_, _, rfl, rfl⟩, by simp, by simp⟩
  · simp only [List.cons.injEq, and_true] at hcs
    subst hcs
    have hm' : cap ≤ big := by have h : cap ≤ Go.maxLen := hm; unfold Go.maxLen at h; unfold big; omega
    have each : ∀ i, i < len → ∃ ru l, W.cell? (a.add i) = some ru ∧ ArgI W ru l ∧ l.length ≤ big := by
      intro i hi
      have hE := hel i hi
      rw [cellsS, Nat.mul_one] at hE
      have hil : i < elems.length := by rw [hlen]; exact hi
      rw [List.getElem?_eq_getElem hil] at hE
      simp only [Option.bind_eq_some_iff] at hE
      obtain ⟨c1, hc1, hy1⟩ := hE
      have hc0 := (World.cells?_some hc1).2.2
      have hlen1 : c1.length = 1 := (World.cells?_some hc1).2.1
      obtain ⟨c, rfl⟩ : ∃ c, c1 = [c] := by
        match c1, hlen1 with
        | [c], _ => exact ⟨c, rfl⟩
      have hcell := cell_of_cells?_one hc1
      obtain ⟨l, hl1, hl2⟩ := open_row1 hy1
      exact ⟨c, l, hcell, hl1, hl2⟩
    let L : List (List Int) := (List.range len).attach.map fun x => (each x.1 (List.mem_range.1 x.2)).choose_spec.choose
    have hLl : L.length = len := by simp [L]
    have hLg : ∀ i (hi : i < len), ∃ ru, W.cell? (a.add i) = some ru ∧ ArgI W ru (L[i]'(by rw [hLl]; exact hi)) ∧ (L[i]'(by rw [hLl]; exact hi)).length ≤ big := by
      intro i hi
      have := (each i hi).choose_spec.choose_spec
      refine ⟨_, this.1, ?_⟩
      simp only [L, List.getElem_map, List.getElem_attach, List.getElem_range]
      exact this.2
    refine ⟨_, L, rfl, ?_, by rw [hLl]; omega, fun l hl' => ?_⟩
    · rcases Nat.eq_zero_or_pos len with rfl | hpos
      · exact .inl ⟨_, cap, rfl, List.length_eq_zero_iff.1 hLl⟩
      · right
        obtain ⟨r0, hr0, _⟩ := hLg 0 hpos
        have hsp : a.spot = none := spot_none hr0
        obtain ⟨b, o, spot⟩ := a
        simp only at hsp
        subst hsp
        refine ⟨b, o, cap, by rw [hLl], fun j hj => ?_⟩
        rw [hLl] at hj
        obtain ⟨ru, q1, q2, _⟩ := hLg j hj
        obtain ⟨cs, E, fz, h1, h2⟩ := cells_at q1
        exact ⟨cs, E, fz, ru, h1, h2, q2⟩
    · obtain ⟨i, hi⟩ := List.getElem?_of_mem hl'
      have hil := (List.getElem?_eq_some_iff.1 hi).1
      obtain ⟨ru, _, _, q3⟩ := hLg i (by rw [← hLl]; exact hil)
      rw [List.getElem?_eq_getElem hil, Option.some.injEq] at hi
      rw [← hi]; exact q3
end Go.Proofs.Ytfdmphgbodmkpaa
