/- FnFilledValleys: filled valleys leave those that are deep enough, change nothing when they are filled again, and the depth at the place of a valley, if there is a lesser number, is at least how long it lasts: for all arguments; no condition. -/
import Derived.Test.YtfdmphgbodmkpaaCArgB
import Derived.Test.YtfdmphgbodmkpaaCLawZ
import Derived.WalkKit
import Derived.OpenShut
set_option linter.unusedVariables false
set_option linter.unusedSimpArgs false
namespace Go.Proofs.Ytfdmphgbodmkpaa.fnFilledLaw
open Go Go.ChangeShapes Go.WideShapes Go.ChangeAt Go.RowKit
set_option maxRecDepth 100000

theorem params : Try.f3.params = #[ty_Suint8, ty_Suint8] := by kernel_rfl
theorem contract (H : Type) (enc : TypeId × Value → H) (W : World) (base : Nat) (args : Array Value) (ds gs : List (DataW H)) (before : List MemPlace)
    (hval : ∀ (j : Nat) t v, Try.f3.params[j]? = some t → args[j]? = some v → Value.okWide Try.prog W .any base t v)
    (hW : DataW.Whole enc Try.prog Try.f3.params.toList Rows.fnFilledValleysSpec.vars false W args.toList ds gs before) :
    Calls Try.prog 3 args W fun e W' => ∃ v, e = .returned v ∧ Rows.fnFilledValleysSpec.post enc Try.prog Try.f3 false true false false W args v W' := by
  have hW' := hW
  have hlt0 := hW.lt
  obtain ⟨p, q, hA0, hV, rfl, hfz, hnd⟩ := hW
  have hA : DataW.TrodAll enc Try.prog W 0 (fun _ => true) true Try.f3.params.toList args.toList ds p := hA0
  rw [params] at hA hval
  obtain ⟨v0, v1, d0, d1, p0, p1, rfl, rfl, rfl, h0, h1⟩ := trodAll_two hA
  obtain ⟨rfl, rfl⟩ := trodVars_none hV
  obtain ⟨l0, hu0⟩ := open_byteArg (hval 0 _ v0 rfl rfl) h0
  obtain ⟨l1, hu1⟩ := open_byteArg (hval 1 _ v1 rfl rfl) h1
  have hcall := law_Filled_c (K := fun v w' => v = .bool true ∧ SL.Ext W w') hu0 hu1 (fun w' he => ⟨rfl, he⟩)
  refine hcall.2.mono fun e W' he => ?_
  cases e with
  | returned v =>
    obtain ⟨rfl, hE⟩ := he
    have hbel : Below W.heap.size W W' := ⟨hE.os, hE.tape, hE.output, hE.size, fun k hk => hE.block k hk id⟩
    have hltp0 : ∀ x ∈ p0, x.block < W.heap.size := fun x hx => hlt0 x (List.mem_append_left _ (List.mem_append_left _ hx))
    have hltp1 : ∀ x ∈ p1, x.block < W.heap.size := fun x hx => hlt0 x (List.mem_append_left _ (List.mem_append_right _ hx))
    refine ⟨_, rfl, [d0, d1], [], (p0 ++ p1) ++ [], [], p0 ++ p1, [], hW', ?_, ?_, ?_, hbel.frame _, fun h => by cases h⟩
    · exact trodAll_mk1 (shut_bool undB _)
    · have q0 := Below.trod (by kernel_rfl) (by kernel_rfl) (of_decide_eq_true (by kernel_rfl)) h0 hbel hltp0
      have q1 := Below.trod (by kernel_rfl) (by kernel_rfl) (of_decide_eq_true (by kernel_rfl)) h1 hbel hltp1
      exact trodAll_mk2 q0 q1
    · exact rfl
  | panicked c => exact he.elim
  | outgrown => exact he.elim

theorem lifted (os : Os) (started : os.Started) (H : Type) (enc : TypeId × Value → H) :
    ReturnsInHanded {} Try.checked os 3 .any (Rows.fnFilledValleysSpec.pre6 enc Try.prog Try.f3 Rows.fnFilledValleysRow.domain false) (Rows.fnFilledValleysSpec.post enc Try.prog Try.f3 false true false false) := by
  refine returnsInHanded_of_change (C := Try.checked) own started (by kernel_rfl) Try.func3
    (ChangeSpec.witness6 (enc := enc) (C := Try.checked) false ⟨#[], #[.slice none 0 0, .slice none 0 0], []⟩ 8 (by kernel_rfl) (by kernel_rfl) (by kernel_rfl) (by kernel_rfl)) ?_
  intro W base args ds gs before hval hW _ _
  exact contract H enc W base args ds gs before hval hW

theorem holds : Rows.FnFilledValleysSaid :=
  OpenClaim.holds_of_wide 3 Try.f3 rfl rfl rfl rfl rfl rfl rfl ⟨rfl, rfl, rfl, rfl, rfl⟩ rfl rfl rfl rfl rfl (by kernel_rfl) Try.func3 (by kernel_rfl)
    (of_decide_eq_true (by kernel_rfl)) (by unfold Func.isWrapper; first | (rw [if_pos (by decide +kernel)]; kernel_rfl) | (rw [if_neg (by decide +kernel)]; exact ⟨rfl, rfl⟩))
    (fun os started H enc _ => lifted os started H enc)
end Go.Proofs.Ytfdmphgbodmkpaa.fnFilledLaw
