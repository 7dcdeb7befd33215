/- Rules as equations, for simp. No program in sight. -/
import Derived.Test.YtfdmphgbodmkpaaPrim3
set_option linter.unusedVariables false
set_option linter.unusedSimpArgs false
namespace Go.SL
open Go Go.RowKit

theorem eff_eq {P : Program} {s : Sem Value} {w w' : World} {K : Value → World → Prop} {v : Value} (h : s.run P w = .ok v w') : eff P s w K = K v w' := by
  apply propext
  constructor
  · rintro ⟨u, w1, h1, h2⟩
    rw [h] at h1; cases h1; exact h2
  · exact fun hk => ⟨v, w', h, hk⟩
theorem rd_eq {P : Program} {s : Sem Value} {w : World} {K : Value → Prop} {v : Value} (h : s.run P w = .ok v w) : rd P s w K = K v := by
  apply propext
  constructor
  · rintro ⟨u, h1, h2⟩
    rw [h] at h1; cases h1; exact h2
  · exact fun hk => ⟨v, h, hk⟩
theorem pur_eq {P : Program} {s : Sem Value} {K : Value → Prop} {v : Value} (h : ∀ w, s.run P w = .ok v w) : pur P s K = K v := by
  apply propext
  constructor
  · rintro ⟨u, h1, h2⟩
    have := (h default).symm.trans (h1 default)
    cases this; exact h2
  · exact fun hk => ⟨v, h, hk⟩
section
variable {P : Program} {T : TypeId} {k : IntKind} {a b : Int} {K : Value → Prop} {c : Bool}
theorem pur_lss : pur P (binOp .lss T (.int k a) (.int k b)) K = K (.bool (decide (a < b))) := pur_eq fun w => by simp [binOp, Op.intCmp]
theorem pur_leq : pur P (binOp .leq T (.int k a) (.int k b)) K = K (.bool (decide (a ≤ b))) := pur_eq fun w => by simp [binOp, Op.intCmp]
theorem pur_gtr : pur P (binOp .gtr T (.int k a) (.int k b)) K = K (.bool (decide (b < a))) := pur_eq fun w => by simp [binOp, Op.intCmp]
theorem pur_geq : pur P (binOp .geq T (.int k a) (.int k b)) K = K (.bool (decide (b ≤ a))) := pur_eq fun w => by simp [binOp, Op.intCmp]
theorem rd_eql {x y : Operand} {w : World} : rd P (binSem .eql T x y (.int k a) (.int k b)) w K = K (.bool (decide (a = b))) := rd_eq (eql_run w)
theorem rd_neq {x y : Operand} {w : World} : rd P (binSem .neq T x y (.int k a) (.int k b)) w K = K (.bool (decide (a ≠ b))) := rd_eq (neq_run w)
theorem pur_not : pur P (Op.unary .not (.bool c)) K = K (.bool !c) := pur_eq fun _ => rfl
theorem pickS_eq {u v : Value} : pickS (.bool c) u v K = K (bif c then u else v) := by cases c <;> rfl
theorem ifB_eq {A B : Prop} : ifB (.bool c) A B = (if c = true then A else B) := by cases c <;> simp [ifB]
theorem ifG_eq_t {A B : Prop} : ifG (.bool c) true A B = (if c = true then A else B) := by cases c <;> simp [ifG]
theorem ifG_undef {w : Bool} {A B : Prop} : ifG undef w A B = B := rfl
theorem ifG_eq_f {A B : Prop} : ifG (.bool c) false A B = (if c = true then B else A) := by cases c <;> simp [ifG]
theorem nilS_eq {ad : Addr} : nilS (.pointer (some ad)) K = K (.pointer (some ad)) := rfl
theorem nth0 {v : Value} {l : List Value} : nth (v :: l) 0 = v := rfl
theorem nth1 {u v : Value} {l : List Value} : nth (u :: v :: l) 1 = v := rfl
theorem nth2 {u v x : Value} {l : List Value} : nth (u :: v :: x :: l) 2 = x := rfl
theorem nth3 {u v x y : Value} {l : List Value} : nth (u :: v :: x :: y :: l) 3 = y := rfl
theorem joinS_eq {R : Fr → List Value → World → Prop} {X : (List Value → World → Prop) → Prop} : joinS R X = X (fun s w => ∀ g, R g s w) := rfl
theorem all_fr {p : Prop} : (∀ _ : Fr, p) = p := propext ⟨fun h => h (fun _ => undef), fun h _ => h⟩
end
theorem joinS_i {R : Fr → List Value → World → Prop} {X : (List Value → World → Prop) → Prop} (h : X (fun s w => ∀ g, R g s w)) : joinS R X := h
/-- A meeting of ways behind a name. -/
theorem joinS_k {R : Fr → List Value → World → Prop} {X : (List Value → World → Prop) → Prop} (h : ∀ J : List Value → World → Prop, (∀ s w, (∀ g, R g s w) → J s w) → X J) : joinS R X := h _ fun _ _ h => h
/-- A loop by what holds at its head and a measure. -/
theorem loopS_i {F : (List Value → World → Prop) → Fr → List Value → World → Prop} {s : List Value} {w : World} (I : List Value → World → Prop) (μ : List Value → World → Nat) (h0 : I s w)
    (h : ∀ g s w, I s w → F (fun s' w' => I s' w' ∧ μ s' w' < μ s w) g s w) : loopS F s w := ⟨I, μ, h0, h⟩
theorem nilS_i {b o : Nat} {K : Value → Prop} (h : K (ptr b o)) : nilS (ptr b o) K := h
/-- A field behind fields of one cell each. -/
theorem fldi_i {P : Program} {T : TypeId} {i b o : Nat} {K : Value → Prop} (hT : fieldOff P T i = some i) (hK : K (ptr b (o + i))) : pur P (Instr.fieldAt T (ptr b o) i) K := fld_i hT hK
theorem least_ex {p : Nat → Prop} (h : ∃ m, p m) : ∃ m, p m ∧ ∀ k, k < m → ¬ p k := by
  obtain ⟨m, hm⟩ := h
  induction m using Nat.strongRecOn with
  | _ m ih =>
    by_cases hk : ∃ k, k < m ∧ p k
    · obtain ⟨k, hk1, hk2⟩ := hk; exact ih k hk1 hk2
    · exact ⟨m, hm, fun k hk' hk2 => hk ⟨k, hk', hk2⟩⟩
/-- A loop that counts down a number that stands in no slot. -/
theorem loopS_n {F : (List Value → World → Prop) → Fr → List Value → World → Prop} {s : List Value} {w : World} (n : Nat) (I : Nat → List Value → World → Prop) (h0 : I n s w)
    (h : ∀ n g s w, I n s w → ∀ N : List Value → World → Prop, (∀ m s' w', m < n → I m s' w' → N s' w') → F N g s w) : loopS F s w := by
  refine ⟨fun s w => ∃ m, I m s w, fun s w => Classical.epsilon (fun m => I m s w ∧ ∀ k, k < m → ¬ I k s w), ⟨n, h0⟩, ?_⟩
  rintro g s w ⟨m0, hm0⟩
  have hs := Classical.epsilon_spec (least_ex (p := fun m => I m s w) ⟨m0, hm0⟩)
  refine h _ g s w hs.1 _ fun m s' w' hlt hI => ⟨⟨m, hI⟩, ?_⟩
  have hs' := Classical.epsilon_spec (least_ex (p := fun m => I m s' w') ⟨m, hI⟩)
  exact Nat.lt_of_le_of_lt (Nat.le_of_not_lt fun hh => hs'.2 m hh hI) hlt
end Go.SL
