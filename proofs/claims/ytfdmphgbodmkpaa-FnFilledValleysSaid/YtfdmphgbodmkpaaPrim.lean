/- Rules for the S-layer's steps, and the words for worlds: what a step does to memory. No program in sight. -/
import Derived.Test.YtfdmphgbodmkpaaCore
import Derived.IntWalk
set_option linter.unusedVariables false
set_option linter.unusedSimpArgs false
namespace Go.SL
open Go Go.RowKit

abbrev Heap := Array Obj
abbrev ptr (b o : Nat) : Value := .pointer (some ⟨b, o, none⟩)
abbrev i64 (n : Int) : Value := .int .i64 n
abbrev row (cs : Array Value) (T : TypeId) : Obj := .cells cs T (0, 0)

/-- w' has w's old blocks, but for those of S. -/
structure Mod (S : Nat → Prop) (w w' : World) : Prop where
  os : w'.os = w.os
  tape : w'.tape = w.tape
  output : w'.output = w.output
  size : w.heap.size ≤ w'.heap.size
  block : ∀ k, k < w.heap.size → ¬ S k → w'.heap[k]? = w.heap[k]?
abbrev Ext (w w' : World) : Prop := Mod (fun _ => False) w w'

theorem Mod.refl {S : Nat → Prop} (w : World) : Mod S w w := ⟨rfl, rfl, rfl, Nat.le_refl _, fun _ _ _ => rfl⟩
theorem Mod.trans {S : Nat → Prop} {a b c : World} (h : Mod S a b) (k : Mod S b c) : Mod S a c :=
  ⟨k.os.trans h.os, k.tape.trans h.tape, k.output.trans h.output, Nat.le_trans h.size k.size, fun i hi hs => (k.block i (Nat.lt_of_lt_of_le hi h.size) hs).trans (h.block i hi hs)⟩
theorem Mod.mono {S T : Nat → Prop} {a b : World} (h : Mod S a b) (hs : ∀ k, k < a.heap.size → S k → T k) : Mod T a b :=
  ⟨h.os, h.tape, h.output, h.size, fun i hi ht => h.block i hi fun hS => ht (hs i hi hS)⟩
theorem Mod.comp {S T U : Nat → Prop} {a b c : World} (h : Mod S a b) (k : Mod T b c) (h1 : ∀ i, i < a.heap.size → S i → U i) (h2 : ∀ i, i < a.heap.size → T i → U i) : Mod U a c :=
  ⟨k.os.trans h.os, k.tape.trans h.tape, k.output.trans h.output, Nat.le_trans h.size k.size, fun i hi hu => (k.block i (Nat.lt_of_lt_of_le hi h.size) fun ht => hu (h2 i hi ht)).trans (h.block i hi fun hs => hu (h1 i hi hs))⟩
theorem Mod.drew {S : Nat → Prop} (w : World) : Mod S w w.drew := ⟨rfl, rfl, rfl, Nat.le_refl _, fun _ _ _ => rfl⟩
theorem Ext.mod {S : Nat → Prop} {a b : World} (h : Ext a b) : Mod S a b := h.mono fun _ _ h => h.elim
theorem lt_of_at {h : Heap} {b : Nat} {o : Obj} (e : h[b]? = some o) : b < h.size := (Array.getElem?_eq_some_iff.1 e).1
theorem Mod.at_ {S : Nat → Prop} {w w' : World} (h : Mod S w w') {b : Nat} {o : Obj} (e : w.heap[b]? = some o) (hb : ¬ S b) : w'.heap[b]? = some o := (h.block b (lt_of_at e) hb).trans e
theorem Ext.at_ {w w' : World} (h : Ext w w') {b : Nat} {o : Obj} (e : w.heap[b]? = some o) : w'.heap[b]? = some o := Mod.at_ h e id
theorem Ext.trans {a b c : World} (h : Ext a b) (k : Ext b c) : Ext a c := Mod.trans h k

/-- The same but for draws. -/
structure Same (w w' : World) : Prop where
  heap : w'.heap = w.heap
  os : w'.os = w.os
  tape : w'.tape = w.tape
  output : w'.output = w.output
theorem Same.refl (w : World) : Same w w := ⟨rfl, rfl, rfl, rfl⟩
theorem Same.trans {a b c : World} (h : Same a b) (k : Same b c) : Same a c := ⟨k.heap.trans h.heap, k.os.trans h.os, k.tape.trans h.tape, k.output.trans h.output⟩
theorem Same.drew (w : World) : Same w w.drew := ⟨rfl, rfl, rfl, rfl⟩
theorem Same.mod {S : Nat → Prop} {a b : World} (h : Same a b) : Mod S a b := ⟨h.os, h.tape, h.output, by rw [h.heap]; exact Nat.le_refl _, fun _ _ _ => by rw [h.heap]⟩
theorem Same.ext {a b : World} (h : Same a b) : Ext a b := h.mod

theorem Ext.alloc (w : World) (o : Obj) : Ext w (w.alloc o) :=
  ⟨rfl, rfl, rfl, by show _ ≤ (w.heap.push o).size; simp, fun k hk _ => by show (w.heap.push o)[k]? = _; rw [Array.getElem?_push, if_neg (by omega)]⟩
theorem at_alloc (w : World) (o : Obj) : (w.alloc o).heap[w.heap.size]? = some o := by show (w.heap.push o)[w.heap.size]? = _; simp
theorem size_alloc (w : World) (o : Obj) : (w.alloc o).heap.size = w.heap.size + 1 := by show (w.heap.push o).size = _; simp

def setAt (w : World) (b : Nat) (o : Obj) : World := { w with heap := w.heap.setIfInBounds b o }
theorem setAt_at (w : World) {b : Nat} (hb : b < w.heap.size) (o : Obj) : (setAt w b o).heap[b]? = some o := by simp [setAt, hb]
theorem setAt_ne (w : World) {b k : Nat} (o : Obj) (h : k ≠ b) : (setAt w b o).heap[k]? = w.heap[k]? := by simp [setAt, Ne.symm h]
theorem setAt_mod (w : World) (b : Nat) (o : Obj) : Mod (· = b) w (setAt w b o) := ⟨rfl, rfl, rfl, by simp [setAt], fun k _ hk => setAt_ne w o hk⟩

/-! ### Rules -/
theorem pur_i {P : Program} {s : Sem Value} {K : Value → Prop} {v : Value} (h : ∀ w, s.run P w = .ok v w) (hK : K v) : pur P s K := ⟨v, h, hK⟩
theorem rd_i {P : Program} {s : Sem Value} {w : World} {K : Value → Prop} {v : Value} (h : s.run P w = .ok v w) (hK : K v) : rd P s w K := ⟨v, h, hK⟩
theorem rdF_i {P : Program} {S : World → Prop} {s : Sem Value} {K : Value → Prop} {v : Value} (h : ∀ w, S w → s.run P w = .ok v w) (hK : K v) : rdF P S s K := ⟨v, h, hK⟩
theorem eff_i {P : Program} {s : Sem Value} {w w' : World} {K : Value → World → Prop} {v : Value} (h : s.run P w = .ok v w') (hK : K v w') : eff P s w K := ⟨v, w', h, hK⟩
theorem effU_i {P : Program} {s : Sem Unit} {w w' : World} {K : World → Prop} (h : s.run P w = .ok () w') (hK : K w') : effU P s w K := ⟨w', h, hK⟩

def I64 (x : Int) : Prop := -9223372036854775808 ≤ x ∧ x ≤ 9223372036854775807
theorem I64.of {x : Int} (h1 : -1000000000000000000 ≤ x) (h2 : x ≤ 1000000000000000000) : I64 x := ⟨by omega, by omega⟩
theorem I64.lo {x : Int} (h : I64 x) : -9223372036854775808 ≤ x := h.1
theorem I64.hi {x : Int} (h : I64 x) : x ≤ 9223372036854775807 := h.2
section
variable {P : Program} {T : TypeId} {a b : Int} {K : Value → Prop}
theorem add_i (h : I64 (a + b)) (hK : K (i64 (a + b))) : pur P (binOp .add T (i64 a) (i64 b)) K :=
  pur_i (v := i64 (a + b)) (fun w => by simp [binOp, Op.intArith, IntWalk.i64_in _ h]) hK
theorem sub_i (h : I64 (a - b)) (hK : K (i64 (a - b))) : pur P (binOp .sub T (i64 a) (i64 b)) K :=
  pur_i (v := i64 (a - b)) (fun w => by simp [binOp, Op.intArith, IntWalk.i64_in _ h]) hK
theorem mul_i (h : I64 (a * b)) (hK : K (i64 (a * b))) : pur P (binOp .mul T (i64 a) (i64 b)) K :=
  pur_i (v := i64 (a * b)) (fun w => by simp [binOp, Op.intArith, IntWalk.i64_in _ h]) hK
theorem quo_i (hb : b ≠ 0) (h : I64 (a.tdiv b)) (hK : K (i64 (a.tdiv b))) : pur P (binOp .quo T (i64 a) (i64 b)) K :=
  pur_i (v := i64 (a.tdiv b)) (fun w => by simp [binOp, Op.intDiv, hb, IntWalk.i64_in _ h]) hK
theorem rem_i (hb : b ≠ 0) (hK : K (i64 (a.tmod b))) : pur P (binOp .rem T (i64 a) (i64 b)) K :=
  pur_i (v := i64 (a.tmod b)) (fun w => by simp [binOp, Op.intDiv, hb]) hK
theorem lss_i {k : IntKind} (hK : K (.bool (decide (a < b)))) : pur P (binOp .lss T (.int k a) (.int k b)) K :=
  pur_i (v := .bool (decide (a < b))) (fun w => by simp [binOp, Op.intCmp]) hK
theorem leq_i {k : IntKind} (hK : K (.bool (decide (a ≤ b)))) : pur P (binOp .leq T (.int k a) (.int k b)) K :=
  pur_i (v := .bool (decide (a ≤ b))) (fun w => by simp [binOp, Op.intCmp]) hK
theorem gtr_i {k : IntKind} (hK : K (.bool (decide (a > b)))) : pur P (binOp .gtr T (.int k a) (.int k b)) K :=
  pur_i (v := .bool (decide (a > b))) (fun w => by simp [binOp, Op.intCmp]) hK
theorem geq_i {k : IntKind} (hK : K (.bool (decide (a ≥ b)))) : pur P (binOp .geq T (.int k a) (.int k b)) K :=
  pur_i (v := .bool (decide (a ≥ b))) (fun w => by simp [binOp, Op.intCmp]) hK
theorem eql_run {k : IntKind} {x y : Operand} (w : World) : (binSem .eql T x y (.int k a) (.int k b)).run P w = .ok (.bool (decide (a = b))) w := by
  by_cases h : a = b <;> simp [binSem, eqGuard, binOp, Op.intCmp, h]
theorem neq_run {k : IntKind} {x y : Operand} (w : World) : (binSem .neq T x y (.int k a) (.int k b)).run P w = .ok (.bool (decide (a ≠ b))) w := by
  by_cases h : a = b <;> simp [binSem, eqGuard, binOp, Op.intCmp, h]
theorem eql_i {k : IntKind} {x y : Operand} {w : World} (hK : K (.bool (decide (a = b)))) : rd P (binSem .eql T x y (.int k a) (.int k b)) w K := rd_i (eql_run w) hK
theorem neq_i {k : IntKind} {x y : Operand} {w : World} (hK : K (.bool (decide (a ≠ b)))) : rd P (binSem .neq T x y (.int k a) (.int k b)) w K := rd_i (neq_run w) hK
theorem not_i {c : Bool} (hK : K (.bool !c)) : pur P (Op.unary .not (.bool c)) K := pur_i (v := .bool !c) (fun _ => rfl) hK
theorem neg_i (h : I64 (-a)) (hK : K (i64 (-a))) : pur P (Op.unary .neg (i64 a)) K :=
  pur_i (v := i64 (-a)) (fun w => by simp [Op.unary, Op.intArith, Int.zero_sub, IntWalk.i64_in _ h]) hK
end
theorem ifB_i {c : Prop} [Decidable c] {A B : Prop} (h1 : c → A) (h2 : ¬ c → B) : ifB (.bool (decide c)) A B := by
  by_cases h : c
  · simp only [h, decide_true]; exact h1 h
  · simp only [h, decide_false]; exact h2 h
theorem ifB_b {c : Bool} {A B : Prop} (h1 : c = true → A) (h2 : c = false → B) : ifB (.bool c) A B := by
  cases c <;> first | exact h1 rfl | exact h2 rfl
theorem ifG_t {c : Bool} {A B : Prop} (h1 : c = true → A) (h2 : c = false → B) : ifG (.bool c) true A B := by cases c <;> first | exact h1 rfl | exact h2 rfl
theorem ifG_f {c : Bool} {A B : Prop} (h1 : c = false → A) (h2 : c = true → B) : ifG (.bool c) false A B := by cases c <;> first | exact h1 rfl | exact h2 rfl
theorem pickS_b {c : Bool} {a b : Value} {K : Value → Prop} (h1 : c = true → K a) (h2 : c = false → K b) : pickS (.bool c) a b K := ifB_b h1 h2
theorem drawS_i {w : World} {F : World → Prop} (h : F w.drew) : drawS w F := h
theorem drawF_i (S : World → Prop) {w : World} {F : (World → Prop) → World → Prop} (hS : S w.drew) (h : F S w.drew) : drawF w F := ⟨S, hS, h⟩
theorem ext_i {P : Program} {vs : Array Value} {i : Nat} {v : Value} {K : Value → Prop} (h : vs[i]? = some v) (hK : K v) : pur P (Instr.extract (.tuple vs) i) K :=
  pur_i (v := v) (fun w => by simp [Instr.extract, h]) hK
theorem callV_i {P : Program} {g : FuncId} {first captured args : Array Value} {w : World} {K : Value → World → Prop} (h : callS P g ((first ++ args) ++ captured) w K) :
    callV P (.func (.func g) first captured) args w K := h

/-! ### Types -/
def fieldOff (P : Program) (T : TypeId) (i : Nat) : Option Nat :=
  match P.underlying T with
  | some (.struct fs) => match fs[i]? with
    | some f => match P.info? f.type with
      | some inf => bif Nat.beq inf.size 0 then none else some f.offset
      | none => none
    | none => none
  | _ => none
def plainT (P : Program) (T : TypeId) : Bool :=
  match P.info? T, P.underlying T with
  | some _, some (.struct _) => false
  | some _, some (.array _ _) => false
  | some inf, some _ => Nat.beq inf.size 1
  | _, _ => false
def aggT (P : Program) (T : TypeId) : Option Nat :=
  match P.info? T, P.underlying T with
  | some inf, some (.struct _) => some inf.size
  | some inf, some (.array _ _) => some inf.size
  | _, _ => none
def sliceT (P : Program) (T : TypeId) : Option (TypeId × Nat × Nat × Value) :=
  match P.underlying T with
  | some (.slice e) => match P.info? e with
    | some inf => match inf.zero with
      | some z => some (e, inf.size, inf.bytes, z)
      | none => none
    | none => none
  | _ => none
def zeroT (P : Program) (T : TypeId) : Option Value := (P.info? T).bind (·.zero)

theorem addr_add (b o n : Nat) : (⟨b, o, none⟩ : Addr).add n = ⟨b, o + n, none⟩ := by
  unfold Addr.add
  split
  · rename_i h; subst h; rfl
  · rfl

theorem fld_i {P : Program} {T : TypeId} {i b o off : Nat} {K : Value → Prop} (hT : fieldOff P T i = some off) (hK : K (ptr b (o + off))) : pur P (Instr.fieldAt T (ptr b o) i) K := by
  unfold fieldOff at hT
  split at hT
  · rename_i fs hu
    split at hT
    · rename_i f hf
      split at hT
      · rename_i inf hi
        cases hz : Nat.beq inf.size 0 with
        | true => rw [hz] at hT; cases hT
        | false =>
          rw [hz] at hT
          cases hT
          refine pur_i (v := ptr b (o + f.offset)) (fun w => ?_) hK
          have hz' : ¬ inf.size = 0 := fun e => by rw [e] at hz; cases hz
          simp [Instr.fieldAt, underlying, hu, hf, Instr.sureAddr, fieldPlace, sizeOf, typeInfo, hi, hz', addr_add]
      · cases hT
    · cases hT
  · cases hT

theorem isAgg_plain {P : Program} {T : TypeId} (h : plainT P T = true) (w : World) : (isAgg T).run P w = .ok false w ∧ ∃ inf, P.info? T = some inf ∧ inf.size = 1 := by
  unfold plainT at h
  cases hi : P.info? T with
  | none => rw [hi] at h; cases h
  | some inf =>
    cases hu : P.underlying T with
    | none => rw [hi, hu] at h; cases h
    | some u =>
      rw [hi, hu] at h
      have key : inf.size = 1 ∧ (isAgg T).run P w = .ok false w := by
        unfold isAgg underlying
        simp only [Sem.run_bind, run_program, Result.andThen_ok, hu, Sem.run_pure]
        cases u <;> first | (cases h; done) | exact ⟨Nat.eq_of_beq_eq_true h, rfl⟩
      exact ⟨key.2, inf, rfl, key.1⟩
theorem isAgg_agg {P : Program} {T : TypeId} {n : Nat} (h : aggT P T = some n) (w : World) : (isAgg T).run P w = .ok true w ∧ (sizeOf T).run P w = .ok n w := by
  unfold aggT at h
  cases hi : P.info? T with
  | none => rw [hi] at h; cases h
  | some inf =>
    cases hu : P.underlying T with
    | none => rw [hi, hu] at h; cases h
    | some u =>
      rw [hi, hu] at h
      have key : inf.size = n ∧ (isAgg T).run P w = .ok true w := by
        unfold isAgg underlying
        simp only [Sem.run_bind, run_program, Result.andThen_ok, hu, Sem.run_pure]
        cases u <;> first | (cases h; done) | (simp at h; exact ⟨h, rfl⟩)
      refine ⟨key.2, ?_⟩
      simp [sizeOf, typeInfo, hi, key.1]

/-! ### Memory -/
theorem cell_at {w : World} {b o : Nat} {cs : Array Value} {T : TypeId} {fz : Nat × Nat} {v : Value} (h : w.heap[b]? = some (.cells cs T fz)) (hv : cs[o]? = some v) : w.cell? ⟨b, o, none⟩ = some v := by
  simp [World.cell?, h, hv]
theorem run_load_at {P : Program} {w : World} {b o : Nat} {cs : Array Value} {T : TypeId} {fz : Nat × Nat} {v : Value} {m : Mode} (h : w.heap[b]? = some (.cells cs T fz)) (hv : cs[o]? = some v) :
    (load ⟨b, o, none⟩ m).run P w = .ok v w := by simp [cell_at h hv]

theorem ld_run {P : Program} {w : World} {T E : TypeId} {b o : Nat} {cs : Array Value} {fz : Nat × Nat} {v : Value} (hT : plainT P T = true) (h : w.heap[b]? = some (.cells cs E fz)) (hv : cs[o]? = some v) :
    (Instr.loadAt T (ptr b o)).run P w = .ok v w := by
  unfold Instr.loadAt loadVar
  simp only [Instr.sureAddr, pure_bind, Sem.run_bind, (isAgg_plain hT w).1, Result.andThen_ok, Bool.false_eq_true, if_false]
  exact run_load_at h hv
theorem ld_i {P : Program} {w : World} {T E : TypeId} {b o : Nat} {cs : Array Value} {fz : Nat × Nat} {v : Value} {K : Value → Prop} (hT : plainT P T = true) (h : w.heap[b]? = some (.cells cs E fz)) (hv : cs[o]? = some v)
    (hK : K v) : rd P (Instr.loadAt T (ptr b o)) w K := rd_i (ld_run hT h hv) hK

theorem loadCellsFrom_run {P : Program} {w : World} {b o : Nat} {cs : Array Value} {E : TypeId} {fz : Nat × Nat} (h : w.heap[b]? = some (.cells cs E fz)) :
    ∀ (n i : Nat) (acc : Array Value), o + i + n ≤ cs.size → (loadCellsFrom ⟨b, o, none⟩ i n acc).run P w = .ok (acc ++ cs.extract (o + i) (o + i + n)) w
  | 0, i, acc, hn => by simp [loadCellsFrom, Nat.min_le_left]
  | n + 1, i, acc, hn => by
    unfold loadCellsFrom
    have hlt : o + i < cs.size := by omega
    have e : (load ((⟨b, o, none⟩ : Addr).add i)).run P w = .ok cs[o + i] w := by rw [addr_add]; exact run_load_at h (by simp [hlt])
    simp only [Sem.run_bind, e, Result.andThen_ok]
    rw [loadCellsFrom_run h n (i + 1) _ (by omega)]
    congr 1
    apply Array.ext'
    simp only [Array.toList_append, Array.toList_push, Array.toList_extract, List.append_assoc, List.singleton_append]
    congr 1
    simp only [List.extract_eq_take_drop]
    rw [show o + i + (n + 1) - (o + i) = n + 1 by omega, show o + (i + 1) + n - (o + (i + 1)) = n by omega, show o + (i + 1) = o + i + 1 by omega]
    rw [List.drop_eq_getElem_cons (i := o + i) (by simpa using hlt)]
    simp
theorem ldn_run {P : Program} {w : World} {T E : TypeId} {b o n : Nat} {cs : Array Value} {fz : Nat × Nat} (hT : aggT P T = some n) (h : w.heap[b]? = some (.cells cs E fz)) (hn : o + n ≤ cs.size) :
    (Instr.loadAt T (ptr b o)).run P w = .ok (.agg (cs.extract o (o + n))) w := by
  unfold Instr.loadAt loadVar
  simp only [Instr.sureAddr, pure_bind, Sem.run_bind, (isAgg_agg hT w).1, (isAgg_agg hT w).2, Result.andThen_ok, if_true]
  have := loadCellsFrom_run (P := P) h n 0 #[] (by omega)
  simp only [Nat.add_zero] at this
  unfold loadCells
  rw [this]
  simp
theorem ldn_i {P : Program} {w : World} {T E : TypeId} {b o n : Nat} {cs : Array Value} {fz : Nat × Nat} {vs : Array Value} {K : Value → Prop} (hT : aggT P T = some n) (h : w.heap[b]? = some (.cells cs E fz)) (hn : o + n ≤ cs.size)
    (hv : cs.extract o (o + n) = vs) (hK : K (.agg vs)) : rd P (Instr.loadAt T (ptr b o)) w K := rd_i (ldn_run hT h hn) (hv ▸ hK)

def one (v : Value) : Bool := match v with | .agg _ | .tuple _ => false | _ => true
theorem one_cells {v : Value} (h : one v = true) : v.cells = #[v] := by cases v <;> first | rfl | cases h
theorem one_cell' {v : Value} (h : one v = true) : v.oneCell' = true := by cases v <;> first | rfl | cases h

theorem setCell_eq {w : World} {b o : Nat} {cs : Array Value} {E : TypeId} {fz : Nat × Nat} {v : Value} (h : w.heap[b]? = some (.cells cs E fz)) : w.setCell ⟨b, o, none⟩ v = setAt w b (.cells (cs.setIfInBounds o v) E fz) := by
  unfold World.setCell setAt
  congr 1
  apply Array.ext
  · simp
  · intro i h1 h2
    obtain ⟨hb, hbe⟩ := Array.getElem?_eq_some_iff.1 h
    rw [Array.getElem_modify, Array.getElem_setIfInBounds (by simpa using h1)]
    by_cases e : b = i
    · subst e; simp [hbe]
    · simp [e]

theorem run_store_at {P : Program} {w : World} {b o : Nat} {cs : Array Value} {E : TypeId} {v : Value} {m : Mode} (h : w.heap[b]? = some (row cs E)) (ho : o < cs.size) (hv : one v = true) :
    (store ⟨b, o, none⟩ v m).run P w = .ok () (setAt w b (row (cs.setIfInBounds o v) E)) := by
  rw [run_store P w _ v m (one_cell' hv), cell_at h (show cs[o]? = some cs[o] by simp [ho])]
  have : w.frozen? ⟨b, o, none⟩ = false := by simp [World.frozen?, h]
  simp only [this, setCell_eq h]
  rfl
theorem st_run {P : Program} {w : World} {T E : TypeId} {b o : Nat} {cs : Array Value} {v : Value} (hT : plainT P T = true) (hv : one v = true) (h : w.heap[b]? = some (row cs E)) (ho : o < cs.size) :
    (Instr.storeAt T (ptr b o) v).run P w = .ok () (setAt w b (row (cs.setIfInBounds o v) E)) := by
  obtain ⟨inf, hi, hs⟩ := (isAgg_plain hT w).2
  unfold Instr.storeAt storeVar
  simp only [Instr.sureAddr, pure_bind, Sem.run_bind, sizeOf, typeInfo, run_program, Result.andThen_ok, hi, Sem.run_pure, hs, one_cells hv]
  simp only [storeCells, addr_add, Nat.add_zero, bind_pure_comp, Array.size, List.length, ne_eq, not_true, if_false]
  have := run_store_at (P := P) (m := .plain) h ho hv
  simp only [store] at this
  simp [store, this]
theorem st_i {P : Program} {w : World} {T E : TypeId} {b o : Nat} {cs : Array Value} {v : Value} {K : World → Prop} (hT : plainT P T = true) (hv : one v = true) (h : w.heap[b]? = some (row cs E)) (ho : o < cs.size)
    (hK : K (setAt w b (row (cs.setIfInBounds o v) E))) : effU P (Instr.storeAt T (ptr b o) v) w K := effU_i (st_run hT hv h ho) hK
theorem setAt_same {w : World} {b : Nat} {o : Obj} (h : w.heap[b]? = some o) : setAt w b o = w := by
  obtain ⟨hb, he⟩ := Array.getElem?_eq_some_iff.1 h
  unfold setAt
  have : w.heap.setIfInBounds b o = w.heap := by
    apply Array.ext
    · simp
    · intro i h1 h2
      rw [Array.getElem_setIfInBounds (by simpa using h1)]
      by_cases e : b = i
      · subst e; simp [he]
      · simp [e]
  rw [this]
theorem setAt_setAt (w : World) (b : Nat) (o o' : Obj) : setAt (setAt w b o) b o' = setAt w b o' := by
  unfold setAt
  congr 1
  apply Array.ext
  · simp
  · intro i h1 h2
    simp only [Array.size_setIfInBounds] at h1
    rw [Array.getElem_setIfInBounds (by simpa using h1), Array.getElem_setIfInBounds (by simpa using h1), Array.getElem_setIfInBounds (by simpa using h1)]
    by_cases e : b = i <;> simp [e]
def wr (cs : Array Value) (k : Nat) : List Value → Array Value
  | [] => cs
  | v :: r => wr (cs.setIfInBounds k v) (k + 1) r
theorem wr_size (k : Nat) : ∀ (vs : List Value) (cs : Array Value), (wr cs k vs).size = cs.size := by
  intro vs
  induction vs generalizing k with
  | nil => intro cs; rfl
  | cons v r ih => intro cs; unfold wr; rw [ih]; simp
theorem storeCells_run {P : Program} {b o : Nat} {E : TypeId} : ∀ (vs : List Value) (i : Nat) (w : World) (cs : Array Value), w.heap[b]? = some (row cs E) → (∀ v ∈ vs, one v = true) → o + i + vs.length ≤ cs.size →
    (storeCells ⟨b, o, none⟩ vs i).run P w = .ok () (setAt w b (row (wr cs (o + i) vs) E))
  | [], i, w, cs, h, _, _ => by simp [storeCells, wr, setAt_same h]
  | v :: r, i, w, cs, h, hv, hn => by
    simp only [List.length_cons] at hn
    unfold storeCells
    simp only [Sem.run_bind, addr_add, run_store_at (P := P) (m := .plain) h (show o + i < cs.size by omega) (hv v List.mem_cons_self), Result.andThen_ok]
    rw [storeCells_run r (i + 1) _ _ (setAt_at w (lt_of_at h) _) (fun u hu => hv u (List.mem_cons_of_mem _ hu)) (by simp; omega), setAt_setAt]
    rfl
theorem wr_extract : ∀ (vs : List Value) (cs : Array Value) (k : Nat), k + vs.length ≤ cs.size → (wr cs k vs).toList = cs.toList.take k ++ vs ++ cs.toList.drop (k + vs.length)
  | [], cs, k, h => by simp [wr]
  | v :: r, cs, k, h => by
    simp only [List.length_cons] at h
    unfold wr
    rw [wr_extract r _ (k + 1) (by simp; omega)]
    simp only [Array.toList_setIfInBounds, List.length_cons]
    rw [List.take_set, List.drop_set]
    have hk : k < cs.toList.length := by simpa using (by omega : k < cs.size)
    rw [if_pos (by omega)]
    rw [List.take_succ_eq_append_getElem hk]
    have hm : min k cs.size = k := Nat.min_eq_left (by omega)
    rw [List.set_append_right _ _ (by simp; omega)]
    simp [hm, show k + 1 + r.length = k + (r.length + 1) by omega]
theorem stn_run {P : Program} {w : World} {T E : TypeId} {b o n : Nat} {cs vs : Array Value} (hT : aggT P T = some n) (hv : ∀ v ∈ vs.toList, one v = true) (hs : vs.size = n) (h : w.heap[b]? = some (row cs E)) (ho : o + n ≤ cs.size) :
    (Instr.storeAt T (ptr b o) (.agg vs)).run P w = .ok () (setAt w b (row (wr cs o vs.toList) E)) := by
  unfold Instr.storeAt storeVar
  simp only [Instr.sureAddr, pure_bind, Sem.run_bind, (isAgg_agg hT w).2, Result.andThen_ok, Value.cells, hs, ne_eq, not_true, if_false]
  exact storeCells_run vs.toList 0 w cs h hv (by simpa [hs] using ho)
theorem stn_i {P : Program} {w : World} {T E : TypeId} {b o n : Nat} {cs vs : Array Value} {K : World → Prop} (hT : aggT P T = some n) (hv : ∀ v ∈ vs.toList, one v = true) (hs : vs.size = n) (h : w.heap[b]? = some (row cs E)) (ho : o + n ≤ cs.size)
    (hK : K (setAt w b (row (wr cs o vs.toList) E))) : effU P (Instr.storeAt T (ptr b o) (.agg vs)) w K := effU_i (stn_run hT hv hs h ho) hK

/-- A new block. -/
structure New (w w1 : World) (b : Nat) (o : Obj) : Prop where
  ext : Ext w w1
  at_ : w1.heap[b]? = some o
  old : w.heap.size ≤ b
theorem New.alloc (w : World) (o : Obj) : New w (w.alloc o) w.heap.size o := ⟨Ext.alloc w o, at_alloc w o, Nat.le_refl _⟩

theorem alloc_i {P : Program} {w : World} {T : TypeId} {z : Value} {K : Value → World → Prop} (hz : zeroT P T = some z) (hK : ∀ b w1, New w w1 b (row z.cells T) → K (ptr b 0) w1) : eff P (Instr.alloc T true (.tuple #[])) w K := by
  unfold zeroT at hz
  cases hi : P.info? T with
  | none => rw [hi] at hz; cases hz
  | some inf =>
    rw [hi] at hz
    simp only [Option.bind_some] at hz
    refine eff_i (v := ptr w.heap.size 0) (w' := w.alloc (row z.cells T)) ?_ (hK _ _ (New.alloc _ _))
    simp [Instr.alloc, zeroValue, typeInfo, hi, hz, newVar, newRow]
theorem box_i {P : Program} {w : World} {T : TypeId} {v : Value} {K : Value → World → Prop} (hK : ∀ b w1, New w w1 b (row v.cells T) → K (ptr b 0) w1) : eff P (Instr.box T v) w K := by
  refine eff_i (v := ptr w.heap.size 0) (w' := w.alloc (row v.cells T)) ?_ (hK _ _ (New.alloc _ _))
  simp [Instr.box, newVar, newRow]

theorem setAt_alloc (w : World) (o o' : Obj) : setAt (w.alloc o) w.heap.size o' = w.alloc o' := by
  unfold setAt World.alloc
  congr 1
  apply Array.ext
  · simp
  · intro i h1 h2
    simp only [Array.size_setIfInBounds, Array.size_push] at h1
    rw [Array.getElem_setIfInBounds (by simpa using h1), Array.getElem_push, Array.getElem_push]
    by_cases e : w.heap.size = i
    · subst e; simp
    · have : i < w.heap.size := by omega
      simp [e, this]
/-- A variable of its own block, with its first value. -/
theorem var1_i {P : Program} {w : World} {T : TypeId} {v z : Value} {K : Value → World → Prop} (hT : plainT P T = true) (hz : zeroT P T = some z) (hz1 : z.cells.size = 1) (hv : one v = true) (hK : ∀ b w1, New w w1 b (row #[v] T) → K (ptr b 0) w1) :
    eff P (Instr.alloc T true (.tuple #[])) w fun t w => effU P (Instr.storeAt T t v) w fun w => K t w := by
  unfold zeroT at hz
  cases hi : P.info? T with
  | none => rw [hi] at hz; cases hz
  | some inf =>
    rw [hi] at hz
    simp only [Option.bind_some] at hz
    refine eff_i (v := ptr w.heap.size 0) (w' := w.alloc (row z.cells T)) ?_ ?_
    · simp [Instr.alloc, zeroValue, typeInfo, hi, hz, newVar, newRow]
    · refine st_i hT hv (at_alloc _ _) (by omega) ?_
      rw [setAt_alloc]
      have : z.cells.setIfInBounds 0 v = #[v] := by
        obtain ⟨l, hl⟩ : ∃ l, z.cells = ⟨l⟩ := ⟨z.cells.toList, rfl⟩
        rw [hl] at hz1 ⊢
        match l, hz1 with
        | [x], _ => rfl
      rw [this]
      exact hK _ _ (New.alloc _ _)
theorem varn_i {P : Program} {w : World} {T : TypeId} {z : Value} {n : Nat} {vs : Array Value} {K : Value → World → Prop} (hT : aggT P T = some n) (hz : zeroT P T = some z) (hz1 : z.cells.size = n) (hs : vs.size = n) (hv : ∀ v ∈ vs.toList, one v = true)
    (hK : ∀ b w1, New w w1 b (row vs T) → K (ptr b 0) w1) : eff P (Instr.alloc T true (.tuple #[])) w fun t w => effU P (Instr.storeAt T t (.agg vs)) w fun w => K t w := by
  unfold zeroT at hz
  cases hi : P.info? T with
  | none => rw [hi] at hz; cases hz
  | some inf =>
    rw [hi] at hz
    simp only [Option.bind_some] at hz
    refine eff_i (v := ptr w.heap.size 0) (w' := w.alloc (row z.cells T)) ?_ ?_
    · simp [Instr.alloc, zeroValue, typeInfo, hi, hz, newVar, newRow]
    · refine stn_i hT hv hs (at_alloc _ _) (by omega) ?_
      rw [setAt_alloc]
      have : wr z.cells 0 vs.toList = vs := by
        apply Array.ext'
        rw [wr_extract _ _ _ (by simp; omega)]
        simp
        omega
      rw [this]
      exact hK _ _ (New.alloc _ _)
end Go.SL
