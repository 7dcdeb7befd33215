/- Pointers: equality, and maps with pointers as keys; halves of sums by way of unsigned numbers. -/
import Derived.Test.YtfdmphgbodmkpaaPrim9
import Derived.LaidEql
set_option linter.unusedVariables false
set_option linter.unusedSimpArgs false
namespace Go.SL
open Go Go.RowKit
set_option maxRecDepth 10000
section
variable {P : Program} {T : TypeId} {w : World}
def ptrT (P : Program) (T : TypeId) : Bool :=
  match P.underlying T with
  | some (.pointer e) => match P.info? e with
    | some inf => Nat.blt 0 inf.size
    | none => false
  | _ => false
theorem ptrT_spec (h : ptrT P T = true) : ∃ e inf, P.underlying T = some (.pointer e) ∧ P.info? e = some inf ∧ inf.size ≠ 0 := by
  unfold ptrT at h
  split at h
  · rename_i e he
    split at h
    · rename_i inf hi
      refine ⟨e, inf, he, hi, fun h0 => ?_⟩
      rw [h0] at h; cases h
    · cases h
  · cases h
/-- Blocks that pointers may be compared at. -/
def Plain (w : World) (b : Nat) : Prop := ∃ cs E, w.heap[b]? = some (row cs E)
theorem Plain.of {b E : Nat} {cs : Array Value} (h : w.heap[b]? = some (row cs E)) : Plain w b := ⟨cs, E, h⟩
theorem equalIn_ptr (hT : ptrT P T = true) (d : Nat) {a b : Nat} (ha : Plain w a) (hb : Plain w b) : (Op.equalIn (d + 1) T (ptr a 0) (ptr b 0)).run P w = .ok (decide (a = b)) w := by
  obtain ⟨e, inf, hu, hi, hs⟩ := ptrT_spec hT
  obtain ⟨ca, ta, ha⟩ := ha
  obtain ⟨cb, tb, hb⟩ := hb
  unfold Op.equalIn
  by_cases hab : a = b
  · subst hab
    simp [underlying, hu, sizeOf, typeInfo, hi, hs, run_sameAddr_same]
  · have hne : (⟨a, 0, none⟩ : Addr) ≠ ⟨b, 0, none⟩ := fun e => hab (by injection e)
    have hso := run_sameAddr_other (P := P) w hne ha hb
    simp [underlying, hu, sizeOf, typeInfo, hi, hs, hso, hab]
theorem equal_ptr (hT : ptrT P T = true) {a b : Nat} (ha : Plain w a) (hb : Plain w b) : (Op.equal T (ptr a 0) (ptr b 0)).run P w = .ok (decide (a = b)) w := equalIn_ptr hT 9999 ha hb
theorem equalIn_nil (hT : ptrT P T = true) (d : Nat) (x : Option Addr) : (Op.equalIn (d + 1) T (.pointer x) (.pointer none)).run P w = .ok x.isNone w := by
  obtain ⟨e, inf, hu, hi, hs⟩ := ptrT_spec hT
  unfold Op.equalIn
  cases x <;> simp [underlying, hu]
theorem eqPtr_i {x y : Operand} {a b : Nat} {K : Value → Prop} (hT : ptrT P T = true) (ha : Plain w a) (hb : Plain w b) (hK : K (.bool (decide (a = b)))) : rd P (binSem .eql T x y (ptr a 0) (ptr b 0)) w K :=
  rd_i (eql_other (by rfl) (by rfl) (equalIn_ptr hT 9999 ha hb)) hK
theorem neqPtr_i {x y : Operand} {a b : Nat} {K : Value → Prop} (hT : ptrT P T = true) (ha : Plain w a) (hb : Plain w b) (hK : K (.bool !(decide (a = b)))) : rd P (binSem .neq T x y (ptr a 0) (ptr b 0)) w K :=
  rd_i (neq_other (by rfl) (by rfl) (equalIn_ptr hT 9999 ha hb)) hK
theorem neqNil_i {x y : Operand} {p : Option Addr} {K : Value → Prop} (hT : ptrT P T = true) (hK : K (.bool !p.isNone)) : rd P (binSem .neq T x y (.pointer p) (.pointer none)) w K :=
  rd_i (neq_other (by rfl) (by rfl) (equalIn_nil hT 9999 p)) hK
theorem eqNil_i {x y : Operand} {p : Option Addr} {K : Value → Prop} (hT : ptrT P T = true) (hK : K (.bool p.isNone)) : rd P (binSem .eql T x y (.pointer p) (.pointer none)) w K :=
  rd_i (eql_other (by rfl) (by rfl) (equalIn_nil hT 9999 p)) hK

/-- A block as a pointer, a key. -/
def pk (b : Nat) : Value := ptr b 0
theorem findNow_ptr {e : TypeId} (a : Nat) : ∀ (es : List MapEntry) (m : List (Nat × Value)) (i : Nat) (r : Option (Nat × Value)), Reads pk es m → Instr.findNow (.pointer e) (pk a) es i = some r → r = findL a m i
  | [], m, i, r, hr, h => by
    cases m with
    | nil => simp [Instr.findNow] at h; exact h.symm
    | cons p m => simp [Reads] at hr
  | e :: es, m, i, r, hr, h => by
    cases m with
    | nil => simp [Reads] at hr
    | cons p m => simp [Instr.findNow, Instr.sameNow] at h
theorem findAsking_ptr (hT : ptrT P T = true) {a : Nat} (ha : Plain w a) : ∀ (es : List MapEntry) (m : List (Nat × Value)) (i : Nat), Reads pk es m → (∀ p ∈ m, Plain w p.1) → (Instr.findAsking T (pk a) es i).run P w = .ok (findL a m i) w
  | [], m, i, hr, _ => by
    cases m with
    | nil => rfl
    | cons p m => simp [Reads] at hr
  | e :: es, m, i, hr, hm => by
    cases m with
    | nil => simp [Reads] at hr
    | cons p m =>
      simp only [Reads, List.map_cons, List.cons.injEq, Prod.mk.injEq] at hr
      obtain ⟨⟨hk, hv⟩, hr⟩ := hr
      have he := equal_ptr hT ha (hm p (List.mem_cons_self ..))
      unfold Instr.findAsking findL
      rw [hk]
      unfold pk
      simp only [Sem.run_bind, he, Result.andThen_ok]
      by_cases hap : a = p.1
      · simp [hap, hv]
      · have := findAsking_ptr hT ha es m (i + 1) hr (fun p hp => hm p (List.mem_cons_of_mem _ hp))
        unfold pk at this
        simp [hap, this]
theorem findKey_ptr (hT : ptrT P T = true) {a : Nat} (ha : Plain w a) {es : List MapEntry} {m : List (Nat × Value)} (hr : Reads pk es m) (hm : ∀ p ∈ m, Plain w p.1) : (Instr.findKey T (pk a) es).run P w = .ok (findL a m 0) w := by
  obtain ⟨d, inf, hd, _⟩ := ptrT_spec hT
  unfold Instr.findKey
  simp only [underlying, Sem.run_bind, run_program, Result.andThen_ok, hd, Sem.run_pure]
  cases e : Instr.findNow (.pointer d) (pk a) es 0 with
  | some r => rw [findNow_ptr a es m 0 r hr e]; rfl
  | none => exact findAsking_ptr hT ha es m 0 hr hm
theorem chk_ptr (hT : ptrT P T = true) (e : Bool) (a : Nat) : (Instr.checkKey e 10000 T (pk a)).run P w = .ok () w := by
  obtain ⟨d, inf, hd, _⟩ := ptrT_spec hT
  show (Instr.checkKey e (9999 + 1) T (pk a)).run P w = _
  unfold Instr.checkKey pk
  simp [underlying, hd]
theorem look_ptr {M : TypeId} {z : Value} {r : Nat} {m : List (Nat × Value)} (hM : mapT P M = some (T, z)) (hT : ptrT P T = true) (hm : MapAt w pk r m) {a : Nat} (ha : Plain w a) (hp : ∀ p ∈ m, Plain w p.1) :
    (Instr.lookup M (.map (some r)) (ptr a 0) false).run P w = .ok (lookD a m z) w := by
  obtain ⟨e, hu, inf, hi, hz⟩ := mapT_spec hM
  obtain ⟨⟨es, c, h1, h2, _⟩, _⟩ := hm
  have hg : (getObj r).run P w = .ok (.map es c) w := by simp [getObj, Sem.run, h1]
  have hc := chk_ptr (w := w) hT es.isEmpty a
  have hf := findKey_ptr hT ha h2 hp
  unfold pk at hc hf
  unfold Instr.lookup
  simp only [underlying, Sem.run_bind, run_program, Result.andThen_ok, hu, Sem.run_pure, hg, hc, hf]
  cases hf : findL a m 0 with
  | none => simp [lookD, hf, zeroValue, typeInfo, hi, hz]
  | some p => obtain ⟨i, v⟩ := p; simp [lookD, hf]
theorem lookPtr_i {M : TypeId} {z : Value} {r : Nat} {m : List (Nat × Value)} {K : Value → Prop} (hM : mapT P M = some (T, z)) (hT : ptrT P T = true) (hm : MapAt w pk r m) {a : Nat} (ha : Plain w a) (hp : ∀ p ∈ m, Plain w p.1) (hK : K (lookD a m z)) :
    rd P (Instr.lookup M (.map (some r)) (ptr a 0) false) w K := rd_i (look_ptr hM hT hm ha hp) hK
/-- A new key. -/
theorem newPtr_i {M : TypeId} {z v : Value} {r : Nat} {m : List (Nat × Value)} {K : World → Prop} (hM : mapT P M = some (T, z)) (hT : ptrT P T = true) (hm : MapAt w pk r m) {a : Nat} (ha : Plain w a) (hp : ∀ p ∈ m, Plain w p.1) (hn : a ∉ m.map Prod.fst)
    (hK : ∀ w1, Mod (· = r) w w1 → MapAt w1 pk r (m ++ [(a, v)]) → K w1) : effU P (Instr.mapUpdate M (.map (some r)) (ptr a 0) v) w K := by
  obtain ⟨e, hu, inf, hi, hz⟩ := mapT_spec hM
  have hr := hm.lt
  obtain ⟨⟨es, c, h1, h2, h3, h4⟩, h5⟩ := hm
  have hg : (getObj r).run P w = .ok (.map es c) w := by simp [getObj, Sem.run, h1]
  have hset : ∀ o, (setObj r o).run P w = .ok () (setAt w r o) := fun o => by simp [setObj, Sem.run, h1, setAt]
  have hc : ∀ e, (Instr.checkKey e 10000 T (ptr a 0)).run P w = .ok () w := fun e => chk_ptr (w := w) hT e a
  have hf := findKey_ptr hT ha h2 hp
  have hnone : findL a m 0 = none := by
    cases hf : findL a m 0 with
    | none => rfl
    | some p =>
      obtain ⟨i, u⟩ := p
      obtain ⟨_, h2⟩ := findL_some hf
      exact absurd (List.mem_map.2 ⟨_, List.mem_of_getElem? h2, rfl⟩) hn
  unfold pk at hf
  have hnd : ((m ++ [(a, v)]).map Prod.fst).Nodup := by
    rw [List.map_append, List.nodup_append]
    exact ⟨h5, by simp, fun x hx y hy => by simp at hy; subst hy; exact fun e => hn (e ▸ hx)⟩
  refine effU_i (w' := setAt w r (.map (es.push { key := ptr a 0, val := v, born := c }) (c + 1))) ?_ (hK _ (setAt_mod _ _ _) ⟨⟨_, _, setAt_at w hr _, ?_, ?_, ?_⟩, hnd⟩)
  · unfold Instr.mapUpdate
    simp only [underlying, Sem.run_bind, run_program, Result.andThen_ok, hu, Sem.run_pure, hg, hc, hf, hnone, hset]
  · unfold Reads at h2 ⊢
    simp [h2, pk]
  · simp only [Array.toList_push, List.map_append, List.map_cons, List.map_nil, List.pairwise_append, h3, true_and]
    refine ⟨by simp, fun x hx y hy => ?_⟩
    simp at hy; subst hy
    obtain ⟨e', he', rfl⟩ := List.mem_map.1 hx
    exact h4 e' he'
  · intro e' he'
    simp only [Array.toList_push, List.mem_append, List.mem_singleton] at he'
    rcases he' with he' | rfl
    · have := h4 e' he'; omega
    · simp

/-- The half of a number by way of an unsigned shift. -/
theorem half_i {U : TypeId} {n : Nat} {K : Value → World → Prop} (hT : P.underlying T = some (.int .i64)) (hU : P.underlying U = some (.int .u64)) (hn : n ≤ 1000000000000) (hK : K (i64 ((n / 2 : Nat) : Int)) w) :
    eff P (Go.convert T U (i64 (n : Int))) w fun t w => pur P (binOp .shr U t (.int .u64 1)) fun t => eff P (Go.convert U T t) w K := by
  have e1 : IntKind.u64.wrap (n : Int) = n := by
    unfold IntKind.wrap
    have : IntKind.u64.signed = false := rfl
    have hb : (2 : Int) ^ IntKind.u64.bits = 18446744073709551616 := by decide
    simp only [this, hb, Bool.false_and, Bool.false_eq_true, if_false]
    omega
  have e2 : IntKind.i64.wrap ((n / 2 : Nat) : Int) = ((n / 2 : Nat) : Int) := by
    unfold IntKind.wrap
    have hb : (2 : Int) ^ IntKind.i64.bits = 18446744073709551616 := by decide
    have hc : (2 : Int) ^ (IntKind.i64.bits - 1) = 9223372036854775808 := by decide
    simp only [hb, hc]
    rw [show ((n / 2 : Nat) : Int) % 18446744073709551616 = ((n / 2 : Nat) : Int) by omega]
    split
    · rename_i h
      simp only [Bool.and_eq_true, decide_eq_true_eq] at h
      omega
    · rfl
  have e3 : (n : Int).fdiv (2 ^ (min (1 : Int).toNat IntKind.u64.bits)) = ((n / 2 : Nat) : Int) := by
    rw [show min (1 : Int).toNat IntKind.u64.bits = 1 by decide]
    rw [Int.fdiv_eq_ediv_of_nonneg _ (by decide)]
    omega
  refine eff_i (v := .int .u64 n) (w' := w) ?_ ?_
  · unfold Go.convert
    simp [underlying, hT, hU, Conv.intToInt, e1]
  · refine pur_i (v := .int .u64 ((n / 2 : Nat) : Int)) (fun w => ?_) ?_
    · show (Op.shift .shr .u64 (n : Int) .u64 1).run P w = _
      unfold Op.shift
      simp only [show ¬ ((1 : Int) < 0) by decide, if_false]
      rw [e3]; rfl
    · refine eff_i (v := i64 ((n / 2 : Nat) : Int)) (w' := w) ?_ hK
      unfold Go.convert
      simp only [underlying, Sem.run_bind, run_program, Result.andThen_ok, hT, hU, Sem.run_pure, Conv.intToInt, e2]
end
end Go.SL
