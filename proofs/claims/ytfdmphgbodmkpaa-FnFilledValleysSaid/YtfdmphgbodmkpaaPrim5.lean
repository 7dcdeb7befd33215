/- Rules for structs of two ints as keys and elements, and for a slice that grows by one. No program in sight. -/
import Derived.Test.YtfdmphgbodmkpaaPrim4
set_option linter.unusedVariables false
set_option linter.unusedSimpArgs false
namespace Go.SL
open Go Go.RowKit

/-- A struct of two ints. -/
def pairV (p : Int × Int) : Value := .agg #[i64 p.1, i64 p.2]
structure PairT (P : Program) (T : TypeId) (f0 f1 : Field) : Prop where
  und : P.underlying T = some (.struct #[f0, f1])
  n0 : f0.name ≠ "_"
  n1 : f1.name ≠ "_"
  o0 : f0.offset = 0
  o1 : f1.offset = 1
  t0 : P.underlying f0.type = some (.int .i64)
  t1 : P.underlying f1.type = some (.int .i64)
  held : P.stoodInHeld T = false
def pairT (P : Program) (T : TypeId) : Bool :=
  match P.underlying T with
  | some (.struct fs) => match fs.toList with
    | [f0, f1] => f0.name != "_" && f1.name != "_" && Nat.beq f0.offset 0 && Nat.beq f1.offset 1 && (match P.underlying f0.type with | some (.int .i64) => true | _ => false) &&
      (match P.underlying f1.type with | some (.int .i64) => true | _ => false) && !P.stoodInHeld T
    | _ => false
  | _ => false
theorem pairT_spec {P : Program} {T : TypeId} (h : pairT P T = true) : ∃ f0 f1, PairT P T f0 f1 := by
  unfold pairT at h
  split at h
  · rename_i fs hu
    split at h
    · rename_i f0 f1 hfs
      simp only [Bool.and_eq_true, bne_iff_ne, ne_eq] at h
      obtain ⟨⟨⟨⟨⟨⟨h1, h2⟩, h3⟩, h4⟩, h5⟩, h6⟩, h7⟩ := h
      refine ⟨f0, f1, ⟨?_, h1, h2, Nat.eq_of_beq_eq_true h3, Nat.eq_of_beq_eq_true h4, ?_, ?_, by simpa using h7⟩⟩
      · rw [hu, ← Array.toArray_toList (xs := fs), hfs]
      · split at h5
        · assumption
        · cases h5
      · split at h6
        · assumption
        · cases h6
    · cases h
  · cases h

theorem isAgg_int {P : Program} {T : TypeId} {k : IntKind} (h : P.underlying T = some (.int k)) (w : World) : (isAgg T).run P w = .ok false w := by
  simp [isAgg, underlying, h]
theorem part_int {P : Program} {T : TypeId} {k : IntKind} (h : P.underlying T = some (.int k)) {cs : Array Value} {o : Nat} {v : Value} (hv : cs[o]? = some v) (w : World) : (Go.part T cs o).run P w = .ok v w := by
  unfold Go.part
  simp only [Sem.run_bind, isAgg_int h, Result.andThen_ok, Bool.false_eq_true, if_false, hv, Sem.run_pure]
theorem checkKey_int {P : Program} {T : TypeId} {k : IntKind} (h : P.underlying T = some (.int k)) (e : Bool) (d : Nat) (v : Value) (w : World) : (Instr.checkKey e (d + 1) T v).run P w = .ok () w := by
  unfold Instr.checkKey
  simp [underlying, h]

theorem pair_key {P : Program} {T : TypeId} (h : pairT P T = true) : KeyT P T pairV := by
  obtain ⟨f0, f1, hp⟩ := pairT_spec h
  refine ⟨⟨_, hp.und, fun a b => .inl rfl⟩, fun e a w => ?_, fun a b w => ?_, fun a => ?_⟩
  · show (Instr.checkKey e (9998 + 1 + 1) T (pairV a)).run P w = _
    unfold Instr.checkKey
    have p0 := fun w => part_int (P := P) hp.t0 (cs := #[i64 a.1, i64 a.2]) (o := 0) rfl w
    have p1 := fun w => part_int (P := P) hp.t1 (cs := #[i64 a.1, i64 a.2]) (o := 1) rfl w
    simp only [underlying, Sem.run_bind, run_program, Result.andThen_ok, hp.und, Sem.run_pure, pairV]
    rw [← Array.forIn_toList]
    simp [hp.n0, hp.n1, hp.o0, hp.o1, p0, p1, checkKey_int hp.t0, checkKey_int hp.t1]
  · show (Op.equalIn (9998 + 1 + 1) T (pairV a) (pairV b)).run P w = _
    have hf : P.fieldsOf T = #[f0, f1] := by unfold Program.fieldsOf; rw [hp.und]
    unfold pairV
    rw [run_equalIn_struct w _ T _ _ (by rw [hf]; exact hp.und) hp.held, hf]
    have q0 : ∀ (x y : Int) w, (Go.part f0.type #[i64 x, i64 y] 0).run P w = .ok (i64 x) w := fun x y w => part_int (P := P) hp.t0 (cs := #[i64 x, i64 y]) (o := 0) rfl w
    have q1 : ∀ (x y : Int) w, (Go.part f1.type #[i64 x, i64 y] 1).run P w = .ok (i64 y) w := fun x y w => part_int (P := P) hp.t1 (cs := #[i64 x, i64 y]) (o := 1) rfl w
    obtain ⟨a1, a2⟩ := a
    obtain ⟨b1, b2⟩ := b
    by_cases e1 : a1 = b1 <;> by_cases e2 : a2 = b2 <;> simp [Op.eqFields, hp.n0, hp.n1, hp.o0, hp.o1, q0, q1, run_equalIn_int _ _ _ _ _ _ _ hp.t0, run_equalIn_int _ _ _ _ _ _ _ hp.t1, e1, e2]
  · simp [pairV, Instr.sameBits]
theorem pair_inj (a b : Int × Int) (h : pairV a = pairV b) : a = b := by
  obtain ⟨a1, a2⟩ := a
  obtain ⟨b1, b2⟩ := b
  simp only [pairV, Value.agg.injEq] at h
  have := congrArg Array.toList h
  simp at this
  simp [this.1, this.2]

def pairCells (l : List (Int × Int)) : List Value := l.flatMap fun p => [i64 p.1, i64 p.2]
theorem pairCells_len (l : List (Int × Int)) : (pairCells l).length = l.length * 2 := by
  induction l with
  | nil => rfl
  | cons p l ih => simp only [pairCells, List.flatMap_cons, List.length_append, List.length_cons, List.length_nil] at ih ⊢; omega
theorem pairCells_append (l m : List (Int × Int)) : pairCells (l ++ m) = pairCells l ++ pairCells m := by simp [pairCells]
theorem pairCells_get {l : List (Int × Int)} : ∀ {j : Nat} {p : Int × Int}, l[j]? = some p → (pairCells l)[2 * j]? = some (i64 p.1) ∧ (pairCells l)[2 * j + 1]? = some (i64 p.2) := by
  induction l with
  | nil => intro j p h; simp at h
  | cons q l ih =>
    intro j p h
    cases j with
    | zero => simp at h; subst h; simp [pairCells]
    | succ j =>
      have := ih (j := j) (by simpa using h)
      rw [show 2 * (j + 1) = 2 * j + 2 by omega, show 2 * j + 2 + 1 = (2 * j + 1) + 2 by omega]
      exact this
theorem pairCells_drop (p : Int × Int) (l : List (Int × Int)) : (pairCells (p :: l)).drop 2 = pairCells l := rfl

theorem Ext.own {w0 w w' : World} {b : Nat} (h : Ext w0 w) (hm : Mod (· = b) w w') (hb : w0.heap.size ≤ b) : Ext w0 w' :=
  h.comp hm (fun _ _ h => h) (fun i hi e => by subst e; omega)

theorem app1_i {P : Program} {T E size bytes ty : Nat} {z x : Value} {w : World} {b o n c : Nat} {xs : List Value} {K : Value → World → Prop} (hT : sliceT P T = some (E, size, bytes, z)) (hzs : z.cells.size = size) (hs0 : 0 < size) (hs1 : size ≤ 1000)
    (hb : 0 < bytes) (hb2 : bytes ≤ 1000) (hsl : Sl w E size b o n c xs) (hx : x.cells.size = size)
    (hfill : Instr.fill (fun i => some (i * size, size)) ((Array.range (1 * size)).map (fun i => z.cells[i % z.cells.size]!)) [(0, x)] = some x.cells) (hone : ∀ v ∈ x.cells.toList, one v = true) (hn : n < 1000000)
    (hK : ∀ b' o' c' w', (b' = b ∨ w.heap.size ≤ b') → Mod (· = b) w w' → Sl w' E size b' o' (n + 1) c' (xs ++ x.cells.toList) → K (sl b' o' (n + 1) c') w') :
    eff P (Instr.buildSlice T 1 #[(0, x)]) w fun t w => eff P (Builtin.append_ #[T, T] ty #[sl b o n c, t]) w K := by
  refine buildSlice_i (cells := x.cells) hT (by omega) ?_ fun b2 w2 h2 => ?_
  · have h0 : ¬ (1 * size = 0) := by omega
    simp only [h0, if_false]
    exact hfill
  · have hy : Sl w2 E size b2 0 1 1 x.cells.toList := Sl.of_row (by simpa using h2.at_) (by simp [hx])
    refine append_i hT hzs hb hb2 (hsl.ext h2.ext) hy hone (by omega) fun b' o' c' w3 hor hsl' => ?_
    have := h2.ext.size
    rcases hor with ⟨rfl, hm⟩ | ⟨hb', he⟩
    · exact hK _ o' c' w3 (.inl rfl) (h2.ext.mod.trans hm) hsl'
    · exact hK b' o' c' w3 (.inr (by omega)) (h2.ext.trans he).mod hsl'

theorem tail_i {P : Program} {T E size bytes : Nat} {z : Value} {w : World} {b o n c : Nat} {xs : List Value} {K : Value → Prop} (hT : sliceT P T = some (E, size, bytes, z)) (hsl : Sl w E size b o (n + 1) c xs)
    (hK : ∀ o', Sl w E size b o' n (c - 1) (xs.drop size) → K (sl b o' n (c - 1))) : pur P (Instr.sliceAt T (sl b o (n + 1) c) (some (i64 1)) none none) K := by
  refine slice_i hT (by omega) (by omega) ?_
  have := hK _ hsl.tail
  simpa using this
end Go.SL
