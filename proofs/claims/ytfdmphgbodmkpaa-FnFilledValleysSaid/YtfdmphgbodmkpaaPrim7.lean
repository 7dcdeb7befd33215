/- More rules: result cells, bytes to string, an aggregate kept in a cell block. -/
import Derived.Test.YtfdmphgbodmkpaaPrim6
import Derived.Laws.BytesString
set_option linter.unusedVariables false
set_option linter.unusedSimpArgs false
namespace Go.SL
open Go Go.RowKit

theorem res_i {P : Program} {w : World} {T E : TypeId} {b o : Nat} {cs : Array Value} {fz : Nat × Nat} {v : Value} {K : Value → Prop} (hT : plainT P T = true) (h : w.heap[b]? = some (.cells cs E fz)) (hv : cs[o]? = some v)
    (hK : K v) : rd P (resCell T (ptr b o)) w K := by
  refine rd_i (v := v) ?_ hK
  have := ld_run hT h hv
  unfold Instr.loadAt at this
  unfold resCell
  simpa [Instr.sureAddr, asAddr] using this
theorem resn_i {P : Program} {w : World} {T E : TypeId} {b o n : Nat} {cs : Array Value} {fz : Nat × Nat} {vs : Array Value} {K : Value → Prop} (hT : aggT P T = some n) (h : w.heap[b]? = some (.cells cs E fz)) (hn : o + n ≤ cs.size)
    (hv : cs.extract o (o + n) = vs) (hK : K (.agg vs)) : rd P (resCell T (ptr b o)) w K := by
  refine rd_i (v := .agg vs) ?_ hK
  have := ldn_run hT h hn
  unfold Instr.loadAt at this
  unfold resCell
  rw [hv] at this
  simpa [Instr.sureAddr, asAddr] using this

/-- Source and target of a conversion from bytes to a string. -/
def bytesT (P : Program) (T U : TypeId) : Bool :=
  match P.underlying T, P.underlying U with
  | some (.slice e), some .string => (match P.underlying e with | some (.int .u8) => true | _ => false)
  | _, _ => false
theorem bytesT_spec {P : Program} {T U : TypeId} (h : bytesT P T U = true) : ∃ e, P.underlying T = some (.slice e) ∧ P.underlying e = some (.int .u8) ∧ P.underlying U = some .string := by
  unfold bytesT at h
  split at h
  · rename_i e h1 h2
    split at h
    · rename_i h3; exact ⟨e, h1, h3, h2⟩
    · cases h
  · cases h
def u8v (b : UInt8) : Value := .int .u8 b.toNat
theorem foldl_push (l : List UInt8) : ∀ r : ByteArray, (l.map fun b => ((b.toNat : Nat) : Int)).foldl (fun r n => r.push (UInt8.ofNat n.toNat)) r = ⟨r.data ++ l.toArray⟩ := by
  induction l with
  | nil => intro r; simp
  | cons x l ih =>
    intro r
    rw [List.map_cons, List.foldl_cons, ih]
    simp [ByteArray.push]
theorem bytes_i {P : Program} {w : World} {T U E : TypeId} {v : Value} {l : List UInt8} {b : Nat} {K : Value → World → Prop} (hT : bytesT P T U = true) (h : Sl1 w E v (l.map u8v) b) (hK : K (.string ⟨l.toArray⟩) w) :
    eff P (convert T U v) w K := by
  obtain ⟨e, h1, h2, h3⟩ := bytesT_spec hT
  obtain ⟨o, c, rfl, hs⟩ := h
  refine eff_i (v := .string ⟨l.toArray⟩) (w' := w) ?_ hK
  have hl := hs.load (P := P)
  rw [Nat.mul_one] at hl
  show (convert T U (.slice (some ⟨b, o, none⟩) _ _)).run P w = _
  rw [run_convert_bytes_string w T U e _ _ _ h1 h2 h3, run_bytesToString w _ _ _ (l.map fun b => ((b.toNat : Nat) : Int)) (by rw [hl]; simp [u8v, Function.comp_def]), foldl_push]
  simp [ByteArray.empty, ByteArray.emptyWithCapacity]; rfl
end Go.SL
