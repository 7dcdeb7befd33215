/-
  No cell of these rows narrows 'for every input' (looked for: loops, veiled, ifaces, maps, wideKeys, modest, calm, conditions, laid).
  DERIVED. THE GIVEN ROWS OF THIS SEAT. 3 by the template 'for every input the law returns true; each argument reads behind the call as it read before'; 0 by the template 'total and deterministic' (their statements: YtnpkcdegckfjeaaTotals.lean).
  GIVEN WITH THE SEED: the statements are not yours to turn. If you find one false, say at which input.
  Laid BY PROGRAM, IN A SANDBOX (cutbox-rows.mjs): the forced cells as the released guide's own fill.sh prints them over the translation b91a680108183f37… (all of the seat's roots in one cut). By AI agents, Wed Nov 11 2026. No macro, syntax, notation, axiom, sorry.
-/
import Derived.Test.YtnpkcdegckfjeaaChecked
import GoSem.Claim
import GoSem.ClaimJoined
import GoSem.ClaimMapViews
import Derived.JoinedTies
import Derived.KernelRfl
namespace Go.Proofs.Ytnpkcdegckfjeaa
/- THE CELL 'sum', in the pinned program and in every row, IS THE sha256 OF THE DUMP (.gsa) THAT YtnpkcdegckfjeaaProg.lean LOADS. Nothing in Lean hashes anything: it is a label: what it is worth is what the hold of that sum in a sandbox is worth. -/
noncomputable def Try.pinned : Pinned := { name := "ytnpkcdegckfjeaa", sum := "b91a680108183f375c99c810e5cf05c0cc9757fbcc16abc124129fa7857718ae", checked := Try.checked }
namespace Rows
def none {H : Type} : Left H := { results := [], args := [] }

/-- 'laws.FnExactDepthOf': WHATEVER THE INPUT: true; the input reads as it did. -/
def fnExactDepthOfSpec : ChangeSpec := { name := "fnExactDepthOf", fn := fun _ => fun
  | [d] => { results := [.lit (.bool true)], args := [d] }
  | _ => none }
def fnExactDepthOfRow : OpenClaim := { program := "ytnpkcdegckfjeaa", sum := "b91a680108183f375c99c810e5cf05c0cc9757fbcc16abc124129fa7857718ae", func := "loop.example/g01165/laws.FnExactDepthOf", spec := "fnExactDepthOf", inPlace := ["internal/abi.NoEscape", "internal/bytealg.MakeNoZero"], unfollowed := true, recurses := true, plainKeys := false, apart := false }
def FnExactDepthOfSaid : Prop := fnExactDepthOfRow.holds Try.pinned (OpenSpec.ofChange fnExactDepthOfSpec)

/-- ITS FALSE NEIGHBOUR: 'it returns false'. Refute it at one input. -/
def fnExactDepthOfWrong : ChangeSpec := { name := "fnExactDepthOf", fn := fun _ => fun
  | [d] => { results := [.lit (.bool false)], args := [d] }
  | _ => none }
def FnExactDepthOfWrongFalsely : Prop := fnExactDepthOfRow.holds Try.pinned (OpenSpec.ofChange fnExactDepthOfWrong)

/-- 'laws.FnExactTreeCode': WHATEVER THE INPUT: true; the input reads as it did. -/
def fnExactTreeCodeSpec : ChangeSpec := { name := "fnExactTreeCode", fn := fun _ => fun
  | [d] => { results := [.lit (.bool true)], args := [d] }
  | _ => none }
def fnExactTreeCodeRow : OpenClaim := { program := "ytnpkcdegckfjeaa", sum := "b91a680108183f375c99c810e5cf05c0cc9757fbcc16abc124129fa7857718ae", func := "loop.example/g01165/laws.FnExactTreeCode", spec := "fnExactTreeCode", inPlace := ["internal/abi.NoEscape", "internal/bytealg.MakeNoZero"], unfollowed := true, recurses := true, plainKeys := false, apart := false }
def FnExactTreeCodeSaid : Prop := fnExactTreeCodeRow.holds Try.pinned (OpenSpec.ofChange fnExactTreeCodeSpec)

/-- ITS FALSE NEIGHBOUR: 'it returns false'. Refute it at one input. -/
def fnExactTreeCodeWrong : ChangeSpec := { name := "fnExactTreeCode", fn := fun _ => fun
  | [d] => { results := [.lit (.bool false)], args := [d] }
  | _ => none }
def FnExactTreeCodeWrongFalsely : Prop := fnExactTreeCodeRow.holds Try.pinned (OpenSpec.ofChange fnExactTreeCodeWrong)

/-- 'laws.FnExactSameTopology': WHATEVER THE INPUT: true; the input reads as it did. -/
def fnExactSameTopologySpec : ChangeSpec := { name := "fnExactSameTopology", fn := fun _ => fun
  | [d1, d2] => { results := [.lit (.bool true)], args := [d1, d2] }
  | _ => none }
def fnExactSameTopologyRow : OpenClaim := { program := "ytnpkcdegckfjeaa", sum := "b91a680108183f375c99c810e5cf05c0cc9757fbcc16abc124129fa7857718ae", func := "loop.example/g01165/laws.FnExactSameTopology", spec := "fnExactSameTopology", inPlace := ["internal/abi.NoEscape", "internal/bytealg.MakeNoZero"], unfollowed := true, recurses := true, plainKeys := false, apart := false }
def FnExactSameTopologySaid : Prop := fnExactSameTopologyRow.holds Try.pinned (OpenSpec.ofChange fnExactSameTopologySpec)

/-- ITS FALSE NEIGHBOUR: 'it returns false'. Refute it at one input. -/
def fnExactSameTopologyWrong : ChangeSpec := { name := "fnExactSameTopology", fn := fun _ => fun
  | [d1, d2] => { results := [.lit (.bool false)], args := [d1, d2] }
  | _ => none }
def FnExactSameTopologyWrongFalsely : Prop := fnExactSameTopologyRow.holds Try.pinned (OpenSpec.ofChange fnExactSameTopologyWrong)

/- THE SECOND FORM. 'bulk': how many values and letters a reading holds, each counted each time it is reached (what is shared counts as often as it is met; a slice's spare places count too). A statement '..UptoSaid' is the law's where the arguments, and the package variables that the reading takes, are together of bulk at most 1048576: NARROWER than '..Said'. Prove '..Said' where nothing that the law and all that it calls make is longer than what came in: it says more and counts as full. Else prove '..UptoSaid'. A law counts once. -/
mutual
def uptoBulk {H : Type} : DataW H → Nat
  | .lit (.string bytes) => bytes.length + 1
  | .lit _ => 1
  | .nil => 1
  | .ptr d => uptoBulk d + 1
  | .slice elems spare => uptoBulkAll elems + uptoBulkAll spare + 1
  | .agg parts => uptoBulkAll parts + 1
  | .iface _ d => uptoBulk d + 1
  | .map entries => uptoBulkEntries entries + 1
  | .held _ => 1
def uptoBulkAll {H : Type} : List (DataW H) → Nat
  | [] => 0
  | d :: r => uptoBulk d + uptoBulkAll r
def uptoBulkEntries {H : Type} : List (Lit × DataW H) → Nat
  | [] => 0
  | x :: r => uptoBulkEntry x + uptoBulkEntries r
def uptoBulkEntry {H : Type} : Lit × DataW H → Nat
  | (.string bytes, d) => bytes.length + uptoBulk d + 1
  | (_, d) => uptoBulk d + 1
 end
def uptoSmall : (H : Type) → List (DataW H) → Bool := fun _ ds => decide (uptoBulkAll ds ≤ 1048576)
def OpenSpec.upto (s : _root_.Go.ChangeSpec) : _root_.Go.OpenSpec := { _root_.Go.OpenSpec.ofChange s with cond := some uptoSmall }

/-- 'laws.FnExactDepthOf', WHERE WHAT IT READS IS OF BULK AT MOST 1048576: true; the input reads as it did. -/
def fnExactDepthOfUptoRow : OpenClaim := { program := "ytnpkcdegckfjeaa", sum := "b91a680108183f375c99c810e5cf05c0cc9757fbcc16abc124129fa7857718ae", func := "loop.example/g01165/laws.FnExactDepthOf", spec := "fnExactDepthOf", inPlace := ["internal/abi.NoEscape", "internal/bytealg.MakeNoZero"], unfollowed := true, recurses := true, plainKeys := false, apart := false, narrowed := true }
def FnExactDepthOfUptoSaid : Prop := fnExactDepthOfUptoRow.holds Try.pinned (OpenSpec.upto fnExactDepthOfSpec)

/-- 'laws.FnExactTreeCode', WHERE WHAT IT READS IS OF BULK AT MOST 1048576: true; the input reads as it did. -/
def fnExactTreeCodeUptoRow : OpenClaim := { program := "ytnpkcdegckfjeaa", sum := "b91a680108183f375c99c810e5cf05c0cc9757fbcc16abc124129fa7857718ae", func := "loop.example/g01165/laws.FnExactTreeCode", spec := "fnExactTreeCode", inPlace := ["internal/abi.NoEscape", "internal/bytealg.MakeNoZero"], unfollowed := true, recurses := true, plainKeys := false, apart := false, narrowed := true }
def FnExactTreeCodeUptoSaid : Prop := fnExactTreeCodeUptoRow.holds Try.pinned (OpenSpec.upto fnExactTreeCodeSpec)

/-- 'laws.FnExactSameTopology', WHERE WHAT IT READS IS OF BULK AT MOST 1048576: true; the input reads as it did. -/
def fnExactSameTopologyUptoRow : OpenClaim := { program := "ytnpkcdegckfjeaa", sum := "b91a680108183f375c99c810e5cf05c0cc9757fbcc16abc124129fa7857718ae", func := "loop.example/g01165/laws.FnExactSameTopology", spec := "fnExactSameTopology", inPlace := ["internal/abi.NoEscape", "internal/bytealg.MakeNoZero"], unfollowed := true, recurses := true, plainKeys := false, apart := false, narrowed := true }
def FnExactSameTopologyUptoSaid : Prop := fnExactSameTopologyUptoRow.holds Try.pinned (OpenSpec.upto fnExactSameTopologySpec)

end Rows
end Go.Proofs.Ytnpkcdegckfjeaa
