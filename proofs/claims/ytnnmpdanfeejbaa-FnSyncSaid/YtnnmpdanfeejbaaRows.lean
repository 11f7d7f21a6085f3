/-
  No cell of these rows narrows 'for every input' (looked for: loops, veiled, ifaces, maps, wideKeys, modest, calm, conditions, laid).
  DERIVED. THE GIVEN ROWS OF THIS SEAT. 9 by the template 'for every input the law returns true; each argument reads behind the call as it read before'; 0 by the template 'total and deterministic' (their statements: YtnnmpdanfeejbaaTotals.lean).
  GIVEN WITH THE SEED: the statements are not yours to turn. If you find one false, say at which input.
  Laid BY PROGRAM, IN A SANDBOX (cutbox-rows.mjs): the forced cells as the released guide's own fill.sh prints them over the translation 4d4b58898af37320… (all of the seat's roots in one cut). By AI agents, Wed Nov 11 2026. No macro, syntax, notation, axiom, sorry.
-/
import Derived.Test.YtnnmpdanfeejbaaChecked
import GoSem.Claim
import GoSem.ClaimJoined
import GoSem.ClaimMapViews
import Derived.JoinedTies
import Derived.KernelRfl
namespace Go.Proofs.Ytnnmpdanfeejbaa
/- THE CELL 'sum', in the pinned program and in every row, IS THE sha256 OF THE DUMP (.gsa) THAT YtnnmpdanfeejbaaProg.lean LOADS. Nothing in Lean hashes anything: it is a label: what it is worth is what the hold of that sum in a sandbox is worth. -/
noncomputable def Try.pinned : Pinned := { name := "ytnnmpdanfeejbaa", sum := "4d4b58898af37320cba3d646938d09e0be55e218d646629391d3280d003ecec2", checked := Try.checked }
namespace Rows
def none {H : Type} : Left H := { results := [], args := [] }

/-- 'laws.FnExactDiskWrite': WHATEVER THE INPUT: true; the input reads as it did. -/
def fnExactDiskWriteSpec : ChangeSpec := { name := "fnExactDiskWrite", fn := fun _ => fun
  | [d1, d2, d3] => { results := [.lit (.bool true)], args := [d1, d2, d3] }
  | _ => none }
def fnExactDiskWriteRow : OpenClaim := { program := "ytnnmpdanfeejbaa", sum := "4d4b58898af37320cba3d646938d09e0be55e218d646629391d3280d003ecec2", func := "loop.example/g00392/laws.FnExactDiskWrite", spec := "fnExactDiskWrite", apart := false }
def FnExactDiskWriteSaid : Prop := fnExactDiskWriteRow.holds Try.pinned (OpenSpec.ofChange fnExactDiskWriteSpec)

/-- ITS FALSE NEIGHBOUR: 'it returns false'. Refute it at one input. -/
def fnExactDiskWriteWrong : ChangeSpec := { name := "fnExactDiskWrite", fn := fun _ => fun
  | [d1, d2, d3] => { results := [.lit (.bool false)], args := [d1, d2, d3] }
  | _ => none }
def FnExactDiskWriteWrongFalsely : Prop := fnExactDiskWriteRow.holds Try.pinned (OpenSpec.ofChange fnExactDiskWriteWrong)

/-- 'laws.FnExactPageRead': WHATEVER THE INPUT: true; the input reads as it did. -/
def fnExactPageReadSpec : ChangeSpec := { name := "fnExactPageRead", fn := fun _ => fun
  | [d] => { results := [.lit (.bool true)], args := [d] }
  | _ => none }
def fnExactPageReadRow : OpenClaim := { program := "ytnnmpdanfeejbaa", sum := "4d4b58898af37320cba3d646938d09e0be55e218d646629391d3280d003ecec2", func := "loop.example/g00392/laws.FnExactPageRead", spec := "fnExactPageRead", apart := false }
def FnExactPageReadSaid : Prop := fnExactPageReadRow.holds Try.pinned (OpenSpec.ofChange fnExactPageReadSpec)

/-- ITS FALSE NEIGHBOUR: 'it returns false'. Refute it at one input. -/
def fnExactPageReadWrong : ChangeSpec := { name := "fnExactPageRead", fn := fun _ => fun
  | [d] => { results := [.lit (.bool false)], args := [d] }
  | _ => none }
def FnExactPageReadWrongFalsely : Prop := fnExactPageReadRow.holds Try.pinned (OpenSpec.ofChange fnExactPageReadWrong)

/-- 'laws.FnExactTreeOk': WHATEVER THE INPUT: true; the input reads as it did. -/
def fnExactTreeOkSpec : ChangeSpec := { name := "fnExactTreeOk", fn := fun _ => fun
  | [d] => { results := [.lit (.bool true)], args := [d] }
  | _ => none }
def fnExactTreeOkRow : OpenClaim := { program := "ytnnmpdanfeejbaa", sum := "4d4b58898af37320cba3d646938d09e0be55e218d646629391d3280d003ecec2", func := "loop.example/g00392/laws.FnExactTreeOk", spec := "fnExactTreeOk", recurses := true, apart := false }
def FnExactTreeOkSaid : Prop := fnExactTreeOkRow.holds Try.pinned (OpenSpec.ofChange fnExactTreeOkSpec)

/-- ITS FALSE NEIGHBOUR: 'it returns false'. Refute it at one input. -/
def fnExactTreeOkWrong : ChangeSpec := { name := "fnExactTreeOk", fn := fun _ => fun
  | [d] => { results := [.lit (.bool false)], args := [d] }
  | _ => none }
def FnExactTreeOkWrongFalsely : Prop := fnExactTreeOkRow.holds Try.pinned (OpenSpec.ofChange fnExactTreeOkWrong)

/-- 'laws.FnExactDepth': WHATEVER THE INPUT: true; the input reads as it did. -/
def fnExactDepthSpec : ChangeSpec := { name := "fnExactDepth", fn := fun _ => fun
  | [d] => { results := [.lit (.bool true)], args := [d] }
  | _ => none }
def fnExactDepthRow : OpenClaim := { program := "ytnnmpdanfeejbaa", sum := "4d4b58898af37320cba3d646938d09e0be55e218d646629391d3280d003ecec2", func := "loop.example/g00392/laws.FnExactDepth", spec := "fnExactDepth", recurses := true, apart := false }
def FnExactDepthSaid : Prop := fnExactDepthRow.holds Try.pinned (OpenSpec.ofChange fnExactDepthSpec)

/-- ITS FALSE NEIGHBOUR: 'it returns false'. Refute it at one input. -/
def fnExactDepthWrong : ChangeSpec := { name := "fnExactDepth", fn := fun _ => fun
  | [d] => { results := [.lit (.bool false)], args := [d] }
  | _ => none }
def FnExactDepthWrongFalsely : Prop := fnExactDepthRow.holds Try.pinned (OpenSpec.ofChange fnExactDepthWrong)

/-- 'laws.FnExactTreeGet': WHATEVER THE INPUT: true; the input reads as it did. -/
def fnExactTreeGetSpec : ChangeSpec := { name := "fnExactTreeGet", fn := fun _ => fun
  | [d1, d2] => { results := [.lit (.bool true)], args := [d1, d2] }
  | _ => none }
def fnExactTreeGetRow : OpenClaim := { program := "ytnnmpdanfeejbaa", sum := "4d4b58898af37320cba3d646938d09e0be55e218d646629391d3280d003ecec2", func := "loop.example/g00392/laws.FnExactTreeGet", spec := "fnExactTreeGet", recurses := true, apart := false }
def FnExactTreeGetSaid : Prop := fnExactTreeGetRow.holds Try.pinned (OpenSpec.ofChange fnExactTreeGetSpec)

/-- ITS FALSE NEIGHBOUR: 'it returns false'. Refute it at one input. -/
def fnExactTreeGetWrong : ChangeSpec := { name := "fnExactTreeGet", fn := fun _ => fun
  | [d1, d2] => { results := [.lit (.bool false)], args := [d1, d2] }
  | _ => none }
def FnExactTreeGetWrongFalsely : Prop := fnExactTreeGetRow.holds Try.pinned (OpenSpec.ofChange fnExactTreeGetWrong)

/-- 'laws.FnExactDoOps': WHATEVER THE INPUT: true; the input reads as it did. -/
def fnExactDoOpsSpec : ChangeSpec := { name := "fnExactDoOps", fn := fun _ => fun
  | [d1, d2] => { results := [.lit (.bool true)], args := [d1, d2] }
  | _ => none }
def fnExactDoOpsRow : OpenClaim := { program := "ytnnmpdanfeejbaa", sum := "4d4b58898af37320cba3d646938d09e0be55e218d646629391d3280d003ecec2", func := "loop.example/g00392/laws.FnExactDoOps", spec := "fnExactDoOps", apart := false }
def FnExactDoOpsSaid : Prop := fnExactDoOpsRow.holds Try.pinned (OpenSpec.ofChange fnExactDoOpsSpec)

/-- ITS FALSE NEIGHBOUR: 'it returns false'. Refute it at one input. -/
def fnExactDoOpsWrong : ChangeSpec := { name := "fnExactDoOps", fn := fun _ => fun
  | [d1, d2] => { results := [.lit (.bool false)], args := [d1, d2] }
  | _ => none }
def FnExactDoOpsWrongFalsely : Prop := fnExactDoOpsRow.holds Try.pinned (OpenSpec.ofChange fnExactDoOpsWrong)

/-- 'laws.FnExactTreeAll': WHATEVER THE INPUT: true; the input reads as it did. -/
def fnExactTreeAllSpec : ChangeSpec := { name := "fnExactTreeAll", fn := fun _ => fun
  | [d] => { results := [.lit (.bool true)], args := [d] }
  | _ => none }
def fnExactTreeAllRow : OpenClaim := { program := "ytnnmpdanfeejbaa", sum := "4d4b58898af37320cba3d646938d09e0be55e218d646629391d3280d003ecec2", func := "loop.example/g00392/laws.FnExactTreeAll", spec := "fnExactTreeAll", recurses := true, apart := false }
def FnExactTreeAllSaid : Prop := fnExactTreeAllRow.holds Try.pinned (OpenSpec.ofChange fnExactTreeAllSpec)

/-- ITS FALSE NEIGHBOUR: 'it returns false'. Refute it at one input. -/
def fnExactTreeAllWrong : ChangeSpec := { name := "fnExactTreeAll", fn := fun _ => fun
  | [d] => { results := [.lit (.bool false)], args := [d] }
  | _ => none }
def FnExactTreeAllWrongFalsely : Prop := fnExactTreeAllRow.holds Try.pinned (OpenSpec.ofChange fnExactTreeAllWrong)

/-- 'laws.FnPage': WHATEVER THE INPUT: true; the input reads as it did. -/
def fnPageSpec : ChangeSpec := { name := "fnPage", fn := fun _ => fun
  | [d] => { results := [.lit (.bool true)], args := [d] }
  | _ => none }
def fnPageRow : OpenClaim := { program := "ytnnmpdanfeejbaa", sum := "4d4b58898af37320cba3d646938d09e0be55e218d646629391d3280d003ecec2", func := "loop.example/g00392/laws.FnPage", spec := "fnPage", recurses := true, apart := false }
def FnPageSaid : Prop := fnPageRow.holds Try.pinned (OpenSpec.ofChange fnPageSpec)

/-- ITS FALSE NEIGHBOUR: 'it returns false'. Refute it at one input. -/
def fnPageWrong : ChangeSpec := { name := "fnPage", fn := fun _ => fun
  | [d] => { results := [.lit (.bool false)], args := [d] }
  | _ => none }
def FnPageWrongFalsely : Prop := fnPageRow.holds Try.pinned (OpenSpec.ofChange fnPageWrong)

/-- 'laws.FnSync': WHATEVER THE INPUT: true; the input reads as it did. -/
def fnSyncSpec : ChangeSpec := { name := "fnSync", fn := fun _ => fun
  | [d] => { results := [.lit (.bool true)], args := [d] }
  | _ => none }
def fnSyncRow : OpenClaim := { program := "ytnnmpdanfeejbaa", sum := "4d4b58898af37320cba3d646938d09e0be55e218d646629391d3280d003ecec2", func := "loop.example/g00392/laws.FnSync", spec := "fnSync", recurses := true, apart := false }
def FnSyncSaid : Prop := fnSyncRow.holds Try.pinned (OpenSpec.ofChange fnSyncSpec)

/-- ITS FALSE NEIGHBOUR: 'it returns false'. Refute it at one input. -/
def fnSyncWrong : ChangeSpec := { name := "fnSync", fn := fun _ => fun
  | [d] => { results := [.lit (.bool false)], args := [d] }
  | _ => none }
def FnSyncWrongFalsely : Prop := fnSyncRow.holds Try.pinned (OpenSpec.ofChange fnSyncWrong)

/- THE SECOND FORM. 'bulk': how many values and letters a reading holds, each counted each time it is reached (what is shared counts as often as it is met; a slice's spare places count too). A statement '..UptoSaid' is the law's where the arguments, and the package variables that the reading takes, are together of bulk at most 1048576: NARROWER than '..Said'. Prove '..Said' where nothing that the law and all that it calls make is longer than what came in: it says more and counts as full. Else prove '..UptoSaid'. A law counts once. -/
mutual
def uptoBulk {H : Type} : DataW H → Nat
  | .lit (.string bytes) => bytes.length + 1
  | .lit _ => 1
  | .nil => 1
  | .ptr d => uptoBulk d + 1
  | .slice elems spare => uptoBulkAll elems + uptoBulkAll spare + 1
  | .agg parts => uptoBulkAll parts + 1
  | .iface _ d => uptoBulk d + 1
  | .map entries => uptoBulkEntries entries + 1
  | .held _ => 1
def uptoBulkAll {H : Type} : List (DataW H) → Nat
  | [] => 0
  | d :: r => uptoBulk d + uptoBulkAll r
def uptoBulkEntries {H : Type} : List (Lit × DataW H) → Nat
  | [] => 0
  | x :: r => uptoBulkEntry x + uptoBulkEntries r
def uptoBulkEntry {H : Type} : Lit × DataW H → Nat
  | (.string bytes, d) => bytes.length + uptoBulk d + 1
  | (_, d) => uptoBulk d + 1
 end
def uptoSmall : (H : Type) → List (DataW H) → Bool := fun _ ds => decide (uptoBulkAll ds ≤ 1048576)
def OpenSpec.upto (s : _root_.Go.ChangeSpec) : _root_.Go.OpenSpec := { _root_.Go.OpenSpec.ofChange s with cond := some uptoSmall }

/-- 'laws.FnExactDiskWrite', WHERE WHAT IT READS IS OF BULK AT MOST 1048576: true; the input reads as it did. -/
def fnExactDiskWriteUptoRow : OpenClaim := { program := "ytnnmpdanfeejbaa", sum := "4d4b58898af37320cba3d646938d09e0be55e218d646629391d3280d003ecec2", func := "loop.example/g00392/laws.FnExactDiskWrite", spec := "fnExactDiskWrite", apart := false, narrowed := true }
def FnExactDiskWriteUptoSaid : Prop := fnExactDiskWriteUptoRow.holds Try.pinned (OpenSpec.upto fnExactDiskWriteSpec)

/-- 'laws.FnExactPageRead', WHERE WHAT IT READS IS OF BULK AT MOST 1048576: true; the input reads as it did. -/
def fnExactPageReadUptoRow : OpenClaim := { program := "ytnnmpdanfeejbaa", sum := "4d4b58898af37320cba3d646938d09e0be55e218d646629391d3280d003ecec2", func := "loop.example/g00392/laws.FnExactPageRead", spec := "fnExactPageRead", apart := false, narrowed := true }
def FnExactPageReadUptoSaid : Prop := fnExactPageReadUptoRow.holds Try.pinned (OpenSpec.upto fnExactPageReadSpec)

/-- 'laws.FnExactTreeOk', WHERE WHAT IT READS IS OF BULK AT MOST 1048576: true; the input reads as it did. -/
def fnExactTreeOkUptoRow : OpenClaim := { program := "ytnnmpdanfeejbaa", sum := "4d4b58898af37320cba3d646938d09e0be55e218d646629391d3280d003ecec2", func := "loop.example/g00392/laws.FnExactTreeOk", spec := "fnExactTreeOk", recurses := true, apart := false, narrowed := true }
def FnExactTreeOkUptoSaid : Prop := fnExactTreeOkUptoRow.holds Try.pinned (OpenSpec.upto fnExactTreeOkSpec)

/-- 'laws.FnExactDepth', WHERE WHAT IT READS IS OF BULK AT MOST 1048576: true; the input reads as it did. -/
def fnExactDepthUptoRow : OpenClaim := { program := "ytnnmpdanfeejbaa", sum := "4d4b58898af37320cba3d646938d09e0be55e218d646629391d3280d003ecec2", func := "loop.example/g00392/laws.FnExactDepth", spec := "fnExactDepth", recurses := true, apart := false, narrowed := true }
def FnExactDepthUptoSaid : Prop := fnExactDepthUptoRow.holds Try.pinned (OpenSpec.upto fnExactDepthSpec)

/-- 'laws.FnExactTreeGet', WHERE WHAT IT READS IS OF BULK AT MOST 1048576: true; the input reads as it did. -/
def fnExactTreeGetUptoRow : OpenClaim := { program := "ytnnmpdanfeejbaa", sum := "4d4b58898af37320cba3d646938d09e0be55e218d646629391d3280d003ecec2", func := "loop.example/g00392/laws.FnExactTreeGet", spec := "fnExactTreeGet", recurses := true, apart := false, narrowed := true }
def FnExactTreeGetUptoSaid : Prop := fnExactTreeGetUptoRow.holds Try.pinned (OpenSpec.upto fnExactTreeGetSpec)

/-- 'laws.FnExactDoOps', WHERE WHAT IT READS IS OF BULK AT MOST 1048576: true; the input reads as it did. -/
def fnExactDoOpsUptoRow : OpenClaim := { program := "ytnnmpdanfeejbaa", sum := "4d4b58898af37320cba3d646938d09e0be55e218d646629391d3280d003ecec2", func := "loop.example/g00392/laws.FnExactDoOps", spec := "fnExactDoOps", apart := false, narrowed := true }
def FnExactDoOpsUptoSaid : Prop := fnExactDoOpsUptoRow.holds Try.pinned (OpenSpec.upto fnExactDoOpsSpec)

/-- 'laws.FnExactTreeAll', WHERE WHAT IT READS IS OF BULK AT MOST 1048576: true; the input reads as it did. -/
def fnExactTreeAllUptoRow : OpenClaim := { program := "ytnnmpdanfeejbaa", sum := "4d4b58898af37320cba3d646938d09e0be55e218d646629391d3280d003ecec2", func := "loop.example/g00392/laws.FnExactTreeAll", spec := "fnExactTreeAll", recurses := true, apart := false, narrowed := true }
def FnExactTreeAllUptoSaid : Prop := fnExactTreeAllUptoRow.holds Try.pinned (OpenSpec.upto fnExactTreeAllSpec)

/-- 'laws.FnPage', WHERE WHAT IT READS IS OF BULK AT MOST 1048576: true; the input reads as it did. -/
def fnPageUptoRow : OpenClaim := { program := "ytnnmpdanfeejbaa", sum := "4d4b58898af37320cba3d646938d09e0be55e218d646629391d3280d003ecec2", func := "loop.example/g00392/laws.FnPage", spec := "fnPage", recurses := true, apart := false, narrowed := true }
def FnPageUptoSaid : Prop := fnPageUptoRow.holds Try.pinned (OpenSpec.upto fnPageSpec)

/-- 'laws.FnSync', WHERE WHAT IT READS IS OF BULK AT MOST 1048576: true; the input reads as it did. -/
def fnSyncUptoRow : OpenClaim := { program := "ytnnmpdanfeejbaa", sum := "4d4b58898af37320cba3d646938d09e0be55e218d646629391d3280d003ecec2", func := "loop.example/g00392/laws.FnSync", spec := "fnSync", recurses := true, apart := false, narrowed := true }
def FnSyncUptoSaid : Prop := fnSyncUptoRow.holds Try.pinned (OpenSpec.upto fnSyncSpec)

end Rows
end Go.Proofs.Ytnnmpdanfeejbaa
