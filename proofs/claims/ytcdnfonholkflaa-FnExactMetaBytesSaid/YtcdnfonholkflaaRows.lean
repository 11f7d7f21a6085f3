/-
  No cell of these rows narrows 'for every input' (looked for: loops, veiled, ifaces, maps, wideKeys, modest, calm, conditions, laid).
  DERIVED. THE GIVEN ROWS OF THIS SEAT. 12 by the template 'for every input the law returns true; each argument reads behind the call as it read before'; 0 by the template 'total and deterministic' (their statements: YtcdnfonholkflaaTotals.lean).
  GIVEN WITH THE SEED: the statements are not yours to turn. If you find one false, say at which input.
  Laid BY PROGRAM, IN A SANDBOX (cutbox-rows.mjs): the forced cells as the released guide's own fill.sh prints them over the translation 1e71376faa4b2b7d… (all of the seat's roots in one cut). By AI agents, Wed Nov 11 2026. No macro, syntax, notation, axiom, sorry.
-/
import Derived.Test.YtcdnfonholkflaaChecked
import GoSem.Claim
import GoSem.ClaimJoined
import GoSem.ClaimMapViews
import Derived.JoinedTies
import Derived.KernelRfl
namespace Go.Proofs.Ytcdnfonholkflaa
/- THE CELL 'sum', in the pinned program and in every row, IS THE sha256 OF THE DUMP (.gsa) THAT YtcdnfonholkflaaProg.lean LOADS. Nothing in Lean hashes anything: it is a label: what it is worth is what the hold of that sum in a sandbox is worth. -/
noncomputable def Try.pinned : Pinned := { name := "ytcdnfonholkflaa", sum := "1e71376faa4b2b7d2bf6f66cd592604647ac04591a7b3d748d3dbb8ae315a1a0", checked := Try.checked }
namespace Rows
def none {H : Type} : Left H := { results := [], args := [] }

/-- 'laws.FnExactRangeBoth': WHATEVER THE INPUT: true; the input reads as it did. -/
def fnExactRangeBothSpec : ChangeSpec := { name := "fnExactRangeBoth", fn := fun _ => fun
  | [d1, d2] => { results := [.lit (.bool true)], args := [d1, d2] }
  | _ => none }
def fnExactRangeBothRow : OpenClaim := { program := "ytcdnfonholkflaa", sum := "1e71376faa4b2b7d2bf6f66cd592604647ac04591a7b3d748d3dbb8ae315a1a0", func := "loop.example/g00392/laws.FnExactRangeBoth", spec := "fnExactRangeBoth", apart := false }
def FnExactRangeBothSaid : Prop := fnExactRangeBothRow.holds Try.pinned (OpenSpec.ofChange fnExactRangeBothSpec)

/-- ITS FALSE NEIGHBOUR: 'it returns false'. Refute it at one input. -/
def fnExactRangeBothWrong : ChangeSpec := { name := "fnExactRangeBoth", fn := fun _ => fun
  | [d1, d2] => { results := [.lit (.bool false)], args := [d1, d2] }
  | _ => none }
def FnExactRangeBothWrongFalsely : Prop := fnExactRangeBothRow.holds Try.pinned (OpenSpec.ofChange fnExactRangeBothWrong)

/-- 'laws.FnExactTear': WHATEVER THE INPUT: true; the input reads as it did. -/
def fnExactTearSpec : ChangeSpec := { name := "fnExactTear", fn := fun _ => fun
  | [d1, d2, d3] => { results := [.lit (.bool true)], args := [d1, d2, d3] }
  | _ => none }
def fnExactTearRow : OpenClaim := { program := "ytcdnfonholkflaa", sum := "1e71376faa4b2b7d2bf6f66cd592604647ac04591a7b3d748d3dbb8ae315a1a0", func := "loop.example/g00392/laws.FnExactTear", spec := "fnExactTear", apart := false }
def FnExactTearSaid : Prop := fnExactTearRow.holds Try.pinned (OpenSpec.ofChange fnExactTearSpec)

/-- ITS FALSE NEIGHBOUR: 'it returns false'. Refute it at one input. -/
def fnExactTearWrong : ChangeSpec := { name := "fnExactTear", fn := fun _ => fun
  | [d1, d2, d3] => { results := [.lit (.bool false)], args := [d1, d2, d3] }
  | _ => none }
def FnExactTearWrongFalsely : Prop := fnExactTearRow.holds Try.pinned (OpenSpec.ofChange fnExactTearWrong)

/-- 'laws.FnExactPutVar': WHATEVER THE INPUT: true; the input reads as it did. -/
def fnExactPutVarSpec : ChangeSpec := { name := "fnExactPutVar", fn := fun _ => fun
  | [d1, d2] => { results := [.lit (.bool true)], args := [d1, d2] }
  | _ => none }
def fnExactPutVarRow : OpenClaim := { program := "ytcdnfonholkflaa", sum := "1e71376faa4b2b7d2bf6f66cd592604647ac04591a7b3d748d3dbb8ae315a1a0", func := "loop.example/g00392/laws.FnExactPutVar", spec := "fnExactPutVar", apart := false }
def FnExactPutVarSaid : Prop := fnExactPutVarRow.holds Try.pinned (OpenSpec.ofChange fnExactPutVarSpec)

/-- ITS FALSE NEIGHBOUR: 'it returns false'. Refute it at one input. -/
def fnExactPutVarWrong : ChangeSpec := { name := "fnExactPutVar", fn := fun _ => fun
  | [d1, d2] => { results := [.lit (.bool false)], args := [d1, d2] }
  | _ => none }
def FnExactPutVarWrongFalsely : Prop := fnExactPutVarRow.holds Try.pinned (OpenSpec.ofChange fnExactPutVarWrong)

/-- 'laws.FnExactGetVar': WHATEVER THE INPUT: true; the input reads as it did. -/
def fnExactGetVarSpec : ChangeSpec := { name := "fnExactGetVar", fn := fun _ => fun
  | [d1, d2] => { results := [.lit (.bool true)], args := [d1, d2] }
  | _ => none }
def fnExactGetVarRow : OpenClaim := { program := "ytcdnfonholkflaa", sum := "1e71376faa4b2b7d2bf6f66cd592604647ac04591a7b3d748d3dbb8ae315a1a0", func := "loop.example/g00392/laws.FnExactGetVar", spec := "fnExactGetVar", apart := false }
def FnExactGetVarSaid : Prop := fnExactGetVarRow.holds Try.pinned (OpenSpec.ofChange fnExactGetVarSpec)

/-- ITS FALSE NEIGHBOUR: 'it returns false'. Refute it at one input. -/
def fnExactGetVarWrong : ChangeSpec := { name := "fnExactGetVar", fn := fun _ => fun
  | [d1, d2] => { results := [.lit (.bool false)], args := [d1, d2] }
  | _ => none }
def FnExactGetVarWrongFalsely : Prop := fnExactGetVarRow.holds Try.pinned (OpenSpec.ofChange fnExactGetVarWrong)

/-- 'laws.FnExactPutText': WHATEVER THE INPUT: true; the input reads as it did. -/
def fnExactPutTextSpec : ChangeSpec := { name := "fnExactPutText", fn := fun _ => fun
  | [d1, d2] => { results := [.lit (.bool true)], args := [d1, d2] }
  | _ => none }
def fnExactPutTextRow : OpenClaim := { program := "ytcdnfonholkflaa", sum := "1e71376faa4b2b7d2bf6f66cd592604647ac04591a7b3d748d3dbb8ae315a1a0", func := "loop.example/g00392/laws.FnExactPutText", spec := "fnExactPutText", apart := false }
def FnExactPutTextSaid : Prop := fnExactPutTextRow.holds Try.pinned (OpenSpec.ofChange fnExactPutTextSpec)

/-- ITS FALSE NEIGHBOUR: 'it returns false'. Refute it at one input. -/
def fnExactPutTextWrong : ChangeSpec := { name := "fnExactPutText", fn := fun _ => fun
  | [d1, d2] => { results := [.lit (.bool false)], args := [d1, d2] }
  | _ => none }
def FnExactPutTextWrongFalsely : Prop := fnExactPutTextRow.holds Try.pinned (OpenSpec.ofChange fnExactPutTextWrong)

/-- 'laws.FnExactPairsOk': WHATEVER THE INPUT: true; the input reads as it did. -/
def fnExactPairsOkSpec : ChangeSpec := { name := "fnExactPairsOk", fn := fun _ => fun
  | [d] => { results := [.lit (.bool true)], args := [d] }
  | _ => none }
def fnExactPairsOkRow : OpenClaim := { program := "ytcdnfonholkflaa", sum := "1e71376faa4b2b7d2bf6f66cd592604647ac04591a7b3d748d3dbb8ae315a1a0", func := "loop.example/g00392/laws.FnExactPairsOk", spec := "fnExactPairsOk", apart := false }
def FnExactPairsOkSaid : Prop := fnExactPairsOkRow.holds Try.pinned (OpenSpec.ofChange fnExactPairsOkSpec)

/-- ITS FALSE NEIGHBOUR: 'it returns false'. Refute it at one input. -/
def fnExactPairsOkWrong : ChangeSpec := { name := "fnExactPairsOk", fn := fun _ => fun
  | [d] => { results := [.lit (.bool false)], args := [d] }
  | _ => none }
def FnExactPairsOkWrongFalsely : Prop := fnExactPairsOkRow.holds Try.pinned (OpenSpec.ofChange fnExactPairsOkWrong)

/-- 'laws.FnExactBatchOk': WHATEVER THE INPUT: true; the input reads as it did. -/
def fnExactBatchOkSpec : ChangeSpec := { name := "fnExactBatchOk", fn := fun _ => fun
  | [d] => { results := [.lit (.bool true)], args := [d] }
  | _ => none }
def fnExactBatchOkRow : OpenClaim := { program := "ytcdnfonholkflaa", sum := "1e71376faa4b2b7d2bf6f66cd592604647ac04591a7b3d748d3dbb8ae315a1a0", func := "loop.example/g00392/laws.FnExactBatchOk", spec := "fnExactBatchOk", apart := false }
def FnExactBatchOkSaid : Prop := fnExactBatchOkRow.holds Try.pinned (OpenSpec.ofChange fnExactBatchOkSpec)

/-- ITS FALSE NEIGHBOUR: 'it returns false'. Refute it at one input. -/
def fnExactBatchOkWrong : ChangeSpec := { name := "fnExactBatchOk", fn := fun _ => fun
  | [d] => { results := [.lit (.bool false)], args := [d] }
  | _ => none }
def FnExactBatchOkWrongFalsely : Prop := fnExactBatchOkRow.holds Try.pinned (OpenSpec.ofChange fnExactBatchOkWrong)

/-- 'laws.FnExactMetaBytes': WHATEVER THE INPUT: true; the input reads as it did. -/
def fnExactMetaBytesSpec : ChangeSpec := { name := "fnExactMetaBytes", fn := fun _ => fun
  | [d] => { results := [.lit (.bool true)], args := [d] }
  | _ => none }
def fnExactMetaBytesRow : OpenClaim := { program := "ytcdnfonholkflaa", sum := "1e71376faa4b2b7d2bf6f66cd592604647ac04591a7b3d748d3dbb8ae315a1a0", func := "loop.example/g00392/laws.FnExactMetaBytes", spec := "fnExactMetaBytes", apart := false }
def FnExactMetaBytesSaid : Prop := fnExactMetaBytesRow.holds Try.pinned (OpenSpec.ofChange fnExactMetaBytesSpec)

/-- ITS FALSE NEIGHBOUR: 'it returns false'. Refute it at one input. -/
def fnExactMetaBytesWrong : ChangeSpec := { name := "fnExactMetaBytes", fn := fun _ => fun
  | [d] => { results := [.lit (.bool false)], args := [d] }
  | _ => none }
def FnExactMetaBytesWrongFalsely : Prop := fnExactMetaBytesRow.holds Try.pinned (OpenSpec.ofChange fnExactMetaBytesWrong)

/-- 'laws.FnExactGetText': WHATEVER THE INPUT: true; the input reads as it did. -/
def fnExactGetTextSpec : ChangeSpec := { name := "fnExactGetText", fn := fun _ => fun
  | [d1, d2] => { results := [.lit (.bool true)], args := [d1, d2] }
  | _ => none }
def fnExactGetTextRow : OpenClaim := { program := "ytcdnfonholkflaa", sum := "1e71376faa4b2b7d2bf6f66cd592604647ac04591a7b3d748d3dbb8ae315a1a0", func := "loop.example/g00392/laws.FnExactGetText", spec := "fnExactGetText", apart := false }
def FnExactGetTextSaid : Prop := fnExactGetTextRow.holds Try.pinned (OpenSpec.ofChange fnExactGetTextSpec)

/-- ITS FALSE NEIGHBOUR: 'it returns false'. Refute it at one input. -/
def fnExactGetTextWrong : ChangeSpec := { name := "fnExactGetText", fn := fun _ => fun
  | [d1, d2] => { results := [.lit (.bool false)], args := [d1, d2] }
  | _ => none }
def FnExactGetTextWrongFalsely : Prop := fnExactGetTextRow.holds Try.pinned (OpenSpec.ofChange fnExactGetTextWrong)

/-- 'laws.FnExactPartOf': WHATEVER THE INPUT: true; the input reads as it did. -/
def fnExactPartOfSpec : ChangeSpec := { name := "fnExactPartOf", fn := fun _ => fun
  | [d1, d2] => { results := [.lit (.bool true)], args := [d1, d2] }
  | _ => none }
def fnExactPartOfRow : OpenClaim := { program := "ytcdnfonholkflaa", sum := "1e71376faa4b2b7d2bf6f66cd592604647ac04591a7b3d748d3dbb8ae315a1a0", func := "loop.example/g00392/laws.FnExactPartOf", spec := "fnExactPartOf", apart := false }
def FnExactPartOfSaid : Prop := fnExactPartOfRow.holds Try.pinned (OpenSpec.ofChange fnExactPartOfSpec)

/-- ITS FALSE NEIGHBOUR: 'it returns false'. Refute it at one input. -/
def fnExactPartOfWrong : ChangeSpec := { name := "fnExactPartOf", fn := fun _ => fun
  | [d1, d2] => { results := [.lit (.bool false)], args := [d1, d2] }
  | _ => none }
def FnExactPartOfWrongFalsely : Prop := fnExactPartOfRow.holds Try.pinned (OpenSpec.ofChange fnExactPartOfWrong)

/-- 'laws.FnExactUnquote': WHATEVER THE INPUT: true; the input reads as it did. -/
def fnExactUnquoteSpec : ChangeSpec := { name := "fnExactUnquote", fn := fun _ => fun
  | [d] => { results := [.lit (.bool true)], args := [d] }
  | _ => none }
def fnExactUnquoteRow : OpenClaim := { program := "ytcdnfonholkflaa", sum := "1e71376faa4b2b7d2bf6f66cd592604647ac04591a7b3d748d3dbb8ae315a1a0", func := "loop.example/g00392/laws.FnExactUnquote", spec := "fnExactUnquote", apart := false }
def FnExactUnquoteSaid : Prop := fnExactUnquoteRow.holds Try.pinned (OpenSpec.ofChange fnExactUnquoteSpec)

/-- ITS FALSE NEIGHBOUR: 'it returns false'. Refute it at one input. -/
def fnExactUnquoteWrong : ChangeSpec := { name := "fnExactUnquote", fn := fun _ => fun
  | [d] => { results := [.lit (.bool false)], args := [d] }
  | _ => none }
def FnExactUnquoteWrongFalsely : Prop := fnExactUnquoteRow.holds Try.pinned (OpenSpec.ofChange fnExactUnquoteWrong)

/-- 'laws.FnExactRoute': WHATEVER THE INPUT: true; the input reads as it did. -/
def fnExactRouteSpec : ChangeSpec := { name := "fnExactRoute", fn := fun _ => fun
  | [d1, d2] => { results := [.lit (.bool true)], args := [d1, d2] }
  | _ => none }
def fnExactRouteRow : OpenClaim := { program := "ytcdnfonholkflaa", sum := "1e71376faa4b2b7d2bf6f66cd592604647ac04591a7b3d748d3dbb8ae315a1a0", func := "loop.example/g00392/laws.FnExactRoute", spec := "fnExactRoute", apart := false }
def FnExactRouteSaid : Prop := fnExactRouteRow.holds Try.pinned (OpenSpec.ofChange fnExactRouteSpec)

/-- ITS FALSE NEIGHBOUR: 'it returns false'. Refute it at one input. -/
def fnExactRouteWrong : ChangeSpec := { name := "fnExactRoute", fn := fun _ => fun
  | [d1, d2] => { results := [.lit (.bool false)], args := [d1, d2] }
  | _ => none }
def FnExactRouteWrongFalsely : Prop := fnExactRouteRow.holds Try.pinned (OpenSpec.ofChange fnExactRouteWrong)

/- THE SECOND FORM. 'bulk': how many values and letters a reading holds, each counted each time it is reached (what is shared counts as often as it is met; a slice's spare places count too). A statement '..UptoSaid' is the law's where the arguments, and the package variables that the reading takes, are together of bulk at most 1048576: NARROWER than '..Said'. Prove '..Said' where nothing that the law and all that it calls make is longer than what came in: it says more and counts as full. Else prove '..UptoSaid'. A law counts once. -/
mutual
def uptoBulk {H : Type} : DataW H → Nat
  | .lit (.string bytes) => bytes.length + 1
  | .lit _ => 1
  | .nil => 1
  | .ptr d => uptoBulk d + 1
  | .slice elems spare => uptoBulkAll elems + uptoBulkAll spare + 1
  | .agg parts => uptoBulkAll parts + 1
  | .iface _ d => uptoBulk d + 1
  | .map entries => uptoBulkEntries entries + 1
  | .held _ => 1
def uptoBulkAll {H : Type} : List (DataW H) → Nat
  | [] => 0
  | d :: r => uptoBulk d + uptoBulkAll r
def uptoBulkEntries {H : Type} : List (Lit × DataW H) → Nat
  | [] => 0
  | x :: r => uptoBulkEntry x + uptoBulkEntries r
def uptoBulkEntry {H : Type} : Lit × DataW H → Nat
  | (.string bytes, d) => bytes.length + uptoBulk d + 1
  | (_, d) => uptoBulk d + 1
 end
def uptoSmall : (H : Type) → List (DataW H) → Bool := fun _ ds => decide (uptoBulkAll ds ≤ 1048576)
def OpenSpec.upto (s : _root_.Go.ChangeSpec) : _root_.Go.OpenSpec := { _root_.Go.OpenSpec.ofChange s with cond := some uptoSmall }

/-- 'laws.FnExactRangeBoth', WHERE WHAT IT READS IS OF BULK AT MOST 1048576: true; the input reads as it did. -/
def fnExactRangeBothUptoRow : OpenClaim := { program := "ytcdnfonholkflaa", sum := "1e71376faa4b2b7d2bf6f66cd592604647ac04591a7b3d748d3dbb8ae315a1a0", func := "loop.example/g00392/laws.FnExactRangeBoth", spec := "fnExactRangeBoth", apart := false, narrowed := true }
def FnExactRangeBothUptoSaid : Prop := fnExactRangeBothUptoRow.holds Try.pinned (OpenSpec.upto fnExactRangeBothSpec)

/-- 'laws.FnExactTear', WHERE WHAT IT READS IS OF BULK AT MOST 1048576: true; the input reads as it did. -/
def fnExactTearUptoRow : OpenClaim := { program := "ytcdnfonholkflaa", sum := "1e71376faa4b2b7d2bf6f66cd592604647ac04591a7b3d748d3dbb8ae315a1a0", func := "loop.example/g00392/laws.FnExactTear", spec := "fnExactTear", apart := false, narrowed := true }
def FnExactTearUptoSaid : Prop := fnExactTearUptoRow.holds Try.pinned (OpenSpec.upto fnExactTearSpec)

/-- 'laws.FnExactPutVar', WHERE WHAT IT READS IS OF BULK AT MOST 1048576: true; the input reads as it did. -/
def fnExactPutVarUptoRow : OpenClaim := { program := "ytcdnfonholkflaa", sum := "1e71376faa4b2b7d2bf6f66cd592604647ac04591a7b3d748d3dbb8ae315a1a0", func := "loop.example/g00392/laws.FnExactPutVar", spec := "fnExactPutVar", apart := false, narrowed := true }
def FnExactPutVarUptoSaid : Prop := fnExactPutVarUptoRow.holds Try.pinned (OpenSpec.upto fnExactPutVarSpec)

/-- 'laws.FnExactGetVar', WHERE WHAT IT READS IS OF BULK AT MOST 1048576: true; the input reads as it did. -/
def fnExactGetVarUptoRow : OpenClaim := { program := "ytcdnfonholkflaa", sum := "1e71376faa4b2b7d2bf6f66cd592604647ac04591a7b3d748d3dbb8ae315a1a0", func := "loop.example/g00392/laws.FnExactGetVar", spec := "fnExactGetVar", apart := false, narrowed := true }
def FnExactGetVarUptoSaid : Prop := fnExactGetVarUptoRow.holds Try.pinned (OpenSpec.upto fnExactGetVarSpec)

/-- 'laws.FnExactPutText', WHERE WHAT IT READS IS OF BULK AT MOST 1048576: true; the input reads as it did. -/
def fnExactPutTextUptoRow : OpenClaim := { program := "ytcdnfonholkflaa", sum := "1e71376faa4b2b7d2bf6f66cd592604647ac04591a7b3d748d3dbb8ae315a1a0", func := "loop.example/g00392/laws.FnExactPutText", spec := "fnExactPutText", apart := false, narrowed := true }
def FnExactPutTextUptoSaid : Prop := fnExactPutTextUptoRow.holds Try.pinned (OpenSpec.upto fnExactPutTextSpec)

/-- 'laws.FnExactPairsOk', WHERE WHAT IT READS IS OF BULK AT MOST 1048576: true; the input reads as it did. -/
def fnExactPairsOkUptoRow : OpenClaim := { program := "ytcdnfonholkflaa", sum := "1e71376faa4b2b7d2bf6f66cd592604647ac04591a7b3d748d3dbb8ae315a1a0", func := "loop.example/g00392/laws.FnExactPairsOk", spec := "fnExactPairsOk", apart := false, narrowed := true }
def FnExactPairsOkUptoSaid : Prop := fnExactPairsOkUptoRow.holds Try.pinned (OpenSpec.upto fnExactPairsOkSpec)

/-- 'laws.FnExactBatchOk', WHERE WHAT IT READS IS OF BULK AT MOST 1048576: true; the input reads as it did. -/
def fnExactBatchOkUptoRow : OpenClaim := { program := "ytcdnfonholkflaa", sum := "1e71376faa4b2b7d2bf6f66cd592604647ac04591a7b3d748d3dbb8ae315a1a0", func := "loop.example/g00392/laws.FnExactBatchOk", spec := "fnExactBatchOk", apart := false, narrowed := true }
def FnExactBatchOkUptoSaid : Prop := fnExactBatchOkUptoRow.holds Try.pinned (OpenSpec.upto fnExactBatchOkSpec)

/-- 'laws.FnExactMetaBytes', WHERE WHAT IT READS IS OF BULK AT MOST 1048576: true; the input reads as it did. -/
def fnExactMetaBytesUptoRow : OpenClaim := { program := "ytcdnfonholkflaa", sum := "1e71376faa4b2b7d2bf6f66cd592604647ac04591a7b3d748d3dbb8ae315a1a0", func := "loop.example/g00392/laws.FnExactMetaBytes", spec := "fnExactMetaBytes", apart := false, narrowed := true }
def FnExactMetaBytesUptoSaid : Prop := fnExactMetaBytesUptoRow.holds Try.pinned (OpenSpec.upto fnExactMetaBytesSpec)

/-- 'laws.FnExactGetText', WHERE WHAT IT READS IS OF BULK AT MOST 1048576: true; the input reads as it did. -/
def fnExactGetTextUptoRow : OpenClaim := { program := "ytcdnfonholkflaa", sum := "1e71376faa4b2b7d2bf6f66cd592604647ac04591a7b3d748d3dbb8ae315a1a0", func := "loop.example/g00392/laws.FnExactGetText", spec := "fnExactGetText", apart := false, narrowed := true }
def FnExactGetTextUptoSaid : Prop := fnExactGetTextUptoRow.holds Try.pinned (OpenSpec.upto fnExactGetTextSpec)

/-- 'laws.FnExactPartOf', WHERE WHAT IT READS IS OF BULK AT MOST 1048576: true; the input reads as it did. -/
def fnExactPartOfUptoRow : OpenClaim := { program := "ytcdnfonholkflaa", sum := "1e71376faa4b2b7d2bf6f66cd592604647ac04591a7b3d748d3dbb8ae315a1a0", func := "loop.example/g00392/laws.FnExactPartOf", spec := "fnExactPartOf", apart := false, narrowed := true }
def FnExactPartOfUptoSaid : Prop := fnExactPartOfUptoRow.holds Try.pinned (OpenSpec.upto fnExactPartOfSpec)

/-- 'laws.FnExactUnquote', WHERE WHAT IT READS IS OF BULK AT MOST 1048576: true; the input reads as it did. -/
def fnExactUnquoteUptoRow : OpenClaim := { program := "ytcdnfonholkflaa", sum := "1e71376faa4b2b7d2bf6f66cd592604647ac04591a7b3d748d3dbb8ae315a1a0", func := "loop.example/g00392/laws.FnExactUnquote", spec := "fnExactUnquote", apart := false, narrowed := true }
def FnExactUnquoteUptoSaid : Prop := fnExactUnquoteUptoRow.holds Try.pinned (OpenSpec.upto fnExactUnquoteSpec)

/-- 'laws.FnExactRoute', WHERE WHAT IT READS IS OF BULK AT MOST 1048576: true; the input reads as it did. -/
def fnExactRouteUptoRow : OpenClaim := { program := "ytcdnfonholkflaa", sum := "1e71376faa4b2b7d2bf6f66cd592604647ac04591a7b3d748d3dbb8ae315a1a0", func := "loop.example/g00392/laws.FnExactRoute", spec := "fnExactRoute", apart := false, narrowed := true }
def FnExactRouteUptoSaid : Prop := fnExactRouteUptoRow.holds Try.pinned (OpenSpec.upto fnExactRouteSpec)

end Rows
end Go.Proofs.Ytcdnfonholkflaa
