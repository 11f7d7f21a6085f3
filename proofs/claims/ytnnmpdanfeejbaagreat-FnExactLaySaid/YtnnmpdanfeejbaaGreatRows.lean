/-
  No cell of these rows narrows 'for every input' (looked for: loops, veiled, ifaces, maps, wideKeys, modest, calm, conditions, laid).
  DERIVED. THE GIVEN ROWS OF THIS SEAT. 5 by the template 'for every input the law returns true; each argument reads behind the call as it read before'; 0 by the template 'total and deterministic' (their statements: YtnnmpdanfeejbaaGreatTotals.lean).
  GIVEN WITH THE SEED: the statements are not yours to turn. If you find one false, say at which input.
  Laid BY PROGRAM, IN A SANDBOX (cutbox-rows.mjs): the forced cells as the released guide's own fill.sh prints them over the translation 43bbf9a7a2a0f8a6… (all of the seat's roots in one cut). By AI agents, Wed Nov 11 2026. No macro, syntax, notation, axiom, sorry.
-/
import Derived.Test.YtnnmpdanfeejbaaGreatChecked
import GoSem.Claim
import GoSem.ClaimJoined
import GoSem.ClaimMapViews
import Derived.JoinedTies
import Derived.KernelRfl
namespace Go.Proofs.YtnnmpdanfeejbaaGreat
/- THE CELL 'sum', in the pinned program and in every row, IS THE sha256 OF THE DUMP (.gsa) THAT YtnnmpdanfeejbaaGreatProg.lean LOADS. Nothing in Lean hashes anything: it is a label: what it is worth is what the hold of that sum in a sandbox is worth. -/
noncomputable def Tryz.pinned : Pinned := { name := "ytnnmpdanfeejbaagreat", sum := "43bbf9a7a2a0f8a6a53d28d13c0533f30cc30b2f14976adaf82cc04f655495bc", checked := Tryz.checked }
namespace Rows
def none {H : Type} : Left H := { results := [], args := [] }

/-- 'laws.FnExactStoreOpen': WHATEVER THE INPUT: true; the input reads as it did. -/
def fnExactStoreOpenSpec : ChangeSpec := { name := "fnExactStoreOpen", fn := fun _ => fun
  | [d] => { results := [.lit (.bool true)], args := [d] }
  | _ => none }
def fnExactStoreOpenRow : OpenClaim := { program := "ytnnmpdanfeejbaagreat", sum := "43bbf9a7a2a0f8a6a53d28d13c0533f30cc30b2f14976adaf82cc04f655495bc", func := "loop.example/g00392/laws.FnExactStoreOpen", spec := "fnExactStoreOpen", recurses := true, apart := false }
def FnExactStoreOpenSaid : Prop := fnExactStoreOpenRow.holds Tryz.pinned (OpenSpec.ofChange fnExactStoreOpenSpec)

/-- ITS FALSE NEIGHBOUR: 'it returns false'. Refute it at one input. -/
def fnExactStoreOpenWrong : ChangeSpec := { name := "fnExactStoreOpen", fn := fun _ => fun
  | [d] => { results := [.lit (.bool false)], args := [d] }
  | _ => none }
def FnExactStoreOpenWrongFalsely : Prop := fnExactStoreOpenRow.holds Tryz.pinned (OpenSpec.ofChange fnExactStoreOpenWrong)

/-- 'laws.FnExactStoreOk': WHATEVER THE INPUT: true; the input reads as it did. -/
def fnExactStoreOkSpec : ChangeSpec := { name := "fnExactStoreOk", fn := fun _ => fun
  | [d] => { results := [.lit (.bool true)], args := [d] }
  | _ => none }
def fnExactStoreOkRow : OpenClaim := { program := "ytnnmpdanfeejbaagreat", sum := "43bbf9a7a2a0f8a6a53d28d13c0533f30cc30b2f14976adaf82cc04f655495bc", func := "loop.example/g00392/laws.FnExactStoreOk", spec := "fnExactStoreOk", unfollowed := true, recurses := true, apart := false }
def FnExactStoreOkSaid : Prop := fnExactStoreOkRow.holds Tryz.pinned (OpenSpec.ofChange fnExactStoreOkSpec)

/-- ITS FALSE NEIGHBOUR: 'it returns false'. Refute it at one input. -/
def fnExactStoreOkWrong : ChangeSpec := { name := "fnExactStoreOk", fn := fun _ => fun
  | [d] => { results := [.lit (.bool false)], args := [d] }
  | _ => none }
def FnExactStoreOkWrongFalsely : Prop := fnExactStoreOkRow.holds Tryz.pinned (OpenSpec.ofChange fnExactStoreOkWrong)

/-- 'laws.FnExactStoreNew': WHATEVER THE INPUT: true; the input reads as it did. -/
def fnExactStoreNewSpec : ChangeSpec := { name := "fnExactStoreNew", fn := fun _ => fun
  | [d] => { results := [.lit (.bool true)], args := [d] }
  | _ => none }
def fnExactStoreNewRow : OpenClaim := { program := "ytnnmpdanfeejbaagreat", sum := "43bbf9a7a2a0f8a6a53d28d13c0533f30cc30b2f14976adaf82cc04f655495bc", func := "loop.example/g00392/laws.FnExactStoreNew", spec := "fnExactStoreNew", recurses := true, apart := false }
def FnExactStoreNewSaid : Prop := fnExactStoreNewRow.holds Tryz.pinned (OpenSpec.ofChange fnExactStoreNewSpec)

/-- ITS FALSE NEIGHBOUR: 'it returns false'. Refute it at one input. -/
def fnExactStoreNewWrong : ChangeSpec := { name := "fnExactStoreNew", fn := fun _ => fun
  | [d] => { results := [.lit (.bool false)], args := [d] }
  | _ => none }
def FnExactStoreNewWrongFalsely : Prop := fnExactStoreNewRow.holds Tryz.pinned (OpenSpec.ofChange fnExactStoreNewWrong)

/-- 'laws.FnExactLay': WHATEVER THE INPUT: true; the input reads as it did. -/
def fnExactLaySpec : ChangeSpec := { name := "fnExactLay", fn := fun _ => fun
  | [d1, d2] => { results := [.lit (.bool true)], args := [d1, d2] }
  | _ => none }
def fnExactLayRow : OpenClaim := { program := "ytnnmpdanfeejbaagreat", sum := "43bbf9a7a2a0f8a6a53d28d13c0533f30cc30b2f14976adaf82cc04f655495bc", func := "loop.example/g00392/laws.FnExactLay", spec := "fnExactLay", unfollowed := true, recurses := true, apart := false }
def FnExactLaySaid : Prop := fnExactLayRow.holds Tryz.pinned (OpenSpec.ofChange fnExactLaySpec)

/-- ITS FALSE NEIGHBOUR: 'it returns false'. Refute it at one input. -/
def fnExactLayWrong : ChangeSpec := { name := "fnExactLay", fn := fun _ => fun
  | [d1, d2] => { results := [.lit (.bool false)], args := [d1, d2] }
  | _ => none }
def FnExactLayWrongFalsely : Prop := fnExactLayRow.holds Tryz.pinned (OpenSpec.ofChange fnExactLayWrong)

/-- 'laws.FnLay': WHATEVER THE INPUT: true; the input reads as it did. -/
def fnLaySpec : ChangeSpec := { name := "fnLay", fn := fun _ => fun
  | [d] => { results := [.lit (.bool true)], args := [d] }
  | _ => none }
def fnLayRow : OpenClaim := { program := "ytnnmpdanfeejbaagreat", sum := "43bbf9a7a2a0f8a6a53d28d13c0533f30cc30b2f14976adaf82cc04f655495bc", func := "loop.example/g00392/laws.FnLay", spec := "fnLay", unfollowed := true, recurses := true, apart := false }
def FnLaySaid : Prop := fnLayRow.holds Tryz.pinned (OpenSpec.ofChange fnLaySpec)

/-- ITS FALSE NEIGHBOUR: 'it returns false'. Refute it at one input. -/
def fnLayWrong : ChangeSpec := { name := "fnLay", fn := fun _ => fun
  | [d] => { results := [.lit (.bool false)], args := [d] }
  | _ => none }
def FnLayWrongFalsely : Prop := fnLayRow.holds Tryz.pinned (OpenSpec.ofChange fnLayWrong)

/- THE SECOND FORM. 'bulk': how many values and letters a reading holds, each counted each time it is reached (what is shared counts as often as it is met; a slice's spare places count too). A statement '..UptoSaid' is the law's where the arguments, and the package variables that the reading takes, are together of bulk at most 1048576: NARROWER than '..Said'. Prove '..Said' where nothing that the law and all that it calls make is longer than what came in: it says more and counts as full. Else prove '..UptoSaid'. A law counts once. -/
mutual
def uptoBulk {H : Type} : DataW H → Nat
  | .lit (.string bytes) => bytes.length + 1
  | .lit _ => 1
  | .nil => 1
  | .ptr d => uptoBulk d + 1
  | .slice elems spare => uptoBulkAll elems + uptoBulkAll spare + 1
  | .agg parts => uptoBulkAll parts + 1
  | .iface _ d => uptoBulk d + 1
  | .map entries => uptoBulkEntries entries + 1
  | .held _ => 1
def uptoBulkAll {H : Type} : List (DataW H) → Nat
  | [] => 0
  | d :: r => uptoBulk d + uptoBulkAll r
def uptoBulkEntries {H : Type} : List (Lit × DataW H) → Nat
  | [] => 0
  | x :: r => uptoBulkEntry x + uptoBulkEntries r
def uptoBulkEntry {H : Type} : Lit × DataW H → Nat
  | (.string bytes, d) => bytes.length + uptoBulk d + 1
  | (_, d) => uptoBulk d + 1
 end
def uptoSmall : (H : Type) → List (DataW H) → Bool := fun _ ds => decide (uptoBulkAll ds ≤ 1048576)
def OpenSpec.upto (s : _root_.Go.ChangeSpec) : _root_.Go.OpenSpec := { _root_.Go.OpenSpec.ofChange s with cond := some uptoSmall }

/-- 'laws.FnExactStoreOpen', WHERE WHAT IT READS IS OF BULK AT MOST 1048576: true; the input reads as it did. -/
def fnExactStoreOpenUptoRow : OpenClaim := { program := "ytnnmpdanfeejbaagreat", sum := "43bbf9a7a2a0f8a6a53d28d13c0533f30cc30b2f14976adaf82cc04f655495bc", func := "loop.example/g00392/laws.FnExactStoreOpen", spec := "fnExactStoreOpen", recurses := true, apart := false, narrowed := true }
def FnExactStoreOpenUptoSaid : Prop := fnExactStoreOpenUptoRow.holds Tryz.pinned (OpenSpec.upto fnExactStoreOpenSpec)

/-- 'laws.FnExactStoreOk', WHERE WHAT IT READS IS OF BULK AT MOST 1048576: true; the input reads as it did. -/
def fnExactStoreOkUptoRow : OpenClaim := { program := "ytnnmpdanfeejbaagreat", sum := "43bbf9a7a2a0f8a6a53d28d13c0533f30cc30b2f14976adaf82cc04f655495bc", func := "loop.example/g00392/laws.FnExactStoreOk", spec := "fnExactStoreOk", unfollowed := true, recurses := true, apart := false, narrowed := true }
def FnExactStoreOkUptoSaid : Prop := fnExactStoreOkUptoRow.holds Tryz.pinned (OpenSpec.upto fnExactStoreOkSpec)

/-- 'laws.FnExactStoreNew', WHERE WHAT IT READS IS OF BULK AT MOST 1048576: true; the input reads as it did. -/
def fnExactStoreNewUptoRow : OpenClaim := { program := "ytnnmpdanfeejbaagreat", sum := "43bbf9a7a2a0f8a6a53d28d13c0533f30cc30b2f14976adaf82cc04f655495bc", func := "loop.example/g00392/laws.FnExactStoreNew", spec := "fnExactStoreNew", recurses := true, apart := false, narrowed := true }
def FnExactStoreNewUptoSaid : Prop := fnExactStoreNewUptoRow.holds Tryz.pinned (OpenSpec.upto fnExactStoreNewSpec)

/-- 'laws.FnExactLay', WHERE WHAT IT READS IS OF BULK AT MOST 1048576: true; the input reads as it did. -/
def fnExactLayUptoRow : OpenClaim := { program := "ytnnmpdanfeejbaagreat", sum := "43bbf9a7a2a0f8a6a53d28d13c0533f30cc30b2f14976adaf82cc04f655495bc", func := "loop.example/g00392/laws.FnExactLay", spec := "fnExactLay", unfollowed := true, recurses := true, apart := false, narrowed := true }
def FnExactLayUptoSaid : Prop := fnExactLayUptoRow.holds Tryz.pinned (OpenSpec.upto fnExactLaySpec)

/-- 'laws.FnLay', WHERE WHAT IT READS IS OF BULK AT MOST 1048576: true; the input reads as it did. -/
def fnLayUptoRow : OpenClaim := { program := "ytnnmpdanfeejbaagreat", sum := "43bbf9a7a2a0f8a6a53d28d13c0533f30cc30b2f14976adaf82cc04f655495bc", func := "loop.example/g00392/laws.FnLay", spec := "fnLay", unfollowed := true, recurses := true, apart := false, narrowed := true }
def FnLayUptoSaid : Prop := fnLayUptoRow.holds Tryz.pinned (OpenSpec.upto fnLaySpec)

end Rows
end Go.Proofs.YtnnmpdanfeejbaaGreat
