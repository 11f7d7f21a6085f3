/-
  No cell of these rows narrows 'for every input' (looked for: loops, veiled, ifaces, maps, wideKeys, modest, calm, conditions, laid).
  DERIVED. THE GIVEN ROWS OF THIS SEAT. 12 by the template 'for every input the law returns true; each argument reads behind the call as it read before'; 0 by the template 'total and deterministic' (their statements: YtnleeeccpepekaaTotals.lean).
  GIVEN WITH THE SEED: the statements are not yours to turn. If you find one false, say at which input.
  Laid BY PROGRAM, IN A SANDBOX (cutbox-rows.mjs): the forced cells as the released guide's own fill.sh prints them over the translation 541a54a40cac131b… (all of the seat's roots in one cut). By AI agents, Wed Nov 11 2026. No macro, syntax, notation, axiom, sorry.
-/
import Derived.Test.YtnleeeccpepekaaChecked
import GoSem.Claim
import GoSem.ClaimJoined
import GoSem.ClaimMapViews
import Derived.JoinedTies
import Derived.KernelRfl
namespace Go.Proofs.Ytnleeeccpepekaa
/- THE CELL 'sum', in the pinned program and in every row, IS THE sha256 OF THE DUMP (.gsa) THAT YtnleeeccpepekaaProg.lean LOADS. Nothing in Lean hashes anything: it is a label: what it is worth is what the hold of that sum in a sandbox is worth. -/
noncomputable def Try.pinned : Pinned := { name := "ytnleeeccpepekaa", sum := "541a54a40cac131b08bd666298cde4979c1d370ddf1a7943f25d3089ed23a749", checked := Try.checked }
namespace Rows
def none {H : Type} : Left H := { results := [], args := [] }

/-- 'laws.FnMeta': WHATEVER THE INPUT: true; the input reads as it did. -/
def fnMetaSpec : ChangeSpec := { name := "fnMeta", fn := fun _ => fun
  | [d] => { results := [.lit (.bool true)], args := [d] }
  | _ => none }
def fnMetaRow : OpenClaim := { program := "ytnleeeccpepekaa", sum := "541a54a40cac131b08bd666298cde4979c1d370ddf1a7943f25d3089ed23a749", func := "loop.example/g00392/laws.FnMeta", spec := "fnMeta", apart := false }
def FnMetaSaid : Prop := fnMetaRow.holds Try.pinned (OpenSpec.ofChange fnMetaSpec)

/-- ITS FALSE NEIGHBOUR: 'it returns false'. Refute it at one input. -/
def fnMetaWrong : ChangeSpec := { name := "fnMeta", fn := fun _ => fun
  | [d] => { results := [.lit (.bool false)], args := [d] }
  | _ => none }
def FnMetaWrongFalsely : Prop := fnMetaRow.holds Try.pinned (OpenSpec.ofChange fnMetaWrong)

/-- 'laws.FnExactMetaRead': WHATEVER THE INPUT: true; the input reads as it did. -/
def fnExactMetaReadSpec : ChangeSpec := { name := "fnExactMetaRead", fn := fun _ => fun
  | [d] => { results := [.lit (.bool true)], args := [d] }
  | _ => none }
def fnExactMetaReadRow : OpenClaim := { program := "ytnleeeccpepekaa", sum := "541a54a40cac131b08bd666298cde4979c1d370ddf1a7943f25d3089ed23a749", func := "loop.example/g00392/laws.FnExactMetaRead", spec := "fnExactMetaRead", apart := false }
def FnExactMetaReadSaid : Prop := fnExactMetaReadRow.holds Try.pinned (OpenSpec.ofChange fnExactMetaReadSpec)

/-- ITS FALSE NEIGHBOUR: 'it returns false'. Refute it at one input. -/
def fnExactMetaReadWrong : ChangeSpec := { name := "fnExactMetaRead", fn := fun _ => fun
  | [d] => { results := [.lit (.bool false)], args := [d] }
  | _ => none }
def FnExactMetaReadWrongFalsely : Prop := fnExactMetaReadRow.holds Try.pinned (OpenSpec.ofChange fnExactMetaReadWrong)

/-- 'laws.FnQuote': WHATEVER THE INPUT: true; the input reads as it did. -/
def fnQuoteSpec : ChangeSpec := { name := "fnQuote", fn := fun _ => fun
  | [d] => { results := [.lit (.bool true)], args := [d] }
  | _ => none }
def fnQuoteRow : OpenClaim := { program := "ytnleeeccpepekaa", sum := "541a54a40cac131b08bd666298cde4979c1d370ddf1a7943f25d3089ed23a749", func := "loop.example/g00392/laws.FnQuote", spec := "fnQuote", apart := false }
def FnQuoteSaid : Prop := fnQuoteRow.holds Try.pinned (OpenSpec.ofChange fnQuoteSpec)

/-- ITS FALSE NEIGHBOUR: 'it returns false'. Refute it at one input. -/
def fnQuoteWrong : ChangeSpec := { name := "fnQuote", fn := fun _ => fun
  | [d] => { results := [.lit (.bool false)], args := [d] }
  | _ => none }
def FnQuoteWrongFalsely : Prop := fnQuoteRow.holds Try.pinned (OpenSpec.ofChange fnQuoteWrong)

/-- 'laws.FnExactPageOk': WHATEVER THE INPUT: true; the input reads as it did. -/
def fnExactPageOkSpec : ChangeSpec := { name := "fnExactPageOk", fn := fun _ => fun
  | [d] => { results := [.lit (.bool true)], args := [d] }
  | _ => none }
def fnExactPageOkRow : OpenClaim := { program := "ytnleeeccpepekaa", sum := "541a54a40cac131b08bd666298cde4979c1d370ddf1a7943f25d3089ed23a749", func := "loop.example/g00392/laws.FnExactPageOk", spec := "fnExactPageOk", apart := false }
def FnExactPageOkSaid : Prop := fnExactPageOkRow.holds Try.pinned (OpenSpec.ofChange fnExactPageOkSpec)

/-- ITS FALSE NEIGHBOUR: 'it returns false'. Refute it at one input. -/
def fnExactPageOkWrong : ChangeSpec := { name := "fnExactPageOk", fn := fun _ => fun
  | [d] => { results := [.lit (.bool false)], args := [d] }
  | _ => none }
def FnExactPageOkWrongFalsely : Prop := fnExactPageOkRow.holds Try.pinned (OpenSpec.ofChange fnExactPageOkWrong)

/-- 'laws.FnExactDiskNew': WHATEVER THE INPUT: true; the input reads as it did. -/
def fnExactDiskNewSpec : ChangeSpec := { name := "fnExactDiskNew", fn := fun _ => fun
  | [d] => { results := [.lit (.bool true)], args := [d] }
  | _ => none }
def fnExactDiskNewRow : OpenClaim := { program := "ytnleeeccpepekaa", sum := "541a54a40cac131b08bd666298cde4979c1d370ddf1a7943f25d3089ed23a749", func := "loop.example/g00392/laws.FnExactDiskNew", spec := "fnExactDiskNew", apart := false }
def FnExactDiskNewSaid : Prop := fnExactDiskNewRow.holds Try.pinned (OpenSpec.ofChange fnExactDiskNewSpec)

/-- ITS FALSE NEIGHBOUR: 'it returns false'. Refute it at one input. -/
def fnExactDiskNewWrong : ChangeSpec := { name := "fnExactDiskNew", fn := fun _ => fun
  | [d] => { results := [.lit (.bool false)], args := [d] }
  | _ => none }
def FnExactDiskNewWrongFalsely : Prop := fnExactDiskNewRow.holds Try.pinned (OpenSpec.ofChange fnExactDiskNewWrong)

/-- 'laws.FnVar': WHATEVER THE INPUT: true; the input reads as it did. -/
def fnVarSpec : ChangeSpec := { name := "fnVar", fn := fun _ => fun
  | [d] => { results := [.lit (.bool true)], args := [d] }
  | _ => none }
def fnVarRow : OpenClaim := { program := "ytnleeeccpepekaa", sum := "541a54a40cac131b08bd666298cde4979c1d370ddf1a7943f25d3089ed23a749", func := "loop.example/g00392/laws.FnVar", spec := "fnVar", apart := false }
def FnVarSaid : Prop := fnVarRow.holds Try.pinned (OpenSpec.ofChange fnVarSpec)

/-- ITS FALSE NEIGHBOUR: 'it returns false'. Refute it at one input. -/
def fnVarWrong : ChangeSpec := { name := "fnVar", fn := fun _ => fun
  | [d] => { results := [.lit (.bool false)], args := [d] }
  | _ => none }
def FnVarWrongFalsely : Prop := fnVarRow.holds Try.pinned (OpenSpec.ofChange fnVarWrong)

/-- 'laws.FnExactDiskOk': WHATEVER THE INPUT: true; the input reads as it did. -/
def fnExactDiskOkSpec : ChangeSpec := { name := "fnExactDiskOk", fn := fun _ => fun
  | [d] => { results := [.lit (.bool true)], args := [d] }
  | _ => none }
def fnExactDiskOkRow : OpenClaim := { program := "ytnleeeccpepekaa", sum := "541a54a40cac131b08bd666298cde4979c1d370ddf1a7943f25d3089ed23a749", func := "loop.example/g00392/laws.FnExactDiskOk", spec := "fnExactDiskOk", apart := false }
def FnExactDiskOkSaid : Prop := fnExactDiskOkRow.holds Try.pinned (OpenSpec.ofChange fnExactDiskOkSpec)

/-- ITS FALSE NEIGHBOUR: 'it returns false'. Refute it at one input. -/
def fnExactDiskOkWrong : ChangeSpec := { name := "fnExactDiskOk", fn := fun _ => fun
  | [d] => { results := [.lit (.bool false)], args := [d] }
  | _ => none }
def FnExactDiskOkWrongFalsely : Prop := fnExactDiskOkRow.holds Try.pinned (OpenSpec.ofChange fnExactDiskOkWrong)

/-- 'laws.FnExactCut': WHATEVER THE INPUT: true; the input reads as it did. -/
def fnExactCutSpec : ChangeSpec := { name := "fnExactCut", fn := fun _ => fun
  | [d1, d2] => { results := [.lit (.bool true)], args := [d1, d2] }
  | _ => none }
def fnExactCutRow : OpenClaim := { program := "ytnleeeccpepekaa", sum := "541a54a40cac131b08bd666298cde4979c1d370ddf1a7943f25d3089ed23a749", func := "loop.example/g00392/laws.FnExactCut", spec := "fnExactCut", apart := false }
def FnExactCutSaid : Prop := fnExactCutRow.holds Try.pinned (OpenSpec.ofChange fnExactCutSpec)

/-- ITS FALSE NEIGHBOUR: 'it returns false'. Refute it at one input. -/
def fnExactCutWrong : ChangeSpec := { name := "fnExactCut", fn := fun _ => fun
  | [d1, d2] => { results := [.lit (.bool false)], args := [d1, d2] }
  | _ => none }
def FnExactCutWrongFalsely : Prop := fnExactCutRow.holds Try.pinned (OpenSpec.ofChange fnExactCutWrong)

/-- 'laws.FnExactDiskRead': WHATEVER THE INPUT: true; the input reads as it did. -/
def fnExactDiskReadSpec : ChangeSpec := { name := "fnExactDiskRead", fn := fun _ => fun
  | [d1, d2] => { results := [.lit (.bool true)], args := [d1, d2] }
  | _ => none }
def fnExactDiskReadRow : OpenClaim := { program := "ytnleeeccpepekaa", sum := "541a54a40cac131b08bd666298cde4979c1d370ddf1a7943f25d3089ed23a749", func := "loop.example/g00392/laws.FnExactDiskRead", spec := "fnExactDiskRead", apart := false }
def FnExactDiskReadSaid : Prop := fnExactDiskReadRow.holds Try.pinned (OpenSpec.ofChange fnExactDiskReadSpec)

/-- ITS FALSE NEIGHBOUR: 'it returns false'. Refute it at one input. -/
def fnExactDiskReadWrong : ChangeSpec := { name := "fnExactDiskRead", fn := fun _ => fun
  | [d1, d2] => { results := [.lit (.bool false)], args := [d1, d2] }
  | _ => none }
def FnExactDiskReadWrongFalsely : Prop := fnExactDiskReadRow.holds Try.pinned (OpenSpec.ofChange fnExactDiskReadWrong)

/-- 'laws.FnExactPageBytes': WHATEVER THE INPUT: true; the input reads as it did. -/
def fnExactPageBytesSpec : ChangeSpec := { name := "fnExactPageBytes", fn := fun _ => fun
  | [d] => { results := [.lit (.bool true)], args := [d] }
  | _ => none }
def fnExactPageBytesRow : OpenClaim := { program := "ytnleeeccpepekaa", sum := "541a54a40cac131b08bd666298cde4979c1d370ddf1a7943f25d3089ed23a749", func := "loop.example/g00392/laws.FnExactPageBytes", spec := "fnExactPageBytes", apart := false }
def FnExactPageBytesSaid : Prop := fnExactPageBytesRow.holds Try.pinned (OpenSpec.ofChange fnExactPageBytesSpec)

/-- ITS FALSE NEIGHBOUR: 'it returns false'. Refute it at one input. -/
def fnExactPageBytesWrong : ChangeSpec := { name := "fnExactPageBytes", fn := fun _ => fun
  | [d] => { results := [.lit (.bool false)], args := [d] }
  | _ => none }
def FnExactPageBytesWrongFalsely : Prop := fnExactPageBytesRow.holds Try.pinned (OpenSpec.ofChange fnExactPageBytesWrong)

/-- 'laws.FnExactDiskWrite': WHATEVER THE INPUT: true; the input reads as it did. -/
def fnExactDiskWriteSpec : ChangeSpec := { name := "fnExactDiskWrite", fn := fun _ => fun
  | [d1, d2, d3] => { results := [.lit (.bool true)], args := [d1, d2, d3] }
  | _ => none }
def fnExactDiskWriteRow : OpenClaim := { program := "ytnleeeccpepekaa", sum := "541a54a40cac131b08bd666298cde4979c1d370ddf1a7943f25d3089ed23a749", func := "loop.example/g00392/laws.FnExactDiskWrite", spec := "fnExactDiskWrite", apart := false }
def FnExactDiskWriteSaid : Prop := fnExactDiskWriteRow.holds Try.pinned (OpenSpec.ofChange fnExactDiskWriteSpec)

/-- ITS FALSE NEIGHBOUR: 'it returns false'. Refute it at one input. -/
def fnExactDiskWriteWrong : ChangeSpec := { name := "fnExactDiskWrite", fn := fun _ => fun
  | [d1, d2, d3] => { results := [.lit (.bool false)], args := [d1, d2, d3] }
  | _ => none }
def FnExactDiskWriteWrongFalsely : Prop := fnExactDiskWriteRow.holds Try.pinned (OpenSpec.ofChange fnExactDiskWriteWrong)

/-- 'laws.FnExactDiskMeta': WHATEVER THE INPUT: true; the input reads as it did. -/
def fnExactDiskMetaSpec : ChangeSpec := { name := "fnExactDiskMeta", fn := fun _ => fun
  | [d] => { results := [.lit (.bool true)], args := [d] }
  | _ => none }
def fnExactDiskMetaRow : OpenClaim := { program := "ytnleeeccpepekaa", sum := "541a54a40cac131b08bd666298cde4979c1d370ddf1a7943f25d3089ed23a749", func := "loop.example/g00392/laws.FnExactDiskMeta", spec := "fnExactDiskMeta", apart := false }
def FnExactDiskMetaSaid : Prop := fnExactDiskMetaRow.holds Try.pinned (OpenSpec.ofChange fnExactDiskMetaSpec)

/-- ITS FALSE NEIGHBOUR: 'it returns false'. Refute it at one input. -/
def fnExactDiskMetaWrong : ChangeSpec := { name := "fnExactDiskMeta", fn := fun _ => fun
  | [d] => { results := [.lit (.bool false)], args := [d] }
  | _ => none }
def FnExactDiskMetaWrongFalsely : Prop := fnExactDiskMetaRow.holds Try.pinned (OpenSpec.ofChange fnExactDiskMetaWrong)

/- THE SECOND FORM. 'bulk': how many values and letters a reading holds, each counted each time it is reached (what is shared counts as often as it is met; a slice's spare places count too). A statement '..UptoSaid' is the law's where the arguments, and the package variables that the reading takes, are together of bulk at most 1048576: NARROWER than '..Said'. Prove '..Said' where nothing that the law and all that it calls make is longer than what came in: it says more and counts as full. Else prove '..UptoSaid'. A law counts once. -/
mutual
def uptoBulk {H : Type} : DataW H → Nat
  | .lit (.string bytes) => bytes.length + 1
  | .lit _ => 1
  | .nil => 1
  | .ptr d => uptoBulk d + 1
  | .slice elems spare => uptoBulkAll elems + uptoBulkAll spare + 1
  | .agg parts => uptoBulkAll parts + 1
  | .iface _ d => uptoBulk d + 1
  | .map entries => uptoBulkEntries entries + 1
  | .held _ => 1
def uptoBulkAll {H : Type} : List (DataW H) → Nat
  | [] => 0
  | d :: r => uptoBulk d + uptoBulkAll r
def uptoBulkEntries {H : Type} : List (Lit × DataW H) → Nat
  | [] => 0
  | x :: r => uptoBulkEntry x + uptoBulkEntries r
def uptoBulkEntry {H : Type} : Lit × DataW H → Nat
  | (.string bytes, d) => bytes.length + uptoBulk d + 1
  | (_, d) => uptoBulk d + 1
 end
def uptoSmall : (H : Type) → List (DataW H) → Bool := fun _ ds => decide (uptoBulkAll ds ≤ 1048576)
def OpenSpec.upto (s : _root_.Go.ChangeSpec) : _root_.Go.OpenSpec := { _root_.Go.OpenSpec.ofChange s with cond := some uptoSmall }

/-- 'laws.FnMeta', WHERE WHAT IT READS IS OF BULK AT MOST 1048576: true; the input reads as it did. -/
def fnMetaUptoRow : OpenClaim := { program := "ytnleeeccpepekaa", sum := "541a54a40cac131b08bd666298cde4979c1d370ddf1a7943f25d3089ed23a749", func := "loop.example/g00392/laws.FnMeta", spec := "fnMeta", apart := false, narrowed := true }
def FnMetaUptoSaid : Prop := fnMetaUptoRow.holds Try.pinned (OpenSpec.upto fnMetaSpec)

/-- 'laws.FnExactMetaRead', WHERE WHAT IT READS IS OF BULK AT MOST 1048576: true; the input reads as it did. -/
def fnExactMetaReadUptoRow : OpenClaim := { program := "ytnleeeccpepekaa", sum := "541a54a40cac131b08bd666298cde4979c1d370ddf1a7943f25d3089ed23a749", func := "loop.example/g00392/laws.FnExactMetaRead", spec := "fnExactMetaRead", apart := false, narrowed := true }
def FnExactMetaReadUptoSaid : Prop := fnExactMetaReadUptoRow.holds Try.pinned (OpenSpec.upto fnExactMetaReadSpec)

/-- 'laws.FnQuote', WHERE WHAT IT READS IS OF BULK AT MOST 1048576: true; the input reads as it did. -/
def fnQuoteUptoRow : OpenClaim := { program := "ytnleeeccpepekaa", sum := "541a54a40cac131b08bd666298cde4979c1d370ddf1a7943f25d3089ed23a749", func := "loop.example/g00392/laws.FnQuote", spec := "fnQuote", apart := false, narrowed := true }
def FnQuoteUptoSaid : Prop := fnQuoteUptoRow.holds Try.pinned (OpenSpec.upto fnQuoteSpec)

/-- 'laws.FnExactPageOk', WHERE WHAT IT READS IS OF BULK AT MOST 1048576: true; the input reads as it did. -/
def fnExactPageOkUptoRow : OpenClaim := { program := "ytnleeeccpepekaa", sum := "541a54a40cac131b08bd666298cde4979c1d370ddf1a7943f25d3089ed23a749", func := "loop.example/g00392/laws.FnExactPageOk", spec := "fnExactPageOk", apart := false, narrowed := true }
def FnExactPageOkUptoSaid : Prop := fnExactPageOkUptoRow.holds Try.pinned (OpenSpec.upto fnExactPageOkSpec)

/-- 'laws.FnExactDiskNew', WHERE WHAT IT READS IS OF BULK AT MOST 1048576: true; the input reads as it did. -/
def fnExactDiskNewUptoRow : OpenClaim := { program := "ytnleeeccpepekaa", sum := "541a54a40cac131b08bd666298cde4979c1d370ddf1a7943f25d3089ed23a749", func := "loop.example/g00392/laws.FnExactDiskNew", spec := "fnExactDiskNew", apart := false, narrowed := true }
def FnExactDiskNewUptoSaid : Prop := fnExactDiskNewUptoRow.holds Try.pinned (OpenSpec.upto fnExactDiskNewSpec)

/-- 'laws.FnVar', WHERE WHAT IT READS IS OF BULK AT MOST 1048576: true; the input reads as it did. -/
def fnVarUptoRow : OpenClaim := { program := "ytnleeeccpepekaa", sum := "541a54a40cac131b08bd666298cde4979c1d370ddf1a7943f25d3089ed23a749", func := "loop.example/g00392/laws.FnVar", spec := "fnVar", apart := false, narrowed := true }
def FnVarUptoSaid : Prop := fnVarUptoRow.holds Try.pinned (OpenSpec.upto fnVarSpec)

/-- 'laws.FnExactDiskOk', WHERE WHAT IT READS IS OF BULK AT MOST 1048576: true; the input reads as it did. -/
def fnExactDiskOkUptoRow : OpenClaim := { program := "ytnleeeccpepekaa", sum := "541a54a40cac131b08bd666298cde4979c1d370ddf1a7943f25d3089ed23a749", func := "loop.example/g00392/laws.FnExactDiskOk", spec := "fnExactDiskOk", apart := false, narrowed := true }
def FnExactDiskOkUptoSaid : Prop := fnExactDiskOkUptoRow.holds Try.pinned (OpenSpec.upto fnExactDiskOkSpec)

/-- 'laws.FnExactCut', WHERE WHAT IT READS IS OF BULK AT MOST 1048576: true; the input reads as it did. -/
def fnExactCutUptoRow : OpenClaim := { program := "ytnleeeccpepekaa", sum := "541a54a40cac131b08bd666298cde4979c1d370ddf1a7943f25d3089ed23a749", func := "loop.example/g00392/laws.FnExactCut", spec := "fnExactCut", apart := false, narrowed := true }
def FnExactCutUptoSaid : Prop := fnExactCutUptoRow.holds Try.pinned (OpenSpec.upto fnExactCutSpec)

/-- 'laws.FnExactDiskRead', WHERE WHAT IT READS IS OF BULK AT MOST 1048576: true; the input reads as it did. -/
def fnExactDiskReadUptoRow : OpenClaim := { program := "ytnleeeccpepekaa", sum := "541a54a40cac131b08bd666298cde4979c1d370ddf1a7943f25d3089ed23a749", func := "loop.example/g00392/laws.FnExactDiskRead", spec := "fnExactDiskRead", apart := false, narrowed := true }
def FnExactDiskReadUptoSaid : Prop := fnExactDiskReadUptoRow.holds Try.pinned (OpenSpec.upto fnExactDiskReadSpec)

/-- 'laws.FnExactPageBytes', WHERE WHAT IT READS IS OF BULK AT MOST 1048576: true; the input reads as it did. -/
def fnExactPageBytesUptoRow : OpenClaim := { program := "ytnleeeccpepekaa", sum := "541a54a40cac131b08bd666298cde4979c1d370ddf1a7943f25d3089ed23a749", func := "loop.example/g00392/laws.FnExactPageBytes", spec := "fnExactPageBytes", apart := false, narrowed := true }
def FnExactPageBytesUptoSaid : Prop := fnExactPageBytesUptoRow.holds Try.pinned (OpenSpec.upto fnExactPageBytesSpec)

/-- 'laws.FnExactDiskWrite', WHERE WHAT IT READS IS OF BULK AT MOST 1048576: true; the input reads as it did. -/
def fnExactDiskWriteUptoRow : OpenClaim := { program := "ytnleeeccpepekaa", sum := "541a54a40cac131b08bd666298cde4979c1d370ddf1a7943f25d3089ed23a749", func := "loop.example/g00392/laws.FnExactDiskWrite", spec := "fnExactDiskWrite", apart := false, narrowed := true }
def FnExactDiskWriteUptoSaid : Prop := fnExactDiskWriteUptoRow.holds Try.pinned (OpenSpec.upto fnExactDiskWriteSpec)

/-- 'laws.FnExactDiskMeta', WHERE WHAT IT READS IS OF BULK AT MOST 1048576: true; the input reads as it did. -/
def fnExactDiskMetaUptoRow : OpenClaim := { program := "ytnleeeccpepekaa", sum := "541a54a40cac131b08bd666298cde4979c1d370ddf1a7943f25d3089ed23a749", func := "loop.example/g00392/laws.FnExactDiskMeta", spec := "fnExactDiskMeta", apart := false, narrowed := true }
def FnExactDiskMetaUptoSaid : Prop := fnExactDiskMetaUptoRow.holds Try.pinned (OpenSpec.upto fnExactDiskMetaSpec)

end Rows
end Go.Proofs.Ytnleeeccpepekaa
