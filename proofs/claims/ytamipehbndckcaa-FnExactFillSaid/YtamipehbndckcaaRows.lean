/-
  No cell of these rows narrows 'for every input' (looked for: loops, veiled, ifaces, maps, wideKeys, modest, calm, conditions, laid).
  DERIVED. THE GIVEN ROWS OF THIS SEAT. 12 by the template 'for every input the law returns true; each argument reads behind the call as it read before'; 0 by the template 'total and deterministic' (their statements: YtamipehbndckcaaTotals.lean).
  GIVEN WITH THE SEED: the statements are not yours to turn. If you find one false, say at which input.
  Laid BY PROGRAM, IN A SANDBOX (cutbox-rows.mjs): the forced cells as the released guide's own fill.sh prints them over the translation 854d94eeaa7a4ba3… (all of the seat's roots in one cut). By AI agents, Wed Nov 11 2026. No macro, syntax, notation, axiom, sorry.
-/
import Derived.Test.YtamipehbndckcaaChecked
import GoSem.Claim
import GoSem.ClaimJoined
import GoSem.ClaimMapViews
import Derived.JoinedTies
import Derived.KernelRfl
namespace Go.Proofs.Ytamipehbndckcaa
/- THE CELL 'sum', in the pinned program and in every row, IS THE sha256 OF THE DUMP (.gsa) THAT YtamipehbndckcaaProg.lean LOADS. Nothing in Lean hashes anything: it is a label: what it is worth is what the hold of that sum in a sandbox is worth. -/
noncomputable def Try.pinned : Pinned := { name := "ytamipehbndckcaa", sum := "854d94eeaa7a4ba3ed5b6db18424644634020aa9c342d76cc7d0bc269bb57b14", checked := Try.checked }
namespace Rows
def none {H : Type} : Left H := { results := [], args := [] }

/-- 'laws.FnExactConstants': WHATEVER THE INPUT: true; the input reads as it did. -/
def fnExactConstantsSpec : ChangeSpec := { name := "fnExactConstants", fn := fun _ => fun
  | [] => { results := [.lit (.bool true)], args := [] }
  | _ => none }
def fnExactConstantsRow : OpenClaim := { program := "ytamipehbndckcaa", sum := "854d94eeaa7a4ba3ed5b6db18424644634020aa9c342d76cc7d0bc269bb57b14", func := "loop.example/g00392/laws.FnExactConstants", spec := "fnExactConstants", apart := false }
def FnExactConstantsSaid : Prop := fnExactConstantsRow.holds Try.pinned (OpenSpec.ofChange fnExactConstantsSpec)

/-- ITS FALSE NEIGHBOUR: 'it returns false'. Refute it at one input. -/
def fnExactConstantsWrong : ChangeSpec := { name := "fnExactConstants", fn := fun _ => fun
  | [] => { results := [.lit (.bool false)], args := [] }
  | _ => none }
def FnExactConstantsWrongFalsely : Prop := fnExactConstantsRow.holds Try.pinned (OpenSpec.ofChange fnExactConstantsWrong)

/-- 'laws.FnExactValOk': WHATEVER THE INPUT: true; the input reads as it did. -/
def fnExactValOkSpec : ChangeSpec := { name := "fnExactValOk", fn := fun _ => fun
  | [d] => { results := [.lit (.bool true)], args := [d] }
  | _ => none }
def fnExactValOkRow : OpenClaim := { program := "ytamipehbndckcaa", sum := "854d94eeaa7a4ba3ed5b6db18424644634020aa9c342d76cc7d0bc269bb57b14", func := "loop.example/g00392/laws.FnExactValOk", spec := "fnExactValOk", apart := false }
def FnExactValOkSaid : Prop := fnExactValOkRow.holds Try.pinned (OpenSpec.ofChange fnExactValOkSpec)

/-- ITS FALSE NEIGHBOUR: 'it returns false'. Refute it at one input. -/
def fnExactValOkWrong : ChangeSpec := { name := "fnExactValOk", fn := fun _ => fun
  | [d] => { results := [.lit (.bool false)], args := [d] }
  | _ => none }
def FnExactValOkWrongFalsely : Prop := fnExactValOkRow.holds Try.pinned (OpenSpec.ofChange fnExactValOkWrong)

/-- 'laws.FnExactKeyOk': WHATEVER THE INPUT: true; the input reads as it did. -/
def fnExactKeyOkSpec : ChangeSpec := { name := "fnExactKeyOk", fn := fun _ => fun
  | [d] => { results := [.lit (.bool true)], args := [d] }
  | _ => none }
def fnExactKeyOkRow : OpenClaim := { program := "ytamipehbndckcaa", sum := "854d94eeaa7a4ba3ed5b6db18424644634020aa9c342d76cc7d0bc269bb57b14", func := "loop.example/g00392/laws.FnExactKeyOk", spec := "fnExactKeyOk", apart := false }
def FnExactKeyOkSaid : Prop := fnExactKeyOkRow.holds Try.pinned (OpenSpec.ofChange fnExactKeyOkSpec)

/-- ITS FALSE NEIGHBOUR: 'it returns false'. Refute it at one input. -/
def fnExactKeyOkWrong : ChangeSpec := { name := "fnExactKeyOk", fn := fun _ => fun
  | [d] => { results := [.lit (.bool false)], args := [d] }
  | _ => none }
def FnExactKeyOkWrongFalsely : Prop := fnExactKeyOkRow.holds Try.pinned (OpenSpec.ofChange fnExactKeyOkWrong)

/-- 'laws.FnExactMetaOk': WHATEVER THE INPUT: true; the input reads as it did. -/
def fnExactMetaOkSpec : ChangeSpec := { name := "fnExactMetaOk", fn := fun _ => fun
  | [d] => { results := [.lit (.bool true)], args := [d] }
  | _ => none }
def fnExactMetaOkRow : OpenClaim := { program := "ytamipehbndckcaa", sum := "854d94eeaa7a4ba3ed5b6db18424644634020aa9c342d76cc7d0bc269bb57b14", func := "loop.example/g00392/laws.FnExactMetaOk", spec := "fnExactMetaOk", apart := false }
def FnExactMetaOkSaid : Prop := fnExactMetaOkRow.holds Try.pinned (OpenSpec.ofChange fnExactMetaOkSpec)

/-- ITS FALSE NEIGHBOUR: 'it returns false'. Refute it at one input. -/
def fnExactMetaOkWrong : ChangeSpec := { name := "fnExactMetaOk", fn := fun _ => fun
  | [d] => { results := [.lit (.bool false)], args := [d] }
  | _ => none }
def FnExactMetaOkWrongFalsely : Prop := fnExactMetaOkRow.holds Try.pinned (OpenSpec.ofChange fnExactMetaOkWrong)

/-- 'laws.FnExactNumText': WHATEVER THE INPUT: true; the input reads as it did. -/
def fnExactNumTextSpec : ChangeSpec := { name := "fnExactNumText", fn := fun _ => fun
  | [d] => { results := [.lit (.bool true)], args := [d] }
  | _ => none }
def fnExactNumTextRow : OpenClaim := { program := "ytamipehbndckcaa", sum := "854d94eeaa7a4ba3ed5b6db18424644634020aa9c342d76cc7d0bc269bb57b14", func := "loop.example/g00392/laws.FnExactNumText", spec := "fnExactNumText", recurses := true, apart := false }
def FnExactNumTextSaid : Prop := fnExactNumTextRow.holds Try.pinned (OpenSpec.ofChange fnExactNumTextSpec)

/-- ITS FALSE NEIGHBOUR: 'it returns false'. Refute it at one input. -/
def fnExactNumTextWrong : ChangeSpec := { name := "fnExactNumText", fn := fun _ => fun
  | [d] => { results := [.lit (.bool false)], args := [d] }
  | _ => none }
def FnExactNumTextWrongFalsely : Prop := fnExactNumTextRow.holds Try.pinned (OpenSpec.ofChange fnExactNumTextWrong)

/-- 'laws.FnExactPointOf': WHATEVER THE INPUT: true; the input reads as it did. -/
def fnExactPointOfSpec : ChangeSpec := { name := "fnExactPointOf", fn := fun _ => fun
  | [d] => { results := [.lit (.bool true)], args := [d] }
  | _ => none }
def fnExactPointOfRow : OpenClaim := { program := "ytamipehbndckcaa", sum := "854d94eeaa7a4ba3ed5b6db18424644634020aa9c342d76cc7d0bc269bb57b14", func := "loop.example/g00392/laws.FnExactPointOf", spec := "fnExactPointOf", apart := false }
def FnExactPointOfSaid : Prop := fnExactPointOfRow.holds Try.pinned (OpenSpec.ofChange fnExactPointOfSpec)

/-- ITS FALSE NEIGHBOUR: 'it returns false'. Refute it at one input. -/
def fnExactPointOfWrong : ChangeSpec := { name := "fnExactPointOf", fn := fun _ => fun
  | [d] => { results := [.lit (.bool false)], args := [d] }
  | _ => none }
def FnExactPointOfWrongFalsely : Prop := fnExactPointOfRow.holds Try.pinned (OpenSpec.ofChange fnExactPointOfWrong)

/-- 'laws.FnExactRangeOk': WHATEVER THE INPUT: true; the input reads as it did. -/
def fnExactRangeOkSpec : ChangeSpec := { name := "fnExactRangeOk", fn := fun _ => fun
  | [d] => { results := [.lit (.bool true)], args := [d] }
  | _ => none }
def fnExactRangeOkRow : OpenClaim := { program := "ytamipehbndckcaa", sum := "854d94eeaa7a4ba3ed5b6db18424644634020aa9c342d76cc7d0bc269bb57b14", func := "loop.example/g00392/laws.FnExactRangeOk", spec := "fnExactRangeOk", apart := false }
def FnExactRangeOkSaid : Prop := fnExactRangeOkRow.holds Try.pinned (OpenSpec.ofChange fnExactRangeOkSpec)

/-- ITS FALSE NEIGHBOUR: 'it returns false'. Refute it at one input. -/
def fnExactRangeOkWrong : ChangeSpec := { name := "fnExactRangeOk", fn := fun _ => fun
  | [d] => { results := [.lit (.bool false)], args := [d] }
  | _ => none }
def FnExactRangeOkWrongFalsely : Prop := fnExactRangeOkRow.holds Try.pinned (OpenSpec.ofChange fnExactRangeOkWrong)

/-- 'laws.FnExactRangeIn': WHATEVER THE INPUT: true; the input reads as it did. -/
def fnExactRangeInSpec : ChangeSpec := { name := "fnExactRangeIn", fn := fun _ => fun
  | [d1, d2] => { results := [.lit (.bool true)], args := [d1, d2] }
  | _ => none }
def fnExactRangeInRow : OpenClaim := { program := "ytamipehbndckcaa", sum := "854d94eeaa7a4ba3ed5b6db18424644634020aa9c342d76cc7d0bc269bb57b14", func := "loop.example/g00392/laws.FnExactRangeIn", spec := "fnExactRangeIn", apart := false }
def FnExactRangeInSaid : Prop := fnExactRangeInRow.holds Try.pinned (OpenSpec.ofChange fnExactRangeInSpec)

/-- ITS FALSE NEIGHBOUR: 'it returns false'. Refute it at one input. -/
def fnExactRangeInWrong : ChangeSpec := { name := "fnExactRangeIn", fn := fun _ => fun
  | [d1, d2] => { results := [.lit (.bool false)], args := [d1, d2] }
  | _ => none }
def FnExactRangeInWrongFalsely : Prop := fnExactRangeInRow.holds Try.pinned (OpenSpec.ofChange fnExactRangeInWrong)

/-- 'laws.FnExactQuote': WHATEVER THE INPUT: true; the input reads as it did. -/
def fnExactQuoteSpec : ChangeSpec := { name := "fnExactQuote", fn := fun _ => fun
  | [d] => { results := [.lit (.bool true)], args := [d] }
  | _ => none }
def fnExactQuoteRow : OpenClaim := { program := "ytamipehbndckcaa", sum := "854d94eeaa7a4ba3ed5b6db18424644634020aa9c342d76cc7d0bc269bb57b14", func := "loop.example/g00392/laws.FnExactQuote", spec := "fnExactQuote", apart := false }
def FnExactQuoteSaid : Prop := fnExactQuoteRow.holds Try.pinned (OpenSpec.ofChange fnExactQuoteSpec)

/-- ITS FALSE NEIGHBOUR: 'it returns false'. Refute it at one input. -/
def fnExactQuoteWrong : ChangeSpec := { name := "fnExactQuote", fn := fun _ => fun
  | [d] => { results := [.lit (.bool false)], args := [d] }
  | _ => none }
def FnExactQuoteWrongFalsely : Prop := fnExactQuoteRow.holds Try.pinned (OpenSpec.ofChange fnExactQuoteWrong)

/-- 'laws.FnExactFill': WHATEVER THE INPUT: true; the input reads as it did. -/
def fnExactFillSpec : ChangeSpec := { name := "fnExactFill", fn := fun _ => fun
  | [d1, d2] => { results := [.lit (.bool true)], args := [d1, d2] }
  | _ => none }
def fnExactFillRow : OpenClaim := { program := "ytamipehbndckcaa", sum := "854d94eeaa7a4ba3ed5b6db18424644634020aa9c342d76cc7d0bc269bb57b14", func := "loop.example/g00392/laws.FnExactFill", spec := "fnExactFill", apart := false }
def FnExactFillSaid : Prop := fnExactFillRow.holds Try.pinned (OpenSpec.ofChange fnExactFillSpec)

/-- ITS FALSE NEIGHBOUR: 'it returns false'. Refute it at one input. -/
def fnExactFillWrong : ChangeSpec := { name := "fnExactFill", fn := fun _ => fun
  | [d1, d2] => { results := [.lit (.bool false)], args := [d1, d2] }
  | _ => none }
def FnExactFillWrongFalsely : Prop := fnExactFillRow.holds Try.pinned (OpenSpec.ofChange fnExactFillWrong)

/-- 'laws.FnExactSplitsOk': WHATEVER THE INPUT: true; the input reads as it did. -/
def fnExactSplitsOkSpec : ChangeSpec := { name := "fnExactSplitsOk", fn := fun _ => fun
  | [d] => { results := [.lit (.bool true)], args := [d] }
  | _ => none }
def fnExactSplitsOkRow : OpenClaim := { program := "ytamipehbndckcaa", sum := "854d94eeaa7a4ba3ed5b6db18424644634020aa9c342d76cc7d0bc269bb57b14", func := "loop.example/g00392/laws.FnExactSplitsOk", spec := "fnExactSplitsOk", apart := false }
def FnExactSplitsOkSaid : Prop := fnExactSplitsOkRow.holds Try.pinned (OpenSpec.ofChange fnExactSplitsOkSpec)

/-- ITS FALSE NEIGHBOUR: 'it returns false'. Refute it at one input. -/
def fnExactSplitsOkWrong : ChangeSpec := { name := "fnExactSplitsOk", fn := fun _ => fun
  | [d] => { results := [.lit (.bool false)], args := [d] }
  | _ => none }
def FnExactSplitsOkWrongFalsely : Prop := fnExactSplitsOkRow.holds Try.pinned (OpenSpec.ofChange fnExactSplitsOkWrong)

/-- 'laws.FnExactTextNum': WHATEVER THE INPUT: true; the input reads as it did. -/
def fnExactTextNumSpec : ChangeSpec := { name := "fnExactTextNum", fn := fun _ => fun
  | [d] => { results := [.lit (.bool true)], args := [d] }
  | _ => none }
def fnExactTextNumRow : OpenClaim := { program := "ytamipehbndckcaa", sum := "854d94eeaa7a4ba3ed5b6db18424644634020aa9c342d76cc7d0bc269bb57b14", func := "loop.example/g00392/laws.FnExactTextNum", spec := "fnExactTextNum", recurses := true, apart := false }
def FnExactTextNumSaid : Prop := fnExactTextNumRow.holds Try.pinned (OpenSpec.ofChange fnExactTextNumSpec)

/-- ITS FALSE NEIGHBOUR: 'it returns false'. Refute it at one input. -/
def fnExactTextNumWrong : ChangeSpec := { name := "fnExactTextNum", fn := fun _ => fun
  | [d] => { results := [.lit (.bool false)], args := [d] }
  | _ => none }
def FnExactTextNumWrongFalsely : Prop := fnExactTextNumRow.holds Try.pinned (OpenSpec.ofChange fnExactTextNumWrong)

/- THE SECOND FORM. 'bulk': how many values and letters a reading holds, each counted each time it is reached (what is shared counts as often as it is met; a slice's spare places count too). A statement '..UptoSaid' is the law's where the arguments, and the package variables that the reading takes, are together of bulk at most 1048576: NARROWER than '..Said'. Prove '..Said' where nothing that the law and all that it calls make is longer than what came in: it says more and counts as full. Else prove '..UptoSaid'. A law counts once. -/
mutual
def uptoBulk {H : Type} : DataW H → Nat
  | .lit (.string bytes) => bytes.length + 1
  | .lit _ => 1
  | .nil => 1
  | .ptr d => uptoBulk d + 1
  | .slice elems spare => uptoBulkAll elems + uptoBulkAll spare + 1
  | .agg parts => uptoBulkAll parts + 1
  | .iface _ d => uptoBulk d + 1
  | .map entries => uptoBulkEntries entries + 1
  | .held _ => 1
def uptoBulkAll {H : Type} : List (DataW H) → Nat
  | [] => 0
  | d :: r => uptoBulk d + uptoBulkAll r
def uptoBulkEntries {H : Type} : List (Lit × DataW H) → Nat
  | [] => 0
  | x :: r => uptoBulkEntry x + uptoBulkEntries r
def uptoBulkEntry {H : Type} : Lit × DataW H → Nat
  | (.string bytes, d) => bytes.length + uptoBulk d + 1
  | (_, d) => uptoBulk d + 1
 end
def uptoSmall : (H : Type) → List (DataW H) → Bool := fun _ ds => decide (uptoBulkAll ds ≤ 1048576)
def OpenSpec.upto (s : _root_.Go.ChangeSpec) : _root_.Go.OpenSpec := { _root_.Go.OpenSpec.ofChange s with cond := some uptoSmall }

/-- 'laws.FnExactConstants', WHERE WHAT IT READS IS OF BULK AT MOST 1048576: true; the input reads as it did. -/
def fnExactConstantsUptoRow : OpenClaim := { program := "ytamipehbndckcaa", sum := "854d94eeaa7a4ba3ed5b6db18424644634020aa9c342d76cc7d0bc269bb57b14", func := "loop.example/g00392/laws.FnExactConstants", spec := "fnExactConstants", apart := false, narrowed := true }
def FnExactConstantsUptoSaid : Prop := fnExactConstantsUptoRow.holds Try.pinned (OpenSpec.upto fnExactConstantsSpec)

/-- 'laws.FnExactValOk', WHERE WHAT IT READS IS OF BULK AT MOST 1048576: true; the input reads as it did. -/
def fnExactValOkUptoRow : OpenClaim := { program := "ytamipehbndckcaa", sum := "854d94eeaa7a4ba3ed5b6db18424644634020aa9c342d76cc7d0bc269bb57b14", func := "loop.example/g00392/laws.FnExactValOk", spec := "fnExactValOk", apart := false, narrowed := true }
def FnExactValOkUptoSaid : Prop := fnExactValOkUptoRow.holds Try.pinned (OpenSpec.upto fnExactValOkSpec)

/-- 'laws.FnExactKeyOk', WHERE WHAT IT READS IS OF BULK AT MOST 1048576: true; the input reads as it did. -/
def fnExactKeyOkUptoRow : OpenClaim := { program := "ytamipehbndckcaa", sum := "854d94eeaa7a4ba3ed5b6db18424644634020aa9c342d76cc7d0bc269bb57b14", func := "loop.example/g00392/laws.FnExactKeyOk", spec := "fnExactKeyOk", apart := false, narrowed := true }
def FnExactKeyOkUptoSaid : Prop := fnExactKeyOkUptoRow.holds Try.pinned (OpenSpec.upto fnExactKeyOkSpec)

/-- 'laws.FnExactMetaOk', WHERE WHAT IT READS IS OF BULK AT MOST 1048576: true; the input reads as it did. -/
def fnExactMetaOkUptoRow : OpenClaim := { program := "ytamipehbndckcaa", sum := "854d94eeaa7a4ba3ed5b6db18424644634020aa9c342d76cc7d0bc269bb57b14", func := "loop.example/g00392/laws.FnExactMetaOk", spec := "fnExactMetaOk", apart := false, narrowed := true }
def FnExactMetaOkUptoSaid : Prop := fnExactMetaOkUptoRow.holds Try.pinned (OpenSpec.upto fnExactMetaOkSpec)

/-- 'laws.FnExactNumText', WHERE WHAT IT READS IS OF BULK AT MOST 1048576: true; the input reads as it did. -/
def fnExactNumTextUptoRow : OpenClaim := { program := "ytamipehbndckcaa", sum := "854d94eeaa7a4ba3ed5b6db18424644634020aa9c342d76cc7d0bc269bb57b14", func := "loop.example/g00392/laws.FnExactNumText", spec := "fnExactNumText", recurses := true, apart := false, narrowed := true }
def FnExactNumTextUptoSaid : Prop := fnExactNumTextUptoRow.holds Try.pinned (OpenSpec.upto fnExactNumTextSpec)

/-- 'laws.FnExactPointOf', WHERE WHAT IT READS IS OF BULK AT MOST 1048576: true; the input reads as it did. -/
def fnExactPointOfUptoRow : OpenClaim := { program := "ytamipehbndckcaa", sum := "854d94eeaa7a4ba3ed5b6db18424644634020aa9c342d76cc7d0bc269bb57b14", func := "loop.example/g00392/laws.FnExactPointOf", spec := "fnExactPointOf", apart := false, narrowed := true }
def FnExactPointOfUptoSaid : Prop := fnExactPointOfUptoRow.holds Try.pinned (OpenSpec.upto fnExactPointOfSpec)

/-- 'laws.FnExactRangeOk', WHERE WHAT IT READS IS OF BULK AT MOST 1048576: true; the input reads as it did. -/
def fnExactRangeOkUptoRow : OpenClaim := { program := "ytamipehbndckcaa", sum := "854d94eeaa7a4ba3ed5b6db18424644634020aa9c342d76cc7d0bc269bb57b14", func := "loop.example/g00392/laws.FnExactRangeOk", spec := "fnExactRangeOk", apart := false, narrowed := true }
def FnExactRangeOkUptoSaid : Prop := fnExactRangeOkUptoRow.holds Try.pinned (OpenSpec.upto fnExactRangeOkSpec)

/-- 'laws.FnExactRangeIn', WHERE WHAT IT READS IS OF BULK AT MOST 1048576: true; the input reads as it did. -/
def fnExactRangeInUptoRow : OpenClaim := { program := "ytamipehbndckcaa", sum := "854d94eeaa7a4ba3ed5b6db18424644634020aa9c342d76cc7d0bc269bb57b14", func := "loop.example/g00392/laws.FnExactRangeIn", spec := "fnExactRangeIn", apart := false, narrowed := true }
def FnExactRangeInUptoSaid : Prop := fnExactRangeInUptoRow.holds Try.pinned (OpenSpec.upto fnExactRangeInSpec)

/-- 'laws.FnExactQuote', WHERE WHAT IT READS IS OF BULK AT MOST 1048576: true; the input reads as it did. -/
def fnExactQuoteUptoRow : OpenClaim := { program := "ytamipehbndckcaa", sum := "854d94eeaa7a4ba3ed5b6db18424644634020aa9c342d76cc7d0bc269bb57b14", func := "loop.example/g00392/laws.FnExactQuote", spec := "fnExactQuote", apart := false, narrowed := true }
def FnExactQuoteUptoSaid : Prop := fnExactQuoteUptoRow.holds Try.pinned (OpenSpec.upto fnExactQuoteSpec)

/-- 'laws.FnExactFill', WHERE WHAT IT READS IS OF BULK AT MOST 1048576: true; the input reads as it did. -/
def fnExactFillUptoRow : OpenClaim := { program := "ytamipehbndckcaa", sum := "854d94eeaa7a4ba3ed5b6db18424644634020aa9c342d76cc7d0bc269bb57b14", func := "loop.example/g00392/laws.FnExactFill", spec := "fnExactFill", apart := false, narrowed := true }
def FnExactFillUptoSaid : Prop := fnExactFillUptoRow.holds Try.pinned (OpenSpec.upto fnExactFillSpec)

/-- 'laws.FnExactSplitsOk', WHERE WHAT IT READS IS OF BULK AT MOST 1048576: true; the input reads as it did. -/
def fnExactSplitsOkUptoRow : OpenClaim := { program := "ytamipehbndckcaa", sum := "854d94eeaa7a4ba3ed5b6db18424644634020aa9c342d76cc7d0bc269bb57b14", func := "loop.example/g00392/laws.FnExactSplitsOk", spec := "fnExactSplitsOk", apart := false, narrowed := true }
def FnExactSplitsOkUptoSaid : Prop := fnExactSplitsOkUptoRow.holds Try.pinned (OpenSpec.upto fnExactSplitsOkSpec)

/-- 'laws.FnExactTextNum', WHERE WHAT IT READS IS OF BULK AT MOST 1048576: true; the input reads as it did. -/
def fnExactTextNumUptoRow : OpenClaim := { program := "ytamipehbndckcaa", sum := "854d94eeaa7a4ba3ed5b6db18424644634020aa9c342d76cc7d0bc269bb57b14", func := "loop.example/g00392/laws.FnExactTextNum", spec := "fnExactTextNum", recurses := true, apart := false, narrowed := true }
def FnExactTextNumUptoSaid : Prop := fnExactTextNumUptoRow.holds Try.pinned (OpenSpec.upto fnExactTextNumSpec)

end Rows
end Go.Proofs.Ytamipehbndckcaa
