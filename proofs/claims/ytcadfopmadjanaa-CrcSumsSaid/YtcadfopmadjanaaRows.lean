/-
  No cell of these rows narrows 'for every input' (looked for: loops, veiled, ifaces, maps, wideKeys, modest, calm, conditions, laid).
  DERIVED. THE GIVEN ROWS OF THIS SEAT. 11 by the template 'for every input the law returns true; each argument reads behind the call as it read before'; 0 by the template 'total and deterministic' (their statements: YtcadfopmadjanaaTotals.lean).
  GIVEN WITH THE SEED: the statements are not yours to turn. If you find one false, say at which input.
  Laid BY PROGRAM, IN A SANDBOX (cutbox-rows.mjs): the forced cells as the released guide's own fill.sh prints them over the translation 2776d55a999be0a4… (all of the seat's roots in one cut). By AI agents, Wed Nov 11 2026. No macro, syntax, notation, axiom, sorry.
-/
import Derived.Test.YtcadfopmadjanaaChecked
import GoSem.Claim
import GoSem.ClaimJoined
import GoSem.ClaimMapViews
import Derived.JoinedTies
import Derived.KernelRfl
namespace Go.Proofs.Ytcadfopmadjanaa
/- THE CELL 'sum', in the pinned program and in every row, IS THE sha256 OF THE DUMP (.gsa) THAT YtcadfopmadjanaaProg.lean LOADS. Nothing in Lean hashes anything: it is a label: what it is worth is what the hold of that sum in a sandbox is worth. -/
noncomputable def Try.pinned : Pinned := { name := "ytcadfopmadjanaa", sum := "2776d55a999be0a4ab117a895435ac15e667f97a7d13cc402f6878e6216ae068", checked := Try.checked }
namespace Rows
def none {H : Type} : Left H := { results := [], args := [] }

/-- 'spinetlaw36.CrcSums': WHATEVER THE INPUT: true; the input reads as it did. -/
def crcSumsSpec : ChangeSpec := { name := "crcSums", fn := fun _ => fun
  | [d1, d2] => { results := [.lit (.bool true)], args := [d1, d2] }
  | _ => none }
def crcSumsRow : OpenClaim := { program := "ytcadfopmadjanaa", sum := "2776d55a999be0a4ab117a895435ac15e667f97a7d13cc402f6878e6216ae068", func := "spinet/spinetlaw36.CrcSums", spec := "crcSums", apart := false }
def CrcSumsSaid : Prop := crcSumsRow.holds Try.pinned (OpenSpec.ofChange crcSumsSpec)

/-- ITS FALSE NEIGHBOUR: 'it returns false'. Refute it at one input. -/
def crcSumsWrong : ChangeSpec := { name := "crcSums", fn := fun _ => fun
  | [d1, d2] => { results := [.lit (.bool false)], args := [d1, d2] }
  | _ => none }
def CrcSumsWrongFalsely : Prop := crcSumsRow.holds Try.pinned (OpenSpec.ofChange crcSumsWrong)

/-- 'spinetlaw10.TimesWords': WHATEVER THE INPUT: true; the input reads as it did. -/
def timesWordsSpec : ChangeSpec := { name := "timesWords", fn := fun _ => fun
  | [d1, d2] => { results := [.lit (.bool true)], args := [d1, d2] }
  | _ => none }
def timesWordsRow : OpenClaim := { program := "ytcadfopmadjanaa", sum := "2776d55a999be0a4ab117a895435ac15e667f97a7d13cc402f6878e6216ae068", func := "spinet/spinetlaw10.TimesWords", spec := "timesWords", apart := false }
def TimesWordsSaid : Prop := timesWordsRow.holds Try.pinned (OpenSpec.ofChange timesWordsSpec)

/-- ITS FALSE NEIGHBOUR: 'it returns false'. Refute it at one input. -/
def timesWordsWrong : ChangeSpec := { name := "timesWords", fn := fun _ => fun
  | [d1, d2] => { results := [.lit (.bool false)], args := [d1, d2] }
  | _ => none }
def TimesWordsWrongFalsely : Prop := timesWordsRow.holds Try.pinned (OpenSpec.ofChange timesWordsWrong)

/-- 'spinetlaw36.CrcSeals': WHATEVER THE INPUT: true; the input reads as it did. -/
def crcSealsSpec : ChangeSpec := { name := "crcSeals", fn := fun _ => fun
  | [d1, d2] => { results := [.lit (.bool true)], args := [d1, d2] }
  | _ => none }
def crcSealsRow : OpenClaim := { program := "ytcadfopmadjanaa", sum := "2776d55a999be0a4ab117a895435ac15e667f97a7d13cc402f6878e6216ae068", func := "spinet/spinetlaw36.CrcSeals", spec := "crcSeals", apart := false }
def CrcSealsSaid : Prop := crcSealsRow.holds Try.pinned (OpenSpec.ofChange crcSealsSpec)

/-- ITS FALSE NEIGHBOUR: 'it returns false'. Refute it at one input. -/
def crcSealsWrong : ChangeSpec := { name := "crcSeals", fn := fun _ => fun
  | [d1, d2] => { results := [.lit (.bool false)], args := [d1, d2] }
  | _ => none }
def CrcSealsWrongFalsely : Prop := crcSealsRow.holds Try.pinned (OpenSpec.ofChange crcSealsWrong)

/-- 'spinetlaw05.TakerBack': WHATEVER THE INPUT: true; the input reads as it did. -/
def takerBackSpec : ChangeSpec := { name := "takerBack", fn := fun _ => fun
  | [d1, d2, d3] => { results := [.lit (.bool true)], args := [d1, d2, d3] }
  | _ => none }
def takerBackRow : OpenClaim := { program := "ytcadfopmadjanaa", sum := "2776d55a999be0a4ab117a895435ac15e667f97a7d13cc402f6878e6216ae068", func := "spinet/spinetlaw05.TakerBack", spec := "takerBack", unfollowed := true, recurses := true, apart := false }
def TakerBackSaid : Prop := takerBackRow.holds Try.pinned (OpenSpec.ofChange takerBackSpec)

/-- ITS FALSE NEIGHBOUR: 'it returns false'. Refute it at one input. -/
def takerBackWrong : ChangeSpec := { name := "takerBack", fn := fun _ => fun
  | [d1, d2, d3] => { results := [.lit (.bool false)], args := [d1, d2, d3] }
  | _ => none }
def TakerBackWrongFalsely : Prop := takerBackRow.holds Try.pinned (OpenSpec.ofChange takerBackWrong)

/-- 'spinetlaw16.FileTwice': WHATEVER THE INPUT: true; the input reads as it did. -/
def fileTwiceSpec : ChangeSpec := { name := "fileTwice", fn := fun _ => fun
  | [d1, d2, d3] => { results := [.lit (.bool true)], args := [d1, d2, d3] }
  | _ => none }
def fileTwiceRow : OpenClaim := { program := "ytcadfopmadjanaa", sum := "2776d55a999be0a4ab117a895435ac15e667f97a7d13cc402f6878e6216ae068", func := "spinet/spinetlaw16.FileTwice", spec := "fileTwice", apart := false }
def FileTwiceSaid : Prop := fileTwiceRow.holds Try.pinned (OpenSpec.ofChange fileTwiceSpec)

/-- ITS FALSE NEIGHBOUR: 'it returns false'. Refute it at one input. -/
def fileTwiceWrong : ChangeSpec := { name := "fileTwice", fn := fun _ => fun
  | [d1, d2, d3] => { results := [.lit (.bool false)], args := [d1, d2, d3] }
  | _ => none }
def FileTwiceWrongFalsely : Prop := fileTwiceRow.holds Try.pinned (OpenSpec.ofChange fileTwiceWrong)

/-- 'spinetlaw38.PackPacks': WHATEVER THE INPUT: true; the input reads as it did. -/
def packPacksSpec : ChangeSpec := { name := "packPacks", fn := fun _ => fun
  | [d] => { results := [.lit (.bool true)], args := [d] }
  | _ => none }
def packPacksRow : OpenClaim := { program := "ytcadfopmadjanaa", sum := "2776d55a999be0a4ab117a895435ac15e667f97a7d13cc402f6878e6216ae068", func := "spinet/spinetlaw38.PackPacks", spec := "packPacks", apart := false }
def PackPacksSaid : Prop := packPacksRow.holds Try.pinned (OpenSpec.ofChange packPacksSpec)

/-- ITS FALSE NEIGHBOUR: 'it returns false'. Refute it at one input. -/
def packPacksWrong : ChangeSpec := { name := "packPacks", fn := fun _ => fun
  | [d] => { results := [.lit (.bool false)], args := [d] }
  | _ => none }
def PackPacksWrongFalsely : Prop := packPacksRow.holds Try.pinned (OpenSpec.ofChange packPacksWrong)

/-- 'spinetlaw38.PackReads': WHATEVER THE INPUT: true; the input reads as it did. -/
def packReadsSpec : ChangeSpec := { name := "packReads", fn := fun _ => fun
  | [d1, d2] => { results := [.lit (.bool true)], args := [d1, d2] }
  | _ => none }
def packReadsRow : OpenClaim := { program := "ytcadfopmadjanaa", sum := "2776d55a999be0a4ab117a895435ac15e667f97a7d13cc402f6878e6216ae068", func := "spinet/spinetlaw38.PackReads", spec := "packReads", apart := false }
def PackReadsSaid : Prop := packReadsRow.holds Try.pinned (OpenSpec.ofChange packReadsSpec)

/-- ITS FALSE NEIGHBOUR: 'it returns false'. Refute it at one input. -/
def packReadsWrong : ChangeSpec := { name := "packReads", fn := fun _ => fun
  | [d1, d2] => { results := [.lit (.bool false)], args := [d1, d2] }
  | _ => none }
def PackReadsWrongFalsely : Prop := packReadsRow.holds Try.pinned (OpenSpec.ofChange packReadsWrong)

/-- 'spinetlaw09.DecimalRows': WHATEVER THE INPUT: true; the input reads as it did. -/
def decimalRowsSpec : ChangeSpec := { name := "decimalRows", fn := fun _ => fun
  | [d1, d2] => { results := [.lit (.bool true)], args := [d1, d2] }
  | _ => none }
def decimalRowsRow : OpenClaim := { program := "ytcadfopmadjanaa", sum := "2776d55a999be0a4ab117a895435ac15e667f97a7d13cc402f6878e6216ae068", func := "spinet/spinetlaw09.DecimalRows", spec := "decimalRows", apart := false }
def DecimalRowsSaid : Prop := decimalRowsRow.holds Try.pinned (OpenSpec.ofChange decimalRowsSpec)

/-- ITS FALSE NEIGHBOUR: 'it returns false'. Refute it at one input. -/
def decimalRowsWrong : ChangeSpec := { name := "decimalRows", fn := fun _ => fun
  | [d1, d2] => { results := [.lit (.bool false)], args := [d1, d2] }
  | _ => none }
def DecimalRowsWrongFalsely : Prop := decimalRowsRow.holds Try.pinned (OpenSpec.ofChange decimalRowsWrong)

/-- 'spinetlaw15.PostBytes': WHATEVER THE INPUT: true; the input reads as it did. -/
def postBytesSpec : ChangeSpec := { name := "postBytes", fn := fun _ => fun
  | [d] => { results := [.lit (.bool true)], args := [d] }
  | _ => none }
def postBytesRow : OpenClaim := { program := "ytcadfopmadjanaa", sum := "2776d55a999be0a4ab117a895435ac15e667f97a7d13cc402f6878e6216ae068", func := "spinet/spinetlaw15.PostBytes", spec := "postBytes", apart := false }
def PostBytesSaid : Prop := postBytesRow.holds Try.pinned (OpenSpec.ofChange postBytesSpec)

/-- ITS FALSE NEIGHBOUR: 'it returns false'. Refute it at one input. -/
def postBytesWrong : ChangeSpec := { name := "postBytes", fn := fun _ => fun
  | [d] => { results := [.lit (.bool false)], args := [d] }
  | _ => none }
def PostBytesWrongFalsely : Prop := postBytesRow.holds Try.pinned (OpenSpec.ofChange postBytesWrong)

/-- 'spinetlaw30.ArbiterShares': WHATEVER THE INPUT: true; the input reads as it did. -/
def arbiterSharesSpec : ChangeSpec := { name := "arbiterShares", fn := fun _ => fun
  | [d1, d2] => { results := [.lit (.bool true)], args := [d1, d2] }
  | _ => none }
def arbiterSharesRow : OpenClaim := { program := "ytcadfopmadjanaa", sum := "2776d55a999be0a4ab117a895435ac15e667f97a7d13cc402f6878e6216ae068", func := "spinet/spinetlaw30.ArbiterShares", spec := "arbiterShares", apart := false }
def ArbiterSharesSaid : Prop := arbiterSharesRow.holds Try.pinned (OpenSpec.ofChange arbiterSharesSpec)

/-- ITS FALSE NEIGHBOUR: 'it returns false'. Refute it at one input. -/
def arbiterSharesWrong : ChangeSpec := { name := "arbiterShares", fn := fun _ => fun
  | [d1, d2] => { results := [.lit (.bool false)], args := [d1, d2] }
  | _ => none }
def ArbiterSharesWrongFalsely : Prop := arbiterSharesRow.holds Try.pinned (OpenSpec.ofChange arbiterSharesWrong)

/-- 'spinetlaw22.PhaseRows': WHATEVER THE INPUT: true; the input reads as it did. -/
def phaseRowsSpec : ChangeSpec := { name := "phaseRows", fn := fun _ => fun
  | [d1, d2, d3] => { results := [.lit (.bool true)], args := [d1, d2, d3] }
  | _ => none }
def phaseRowsRow : OpenClaim := { program := "ytcadfopmadjanaa", sum := "2776d55a999be0a4ab117a895435ac15e667f97a7d13cc402f6878e6216ae068", func := "spinet/spinetlaw22.PhaseRows", spec := "phaseRows", apart := false }
def PhaseRowsSaid : Prop := phaseRowsRow.holds Try.pinned (OpenSpec.ofChange phaseRowsSpec)

/-- ITS FALSE NEIGHBOUR: 'it returns false'. Refute it at one input. -/
def phaseRowsWrong : ChangeSpec := { name := "phaseRows", fn := fun _ => fun
  | [d1, d2, d3] => { results := [.lit (.bool false)], args := [d1, d2, d3] }
  | _ => none }
def PhaseRowsWrongFalsely : Prop := phaseRowsRow.holds Try.pinned (OpenSpec.ofChange phaseRowsWrong)

/- THE SECOND FORM. 'bulk': how many values and letters a reading holds, each counted each time it is reached (what is shared counts as often as it is met; a slice's spare places count too). A statement '..UptoSaid' is the law's where the arguments, and the package variables that the reading takes, are together of bulk at most 1048576: NARROWER than '..Said'. Prove '..Said' where nothing that the law and all that it calls make is longer than what came in: it says more and counts as full. Else prove '..UptoSaid'. A law counts once. -/
mutual
def uptoBulk {H : Type} : DataW H → Nat
  | .lit (.string bytes) => bytes.length + 1
  | .lit _ => 1
  | .nil => 1
  | .ptr d => uptoBulk d + 1
  | .slice elems spare => uptoBulkAll elems + uptoBulkAll spare + 1
  | .agg parts => uptoBulkAll parts + 1
  | .iface _ d => uptoBulk d + 1
  | .map entries => uptoBulkEntries entries + 1
  | .held _ => 1
def uptoBulkAll {H : Type} : List (DataW H) → Nat
  | [] => 0
  | d :: r => uptoBulk d + uptoBulkAll r
def uptoBulkEntries {H : Type} : List (Lit × DataW H) → Nat
  | [] => 0
  | x :: r => uptoBulkEntry x + uptoBulkEntries r
def uptoBulkEntry {H : Type} : Lit × DataW H → Nat
  | (.string bytes, d) => bytes.length + uptoBulk d + 1
  | (_, d) => uptoBulk d + 1
 end
def uptoSmall : (H : Type) → List (DataW H) → Bool := fun _ ds => decide (uptoBulkAll ds ≤ 1048576)
def OpenSpec.upto (s : _root_.Go.ChangeSpec) : _root_.Go.OpenSpec := { _root_.Go.OpenSpec.ofChange s with cond := some uptoSmall }

/-- 'spinetlaw36.CrcSums', WHERE WHAT IT READS IS OF BULK AT MOST 1048576: true; the input reads as it did. -/
def crcSumsUptoRow : OpenClaim := { program := "ytcadfopmadjanaa", sum := "2776d55a999be0a4ab117a895435ac15e667f97a7d13cc402f6878e6216ae068", func := "spinet/spinetlaw36.CrcSums", spec := "crcSums", apart := false, narrowed := true }
def CrcSumsUptoSaid : Prop := crcSumsUptoRow.holds Try.pinned (OpenSpec.upto crcSumsSpec)

/-- 'spinetlaw10.TimesWords', WHERE WHAT IT READS IS OF BULK AT MOST 1048576: true; the input reads as it did. -/
def timesWordsUptoRow : OpenClaim := { program := "ytcadfopmadjanaa", sum := "2776d55a999be0a4ab117a895435ac15e667f97a7d13cc402f6878e6216ae068", func := "spinet/spinetlaw10.TimesWords", spec := "timesWords", apart := false, narrowed := true }
def TimesWordsUptoSaid : Prop := timesWordsUptoRow.holds Try.pinned (OpenSpec.upto timesWordsSpec)

/-- 'spinetlaw36.CrcSeals', WHERE WHAT IT READS IS OF BULK AT MOST 1048576: true; the input reads as it did. -/
def crcSealsUptoRow : OpenClaim := { program := "ytcadfopmadjanaa", sum := "2776d55a999be0a4ab117a895435ac15e667f97a7d13cc402f6878e6216ae068", func := "spinet/spinetlaw36.CrcSeals", spec := "crcSeals", apart := false, narrowed := true }
def CrcSealsUptoSaid : Prop := crcSealsUptoRow.holds Try.pinned (OpenSpec.upto crcSealsSpec)

/-- 'spinetlaw05.TakerBack', WHERE WHAT IT READS IS OF BULK AT MOST 1048576: true; the input reads as it did. -/
def takerBackUptoRow : OpenClaim := { program := "ytcadfopmadjanaa", sum := "2776d55a999be0a4ab117a895435ac15e667f97a7d13cc402f6878e6216ae068", func := "spinet/spinetlaw05.TakerBack", spec := "takerBack", unfollowed := true, recurses := true, apart := false, narrowed := true }
def TakerBackUptoSaid : Prop := takerBackUptoRow.holds Try.pinned (OpenSpec.upto takerBackSpec)

/-- 'spinetlaw16.FileTwice', WHERE WHAT IT READS IS OF BULK AT MOST 1048576: true; the input reads as it did. -/
def fileTwiceUptoRow : OpenClaim := { program := "ytcadfopmadjanaa", sum := "2776d55a999be0a4ab117a895435ac15e667f97a7d13cc402f6878e6216ae068", func := "spinet/spinetlaw16.FileTwice", spec := "fileTwice", apart := false, narrowed := true }
def FileTwiceUptoSaid : Prop := fileTwiceUptoRow.holds Try.pinned (OpenSpec.upto fileTwiceSpec)

/-- 'spinetlaw38.PackPacks', WHERE WHAT IT READS IS OF BULK AT MOST 1048576: true; the input reads as it did. -/
def packPacksUptoRow : OpenClaim := { program := "ytcadfopmadjanaa", sum := "2776d55a999be0a4ab117a895435ac15e667f97a7d13cc402f6878e6216ae068", func := "spinet/spinetlaw38.PackPacks", spec := "packPacks", apart := false, narrowed := true }
def PackPacksUptoSaid : Prop := packPacksUptoRow.holds Try.pinned (OpenSpec.upto packPacksSpec)

/-- 'spinetlaw38.PackReads', WHERE WHAT IT READS IS OF BULK AT MOST 1048576: true; the input reads as it did. -/
def packReadsUptoRow : OpenClaim := { program := "ytcadfopmadjanaa", sum := "2776d55a999be0a4ab117a895435ac15e667f97a7d13cc402f6878e6216ae068", func := "spinet/spinetlaw38.PackReads", spec := "packReads", apart := false, narrowed := true }
def PackReadsUptoSaid : Prop := packReadsUptoRow.holds Try.pinned (OpenSpec.upto packReadsSpec)

/-- 'spinetlaw09.DecimalRows', WHERE WHAT IT READS IS OF BULK AT MOST 1048576: true; the input reads as it did. -/
def decimalRowsUptoRow : OpenClaim := { program := "ytcadfopmadjanaa", sum := "2776d55a999be0a4ab117a895435ac15e667f97a7d13cc402f6878e6216ae068", func := "spinet/spinetlaw09.DecimalRows", spec := "decimalRows", apart := false, narrowed := true }
def DecimalRowsUptoSaid : Prop := decimalRowsUptoRow.holds Try.pinned (OpenSpec.upto decimalRowsSpec)

/-- 'spinetlaw15.PostBytes', WHERE WHAT IT READS IS OF BULK AT MOST 1048576: true; the input reads as it did. -/
def postBytesUptoRow : OpenClaim := { program := "ytcadfopmadjanaa", sum := "2776d55a999be0a4ab117a895435ac15e667f97a7d13cc402f6878e6216ae068", func := "spinet/spinetlaw15.PostBytes", spec := "postBytes", apart := false, narrowed := true }
def PostBytesUptoSaid : Prop := postBytesUptoRow.holds Try.pinned (OpenSpec.upto postBytesSpec)

/-- 'spinetlaw30.ArbiterShares', WHERE WHAT IT READS IS OF BULK AT MOST 1048576: true; the input reads as it did. -/
def arbiterSharesUptoRow : OpenClaim := { program := "ytcadfopmadjanaa", sum := "2776d55a999be0a4ab117a895435ac15e667f97a7d13cc402f6878e6216ae068", func := "spinet/spinetlaw30.ArbiterShares", spec := "arbiterShares", apart := false, narrowed := true }
def ArbiterSharesUptoSaid : Prop := arbiterSharesUptoRow.holds Try.pinned (OpenSpec.upto arbiterSharesSpec)

/-- 'spinetlaw22.PhaseRows', WHERE WHAT IT READS IS OF BULK AT MOST 1048576: true; the input reads as it did. -/
def phaseRowsUptoRow : OpenClaim := { program := "ytcadfopmadjanaa", sum := "2776d55a999be0a4ab117a895435ac15e667f97a7d13cc402f6878e6216ae068", func := "spinet/spinetlaw22.PhaseRows", spec := "phaseRows", apart := false, narrowed := true }
def PhaseRowsUptoSaid : Prop := phaseRowsUptoRow.holds Try.pinned (OpenSpec.upto phaseRowsSpec)

end Rows
end Go.Proofs.Ytcadfopmadjanaa
