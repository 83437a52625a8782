/-
  NARROWER THAN 'FOR EVERY INPUT', by the rows' own cells (each row's printed sentence says how): JournalAny: laid · JournalTwo: laid · JournalPlays: laid · JournalCuts: laid · JournalKnown: laid.
  DERIVED. THE GIVEN ROWS OF THIS SEAT. 5 by the template 'for every input the law returns true; each argument reads behind the call as it read before'; 0 by the template 'total and deterministic' (their statements: YtdfgcenbkclpbaaDoorTotals.lean).
  GIVEN WITH THE SEED: the statements are not yours to turn. If you find one false, say at which input.
  Laid BY PROGRAM, IN A SANDBOX (cutbox-rows.mjs): the forced cells as the released guide's own fill.sh prints them over the translation 0012fdbd15969cb0… (all of the seat's roots in one cut). By AI agents, Wed Nov 11 2026. No macro, syntax, notation, axiom, sorry.
-/
import Derived.Test.YtdfgcenbkclpbaaDoorChecked
import GoSem.Claim
import GoSem.ClaimJoined
import GoSem.ClaimMapViews
import Derived.JoinedTies
import Derived.KernelRfl
namespace Go.Proofs.YtdfgcenbkclpbaaDoor
/- THE CELL 'sum', in the pinned program and in every row, IS THE sha256 OF THE DUMP (.gsa) THAT YtdfgcenbkclpbaaDoorProg.lean LOADS. Nothing in Lean hashes anything: it is a label: what it is worth is what the hold of that sum in a sandbox is worth. -/
noncomputable def Tryd.pinned : Pinned := { name := "ytdfgcenbkclpbaadoor", sum := "0012fdbd15969cb00059728252447ec3b5d2c43800debfc3469e83107bfd01d2", checked := Tryd.checked }
namespace Rows
def none {H : Type} : Left H := { results := [], args := [] }

/- WHAT THE LISTED PACKAGE-LEVEL VARIABLES READ AS WHEN THE CALL BEGINS. Each datum BY PROGRAM (the guide's laid-datum.mjs) off the statement by which the dump's own 'gosem.cut.vars' lays the variable. In a bare row this is a premise. The card (YtdfgcenbkclpbaaDoorCards.lean) ties it to the program's text. -/
def laid_campanile_journal_free {H : Type} : DataW H := .agg [.lit (.int .u8 255), .lit (.int .u8 255), .lit (.int .u8 255), .lit (.int .u8 255)]

/-- 'campanilelaw06.JournalAny': WHATEVER THE INPUT: true; the input reads as it did. -/
def journalAnySpec : ChangeSpec := { name := "journalAny", fn := fun _ => fun
  | [d1, d2, d3, d4] => { results := [.lit (.bool true)], args := [d1, d2, d3, d4] }
  | _ => none }
def journalAnyRow : OpenClaim := { program := "ytdfgcenbkclpbaadoor", sum := "0012fdbd15969cb00059728252447ec3b5d2c43800debfc3469e83107bfd01d2", func := "campanile/campanilelaw06.JournalAny", spec := "journalAny", unfollowed := true, recurses := true, named := ["campanile/journal.free"], apart := false, laid := [("campanile/journal.free", laid_campanile_journal_free)] }
def JournalAnySaid : Prop := journalAnyRow.holds Tryd.pinned (OpenSpec.ofChange journalAnySpec)

/-- ITS FALSE NEIGHBOUR: 'it returns false'. Refute it at one input. -/
def journalAnyWrong : ChangeSpec := { name := "journalAny", fn := fun _ => fun
  | [d1, d2, d3, d4] => { results := [.lit (.bool false)], args := [d1, d2, d3, d4] }
  | _ => none }
def JournalAnyWrongFalsely : Prop := journalAnyRow.holds Tryd.pinned (OpenSpec.ofChange journalAnyWrong)

/-- 'campanilelaw06.JournalTwo': WHATEVER THE INPUT: true; the input reads as it did. -/
def journalTwoSpec : ChangeSpec := { name := "journalTwo", fn := fun _ => fun
  | [d1, d2] => { results := [.lit (.bool true)], args := [d1, d2] }
  | _ => none }
def journalTwoRow : OpenClaim := { program := "ytdfgcenbkclpbaadoor", sum := "0012fdbd15969cb00059728252447ec3b5d2c43800debfc3469e83107bfd01d2", func := "campanile/campanilelaw06.JournalTwo", spec := "journalTwo", unfollowed := true, recurses := true, named := ["campanile/journal.free"], apart := false, laid := [("campanile/journal.free", laid_campanile_journal_free)] }
def JournalTwoSaid : Prop := journalTwoRow.holds Tryd.pinned (OpenSpec.ofChange journalTwoSpec)

/-- ITS FALSE NEIGHBOUR: 'it returns false'. Refute it at one input. -/
def journalTwoWrong : ChangeSpec := { name := "journalTwo", fn := fun _ => fun
  | [d1, d2] => { results := [.lit (.bool false)], args := [d1, d2] }
  | _ => none }
def JournalTwoWrongFalsely : Prop := journalTwoRow.holds Tryd.pinned (OpenSpec.ofChange journalTwoWrong)

/-- 'campanilelaw06.JournalPlays': WHATEVER THE INPUT: true; the input reads as it did. -/
def journalPlaysSpec : ChangeSpec := { name := "journalPlays", fn := fun _ => fun
  | [d1, d2] => { results := [.lit (.bool true)], args := [d1, d2] }
  | _ => none }
def journalPlaysRow : OpenClaim := { program := "ytdfgcenbkclpbaadoor", sum := "0012fdbd15969cb00059728252447ec3b5d2c43800debfc3469e83107bfd01d2", func := "campanile/campanilelaw06.JournalPlays", spec := "journalPlays", unfollowed := true, recurses := true, named := ["campanile/journal.free"], apart := false, laid := [("campanile/journal.free", laid_campanile_journal_free)] }
def JournalPlaysSaid : Prop := journalPlaysRow.holds Tryd.pinned (OpenSpec.ofChange journalPlaysSpec)

/-- ITS FALSE NEIGHBOUR: 'it returns false'. Refute it at one input. -/
def journalPlaysWrong : ChangeSpec := { name := "journalPlays", fn := fun _ => fun
  | [d1, d2] => { results := [.lit (.bool false)], args := [d1, d2] }
  | _ => none }
def JournalPlaysWrongFalsely : Prop := journalPlaysRow.holds Tryd.pinned (OpenSpec.ofChange journalPlaysWrong)

/-- 'campanilelaw06.JournalCuts': WHATEVER THE INPUT: true; the input reads as it did. -/
def journalCutsSpec : ChangeSpec := { name := "journalCuts", fn := fun _ => fun
  | [d1, d2, d3] => { results := [.lit (.bool true)], args := [d1, d2, d3] }
  | _ => none }
def journalCutsRow : OpenClaim := { program := "ytdfgcenbkclpbaadoor", sum := "0012fdbd15969cb00059728252447ec3b5d2c43800debfc3469e83107bfd01d2", func := "campanile/campanilelaw06.JournalCuts", spec := "journalCuts", unfollowed := true, recurses := true, named := ["campanile/journal.free"], apart := false, laid := [("campanile/journal.free", laid_campanile_journal_free)] }
def JournalCutsSaid : Prop := journalCutsRow.holds Tryd.pinned (OpenSpec.ofChange journalCutsSpec)

/-- ITS FALSE NEIGHBOUR: 'it returns false'. Refute it at one input. -/
def journalCutsWrong : ChangeSpec := { name := "journalCuts", fn := fun _ => fun
  | [d1, d2, d3] => { results := [.lit (.bool false)], args := [d1, d2, d3] }
  | _ => none }
def JournalCutsWrongFalsely : Prop := journalCutsRow.holds Tryd.pinned (OpenSpec.ofChange journalCutsWrong)

/-- 'campanilelaw06.JournalKnown': WHATEVER THE INPUT: true; the input reads as it did. -/
def journalKnownSpec : ChangeSpec := { name := "journalKnown", fn := fun _ => fun
  | [] => { results := [.lit (.bool true)], args := [] }
  | _ => none }
def journalKnownRow : OpenClaim := { program := "ytdfgcenbkclpbaadoor", sum := "0012fdbd15969cb00059728252447ec3b5d2c43800debfc3469e83107bfd01d2", func := "campanile/campanilelaw06.JournalKnown", spec := "journalKnown", unfollowed := true, recurses := true, named := ["campanile/journal.free"], apart := false, laid := [("campanile/journal.free", laid_campanile_journal_free)] }
def JournalKnownSaid : Prop := journalKnownRow.holds Tryd.pinned (OpenSpec.ofChange journalKnownSpec)

/-- ITS FALSE NEIGHBOUR: 'it returns false'. Refute it at one input. -/
def journalKnownWrong : ChangeSpec := { name := "journalKnown", fn := fun _ => fun
  | [] => { results := [.lit (.bool false)], args := [] }
  | _ => none }
def JournalKnownWrongFalsely : Prop := journalKnownRow.holds Tryd.pinned (OpenSpec.ofChange journalKnownWrong)

/- THE SECOND FORM. 'bulk': how many values and letters a reading holds, each counted each time it is reached (what is shared counts as often as it is met; a slice's spare places count too). A statement '..UptoSaid' is the law's where the arguments, and the package variables that the reading takes, are together of bulk at most 1048576: NARROWER than '..Said'. Prove '..Said' where nothing that the law and all that it calls make is longer than what came in: it says more and counts as full. Else prove '..UptoSaid'. A law counts once. -/
mutual
def uptoBulk {H : Type} : DataW H → Nat
  | .lit (.string bytes) => bytes.length + 1
  | .lit _ => 1
  | .nil => 1
  | .ptr d => uptoBulk d + 1
  | .slice elems spare => uptoBulkAll elems + uptoBulkAll spare + 1
  | .agg parts => uptoBulkAll parts + 1
  | .iface _ d => uptoBulk d + 1
  | .map entries => uptoBulkEntries entries + 1
  | .held _ => 1
def uptoBulkAll {H : Type} : List (DataW H) → Nat
  | [] => 0
  | d :: r => uptoBulk d + uptoBulkAll r
def uptoBulkEntries {H : Type} : List (Lit × DataW H) → Nat
  | [] => 0
  | x :: r => uptoBulkEntry x + uptoBulkEntries r
def uptoBulkEntry {H : Type} : Lit × DataW H → Nat
  | (.string bytes, d) => bytes.length + uptoBulk d + 1
  | (_, d) => uptoBulk d + 1
 end
def uptoSmall : (H : Type) → List (DataW H) → Bool := fun _ ds => decide (uptoBulkAll ds ≤ 1048576)
def OpenSpec.upto (s : _root_.Go.ChangeSpec) : _root_.Go.OpenSpec := { _root_.Go.OpenSpec.ofChange s with cond := some uptoSmall }

/-- 'campanilelaw06.JournalAny', WHERE WHAT IT READS IS OF BULK AT MOST 1048576: true; the input reads as it did. -/
def journalAnyUptoRow : OpenClaim := { program := "ytdfgcenbkclpbaadoor", sum := "0012fdbd15969cb00059728252447ec3b5d2c43800debfc3469e83107bfd01d2", func := "campanile/campanilelaw06.JournalAny", spec := "journalAny", unfollowed := true, recurses := true, named := ["campanile/journal.free"], apart := false, laid := [("campanile/journal.free", laid_campanile_journal_free)], narrowed := true }
def JournalAnyUptoSaid : Prop := journalAnyUptoRow.holds Tryd.pinned (OpenSpec.upto journalAnySpec)

/-- 'campanilelaw06.JournalTwo', WHERE WHAT IT READS IS OF BULK AT MOST 1048576: true; the input reads as it did. -/
def journalTwoUptoRow : OpenClaim := { program := "ytdfgcenbkclpbaadoor", sum := "0012fdbd15969cb00059728252447ec3b5d2c43800debfc3469e83107bfd01d2", func := "campanile/campanilelaw06.JournalTwo", spec := "journalTwo", unfollowed := true, recurses := true, named := ["campanile/journal.free"], apart := false, laid := [("campanile/journal.free", laid_campanile_journal_free)], narrowed := true }
def JournalTwoUptoSaid : Prop := journalTwoUptoRow.holds Tryd.pinned (OpenSpec.upto journalTwoSpec)

/-- 'campanilelaw06.JournalPlays', WHERE WHAT IT READS IS OF BULK AT MOST 1048576: true; the input reads as it did. -/
def journalPlaysUptoRow : OpenClaim := { program := "ytdfgcenbkclpbaadoor", sum := "0012fdbd15969cb00059728252447ec3b5d2c43800debfc3469e83107bfd01d2", func := "campanile/campanilelaw06.JournalPlays", spec := "journalPlays", unfollowed := true, recurses := true, named := ["campanile/journal.free"], apart := false, laid := [("campanile/journal.free", laid_campanile_journal_free)], narrowed := true }
def JournalPlaysUptoSaid : Prop := journalPlaysUptoRow.holds Tryd.pinned (OpenSpec.upto journalPlaysSpec)

/-- 'campanilelaw06.JournalCuts', WHERE WHAT IT READS IS OF BULK AT MOST 1048576: true; the input reads as it did. -/
def journalCutsUptoRow : OpenClaim := { program := "ytdfgcenbkclpbaadoor", sum := "0012fdbd15969cb00059728252447ec3b5d2c43800debfc3469e83107bfd01d2", func := "campanile/campanilelaw06.JournalCuts", spec := "journalCuts", unfollowed := true, recurses := true, named := ["campanile/journal.free"], apart := false, laid := [("campanile/journal.free", laid_campanile_journal_free)], narrowed := true }
def JournalCutsUptoSaid : Prop := journalCutsUptoRow.holds Tryd.pinned (OpenSpec.upto journalCutsSpec)

/-- 'campanilelaw06.JournalKnown', WHERE WHAT IT READS IS OF BULK AT MOST 1048576: true; the input reads as it did. -/
def journalKnownUptoRow : OpenClaim := { program := "ytdfgcenbkclpbaadoor", sum := "0012fdbd15969cb00059728252447ec3b5d2c43800debfc3469e83107bfd01d2", func := "campanile/campanilelaw06.JournalKnown", spec := "journalKnown", unfollowed := true, recurses := true, named := ["campanile/journal.free"], apart := false, laid := [("campanile/journal.free", laid_campanile_journal_free)], narrowed := true }
def JournalKnownUptoSaid : Prop := journalKnownUptoRow.holds Tryd.pinned (OpenSpec.upto journalKnownSpec)

end Rows
end Go.Proofs.YtdfgcenbkclpbaaDoor
