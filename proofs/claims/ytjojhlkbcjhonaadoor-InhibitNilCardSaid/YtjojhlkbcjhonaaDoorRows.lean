/-
  NARROWER THAN 'FOR EVERY INPUT', by the rows' own cells (each row's printed sentence says how): RegexChoice: laid · RegexRows: laid · RegexStars: laid · RegexPrefix: laid · RegexNil: laid · RegexQuotes: laid · InhibitNil: laid.
  DERIVED. THE GIVEN ROWS OF THIS SEAT. 7 by the template 'for every input the law returns true; each argument reads behind the call as it read before'; 0 by the template 'total and deterministic' (their statements: YtjojhlkbcjhonaaDoorTotals.lean).
  GIVEN WITH THE SEED: the statements are not yours to turn. If you find one false, say at which input.
  Laid BY PROGRAM, IN A SANDBOX (cutbox-rows.mjs): the forced cells as the released guide's own fill.sh prints them over the translation f866010e1863f061… (all of the seat's roots in one cut). By AI agents, Wed Nov 11 2026. No macro, syntax, notation, axiom, sorry.
-/
import Derived.Test.YtjojhlkbcjhonaaDoorChecked
import GoSem.PinnedTables
import GoSem.Claim
import GoSem.ClaimJoined
import GoSem.ClaimMapViews
import Derived.JoinedTies
import Derived.KernelRfl
namespace Go.Proofs.YtjojhlkbcjhonaaDoor
/- THE CELL 'sum', in the pinned program and in every row, IS THE sha256 OF THE DUMP (.gsa) THAT YtjojhlkbcjhonaaDoorProg.lean LOADS. Nothing in Lean hashes anything: it is a label: what it is worth is what the hold of that sum in a sandbox is worth. -/
noncomputable def Tryd.pinned : Pinned := { name := "ytjojhlkbcjhonaadoor", sum := "f866010e1863f061baac8673f499124235ec0f34ef84f05b25185b8974219e35", checked := Tryd.checked }
namespace Rows
def none {H : Type} : Left H := { results := [], args := [] }

/- WHAT THE LISTED PACKAGE-LEVEL VARIABLES READ AS WHEN THE CALL BEGINS. Each datum BY PROGRAM (the guide's laid-datum.mjs) off the statement by which the dump's own 'gosem.cut.vars' lays the variable. In a bare row this is a premise. The card (YtjojhlkbcjhonaaDoorCards.lean) ties it to the program's text. -/
def laid_unicode_utf8_acceptRanges {H : Type} : DataW H := .agg [.agg [.lit (.int .u8 128), .lit (.int .u8 191)], .agg [.lit (.int .u8 160), .lit (.int .u8 191)], .agg [.lit (.int .u8 128), .lit (.int .u8 159)], .agg [.lit (.int .u8 144), .lit (.int .u8 191)], .agg [.lit (.int .u8 128), .lit (.int .u8 143)], .agg [.lit (.int .u8 0), .lit (.int .u8 0)], .agg [.lit (.int .u8 0), .lit (.int .u8 0)], .agg [.lit (.int .u8 0), .lit (.int .u8 0)], .agg [.lit (.int .u8 0), .lit (.int .u8 0)], .agg [.lit (.int .u8 0), .lit (.int .u8 0)], .agg [.lit (.int .u8 0), .lit (.int .u8 0)], .agg [.lit (.int .u8 0), .lit (.int .u8 0)], .agg [.lit (.int .u8 0), .lit (.int .u8 0)], .agg [.lit (.int .u8 0), .lit (.int .u8 0)], .agg [.lit (.int .u8 0), .lit (.int .u8 0)], .agg [.lit (.int .u8 0), .lit (.int .u8 0)]]
/-- One of Go's own tables, pinned by name: the form's constant. -/
def laid_unicode_utf8_first : DataW Unit := Go.Pinned.utf8First

/-- 'tocsinlaw05.RegexChoice': WHATEVER THE INPUT: true; the input reads as it did. -/
def regexChoiceSpec : ChangeSpec := { name := "regexChoice", fn := fun _ => fun
  | [d1, d2, d3] => { results := [.lit (.bool true)], args := [d1, d2, d3] }
  | _ => none }
def regexChoiceRow : OpenClaim := { program := "ytjojhlkbcjhonaadoor", sum := "f866010e1863f061baac8673f499124235ec0f34ef84f05b25185b8974219e35", func := "tocsin/tocsinlaw05.RegexChoice", spec := "regexChoice", unfollowed := true, recurses := true, named := ["unicode/utf8.first", "unicode/utf8.acceptRanges"], apart := false, laid := [("unicode/utf8.acceptRanges", laid_unicode_utf8_acceptRanges), ("unicode/utf8.first", laid_unicode_utf8_first)] }
def RegexChoiceSaid : Prop := regexChoiceRow.holds Tryd.pinned (OpenSpec.ofChange regexChoiceSpec)

/-- ITS FALSE NEIGHBOUR: 'it returns false'. Refute it at one input. -/
def regexChoiceWrong : ChangeSpec := { name := "regexChoice", fn := fun _ => fun
  | [d1, d2, d3] => { results := [.lit (.bool false)], args := [d1, d2, d3] }
  | _ => none }
def RegexChoiceWrongFalsely : Prop := regexChoiceRow.holds Tryd.pinned (OpenSpec.ofChange regexChoiceWrong)

/-- 'tocsinlaw05.RegexRows': WHATEVER THE INPUT: true; the input reads as it did. -/
def regexRowsSpec : ChangeSpec := { name := "regexRows", fn := fun _ => fun
  | [d1, d2, d3] => { results := [.lit (.bool true)], args := [d1, d2, d3] }
  | _ => none }
def regexRowsRow : OpenClaim := { program := "ytjojhlkbcjhonaadoor", sum := "f866010e1863f061baac8673f499124235ec0f34ef84f05b25185b8974219e35", func := "tocsin/tocsinlaw05.RegexRows", spec := "regexRows", unfollowed := true, recurses := true, named := ["unicode/utf8.first", "unicode/utf8.acceptRanges"], apart := false, laid := [("unicode/utf8.acceptRanges", laid_unicode_utf8_acceptRanges), ("unicode/utf8.first", laid_unicode_utf8_first)] }
def RegexRowsSaid : Prop := regexRowsRow.holds Tryd.pinned (OpenSpec.ofChange regexRowsSpec)

/-- ITS FALSE NEIGHBOUR: 'it returns false'. Refute it at one input. -/
def regexRowsWrong : ChangeSpec := { name := "regexRows", fn := fun _ => fun
  | [d1, d2, d3] => { results := [.lit (.bool false)], args := [d1, d2, d3] }
  | _ => none }
def RegexRowsWrongFalsely : Prop := regexRowsRow.holds Tryd.pinned (OpenSpec.ofChange regexRowsWrong)

/-- 'tocsinlaw05.RegexStars': WHATEVER THE INPUT: true; the input reads as it did. -/
def regexStarsSpec : ChangeSpec := { name := "regexStars", fn := fun _ => fun
  | [d1, d2, d3, d4] => { results := [.lit (.bool true)], args := [d1, d2, d3, d4] }
  | _ => none }
def regexStarsRow : OpenClaim := { program := "ytjojhlkbcjhonaadoor", sum := "f866010e1863f061baac8673f499124235ec0f34ef84f05b25185b8974219e35", func := "tocsin/tocsinlaw05.RegexStars", spec := "regexStars", unfollowed := true, recurses := true, named := ["unicode/utf8.first", "unicode/utf8.acceptRanges"], apart := false, laid := [("unicode/utf8.acceptRanges", laid_unicode_utf8_acceptRanges), ("unicode/utf8.first", laid_unicode_utf8_first)] }
def RegexStarsSaid : Prop := regexStarsRow.holds Tryd.pinned (OpenSpec.ofChange regexStarsSpec)

/-- ITS FALSE NEIGHBOUR: 'it returns false'. Refute it at one input. -/
def regexStarsWrong : ChangeSpec := { name := "regexStars", fn := fun _ => fun
  | [d1, d2, d3, d4] => { results := [.lit (.bool false)], args := [d1, d2, d3, d4] }
  | _ => none }
def RegexStarsWrongFalsely : Prop := regexStarsRow.holds Tryd.pinned (OpenSpec.ofChange regexStarsWrong)

/-- 'tocsinlaw05.RegexPrefix': WHATEVER THE INPUT: true; the input reads as it did. -/
def regexPrefixSpec : ChangeSpec := { name := "regexPrefix", fn := fun _ => fun
  | [d1, d2] => { results := [.lit (.bool true)], args := [d1, d2] }
  | _ => none }
def regexPrefixRow : OpenClaim := { program := "ytjojhlkbcjhonaadoor", sum := "f866010e1863f061baac8673f499124235ec0f34ef84f05b25185b8974219e35", func := "tocsin/tocsinlaw05.RegexPrefix", spec := "regexPrefix", inPlace := ["internal/abi.NoEscape"], unfollowed := true, recurses := true, named := ["unicode/utf8.first", "unicode/utf8.acceptRanges"], apart := false, laid := [("unicode/utf8.acceptRanges", laid_unicode_utf8_acceptRanges), ("unicode/utf8.first", laid_unicode_utf8_first)] }
def RegexPrefixSaid : Prop := regexPrefixRow.holds Tryd.pinned (OpenSpec.ofChange regexPrefixSpec)

/-- ITS FALSE NEIGHBOUR: 'it returns false'. Refute it at one input. -/
def regexPrefixWrong : ChangeSpec := { name := "regexPrefix", fn := fun _ => fun
  | [d1, d2] => { results := [.lit (.bool false)], args := [d1, d2] }
  | _ => none }
def RegexPrefixWrongFalsely : Prop := regexPrefixRow.holds Tryd.pinned (OpenSpec.ofChange regexPrefixWrong)

/-- 'tocsinlaw05.RegexNil': WHATEVER THE INPUT: true; the input reads as it did. -/
def regexNilSpec : ChangeSpec := { name := "regexNil", fn := fun _ => fun
  | [d] => { results := [.lit (.bool true)], args := [d] }
  | _ => none }
def regexNilRow : OpenClaim := { program := "ytjojhlkbcjhonaadoor", sum := "f866010e1863f061baac8673f499124235ec0f34ef84f05b25185b8974219e35", func := "tocsin/tocsinlaw05.RegexNil", spec := "regexNil", inPlace := ["internal/abi.NoEscape"], unfollowed := true, recurses := true, named := ["unicode/utf8.first", "unicode/utf8.acceptRanges"], apart := false, laid := [("unicode/utf8.acceptRanges", laid_unicode_utf8_acceptRanges), ("unicode/utf8.first", laid_unicode_utf8_first)] }
def RegexNilSaid : Prop := regexNilRow.holds Tryd.pinned (OpenSpec.ofChange regexNilSpec)

/-- ITS FALSE NEIGHBOUR: 'it returns false'. Refute it at one input. -/
def regexNilWrong : ChangeSpec := { name := "regexNil", fn := fun _ => fun
  | [d] => { results := [.lit (.bool false)], args := [d] }
  | _ => none }
def RegexNilWrongFalsely : Prop := regexNilRow.holds Tryd.pinned (OpenSpec.ofChange regexNilWrong)

/-- 'tocsinlaw05.RegexQuotes': WHATEVER THE INPUT: true; the input reads as it did. -/
def regexQuotesSpec : ChangeSpec := { name := "regexQuotes", fn := fun _ => fun
  | [d1, d2] => { results := [.lit (.bool true)], args := [d1, d2] }
  | _ => none }
def regexQuotesRow : OpenClaim := { program := "ytjojhlkbcjhonaadoor", sum := "f866010e1863f061baac8673f499124235ec0f34ef84f05b25185b8974219e35", func := "tocsin/tocsinlaw05.RegexQuotes", spec := "regexQuotes", inPlace := ["internal/abi.NoEscape"], unfollowed := true, recurses := true, named := ["unicode/utf8.first", "unicode/utf8.acceptRanges"], apart := false, laid := [("unicode/utf8.acceptRanges", laid_unicode_utf8_acceptRanges), ("unicode/utf8.first", laid_unicode_utf8_first)] }
def RegexQuotesSaid : Prop := regexQuotesRow.holds Tryd.pinned (OpenSpec.ofChange regexQuotesSpec)

/-- ITS FALSE NEIGHBOUR: 'it returns false'. Refute it at one input. -/
def regexQuotesWrong : ChangeSpec := { name := "regexQuotes", fn := fun _ => fun
  | [d1, d2] => { results := [.lit (.bool false)], args := [d1, d2] }
  | _ => none }
def RegexQuotesWrongFalsely : Prop := regexQuotesRow.holds Tryd.pinned (OpenSpec.ofChange regexQuotesWrong)

/-- 'tocsinlaw23.InhibitNil': WHATEVER THE INPUT: true; the input reads as it did. -/
def inhibitNilSpec : ChangeSpec := { name := "inhibitNil", fn := fun _ => fun
  | [d1, d2] => { results := [.lit (.bool true)], args := [d1, d2] }
  | _ => none }
def inhibitNilRow : OpenClaim := { program := "ytjojhlkbcjhonaadoor", sum := "f866010e1863f061baac8673f499124235ec0f34ef84f05b25185b8974219e35", func := "tocsin/tocsinlaw23.InhibitNil", spec := "inhibitNil", inPlace := ["sync/atomic.LoadUint32", "(*internal/sync.Mutex).Lock", "internal/race.Disable", "sync/atomic.CompareAndSwapInt32", "internal/race.Enable", "internal/race.Acquire", "(*internal/sync.Mutex).lockSlow", "internal/sync.runtime_canSpin", "internal/sync.runtime_doSpin", "internal/sync.throw", "internal/sync.runtime_nanotime", "internal/sync.runtime_SemacquireMutex", "sync/atomic.AddInt32", "(*internal/sync.Mutex).Unlock", "internal/race.ReleaseMerge", "(*internal/sync.Mutex).unlockSlow", "internal/sync.fatal", "internal/sync.runtime_Semrelease", "sync/atomic.StoreUint32"], unfollowed := true, recurses := true, named := ["unicode/utf8.first", "unicode/utf8.acceptRanges"], apart := false, laid := [("unicode/utf8.acceptRanges", laid_unicode_utf8_acceptRanges), ("unicode/utf8.first", laid_unicode_utf8_first)] }
def InhibitNilSaid : Prop := inhibitNilRow.holds Tryd.pinned (OpenSpec.ofChange inhibitNilSpec)

/-- ITS FALSE NEIGHBOUR: 'it returns false'. Refute it at one input. -/
def inhibitNilWrong : ChangeSpec := { name := "inhibitNil", fn := fun _ => fun
  | [d1, d2] => { results := [.lit (.bool false)], args := [d1, d2] }
  | _ => none }
def InhibitNilWrongFalsely : Prop := inhibitNilRow.holds Tryd.pinned (OpenSpec.ofChange inhibitNilWrong)

/- THE SECOND FORM. 'bulk': how many values and letters a reading holds, each counted each time it is reached (what is shared counts as often as it is met; a slice's spare places count too). A statement '..UptoSaid' is the law's where the arguments, and the package variables that the reading takes, are together of bulk at most 1048576: NARROWER than '..Said'. Prove '..Said' where nothing that the law and all that it calls make is longer than what came in: it says more and counts as full. Else prove '..UptoSaid'. A law counts once. -/
mutual
def uptoBulk {H : Type} : DataW H → Nat
  | .lit (.string bytes) => bytes.length + 1
  | .lit _ => 1
  | .nil => 1
  | .ptr d => uptoBulk d + 1
  | .slice elems spare => uptoBulkAll elems + uptoBulkAll spare + 1
  | .agg parts => uptoBulkAll parts + 1
  | .iface _ d => uptoBulk d + 1
  | .map entries => uptoBulkEntries entries + 1
  | .held _ => 1
def uptoBulkAll {H : Type} : List (DataW H) → Nat
  | [] => 0
  | d :: r => uptoBulk d + uptoBulkAll r
def uptoBulkEntries {H : Type} : List (Lit × DataW H) → Nat
  | [] => 0
  | x :: r => uptoBulkEntry x + uptoBulkEntries r
def uptoBulkEntry {H : Type} : Lit × DataW H → Nat
  | (.string bytes, d) => bytes.length + uptoBulk d + 1
  | (_, d) => uptoBulk d + 1
 end
def uptoSmall : (H : Type) → List (DataW H) → Bool := fun _ ds => decide (uptoBulkAll ds ≤ 1048576)
def OpenSpec.upto (s : _root_.Go.ChangeSpec) : _root_.Go.OpenSpec := { _root_.Go.OpenSpec.ofChange s with cond := some uptoSmall }

/-- 'tocsinlaw05.RegexChoice', WHERE WHAT IT READS IS OF BULK AT MOST 1048576: true; the input reads as it did. -/
def regexChoiceUptoRow : OpenClaim := { program := "ytjojhlkbcjhonaadoor", sum := "f866010e1863f061baac8673f499124235ec0f34ef84f05b25185b8974219e35", func := "tocsin/tocsinlaw05.RegexChoice", spec := "regexChoice", unfollowed := true, recurses := true, named := ["unicode/utf8.first", "unicode/utf8.acceptRanges"], apart := false, laid := [("unicode/utf8.acceptRanges", laid_unicode_utf8_acceptRanges), ("unicode/utf8.first", laid_unicode_utf8_first)], narrowed := true }
def RegexChoiceUptoSaid : Prop := regexChoiceUptoRow.holds Tryd.pinned (OpenSpec.upto regexChoiceSpec)

/-- 'tocsinlaw05.RegexRows', WHERE WHAT IT READS IS OF BULK AT MOST 1048576: true; the input reads as it did. -/
def regexRowsUptoRow : OpenClaim := { program := "ytjojhlkbcjhonaadoor", sum := "f866010e1863f061baac8673f499124235ec0f34ef84f05b25185b8974219e35", func := "tocsin/tocsinlaw05.RegexRows", spec := "regexRows", unfollowed := true, recurses := true, named := ["unicode/utf8.first", "unicode/utf8.acceptRanges"], apart := false, laid := [("unicode/utf8.acceptRanges", laid_unicode_utf8_acceptRanges), ("unicode/utf8.first", laid_unicode_utf8_first)], narrowed := true }
def RegexRowsUptoSaid : Prop := regexRowsUptoRow.holds Tryd.pinned (OpenSpec.upto regexRowsSpec)

/-- 'tocsinlaw05.RegexStars', WHERE WHAT IT READS IS OF BULK AT MOST 1048576: true; the input reads as it did. -/
def regexStarsUptoRow : OpenClaim := { program := "ytjojhlkbcjhonaadoor", sum := "f866010e1863f061baac8673f499124235ec0f34ef84f05b25185b8974219e35", func := "tocsin/tocsinlaw05.RegexStars", spec := "regexStars", unfollowed := true, recurses := true, named := ["unicode/utf8.first", "unicode/utf8.acceptRanges"], apart := false, laid := [("unicode/utf8.acceptRanges", laid_unicode_utf8_acceptRanges), ("unicode/utf8.first", laid_unicode_utf8_first)], narrowed := true }
def RegexStarsUptoSaid : Prop := regexStarsUptoRow.holds Tryd.pinned (OpenSpec.upto regexStarsSpec)

/-- 'tocsinlaw05.RegexPrefix', WHERE WHAT IT READS IS OF BULK AT MOST 1048576: true; the input reads as it did. -/
def regexPrefixUptoRow : OpenClaim := { program := "ytjojhlkbcjhonaadoor", sum := "f866010e1863f061baac8673f499124235ec0f34ef84f05b25185b8974219e35", func := "tocsin/tocsinlaw05.RegexPrefix", spec := "regexPrefix", inPlace := ["internal/abi.NoEscape"], unfollowed := true, recurses := true, named := ["unicode/utf8.first", "unicode/utf8.acceptRanges"], apart := false, laid := [("unicode/utf8.acceptRanges", laid_unicode_utf8_acceptRanges), ("unicode/utf8.first", laid_unicode_utf8_first)], narrowed := true }
def RegexPrefixUptoSaid : Prop := regexPrefixUptoRow.holds Tryd.pinned (OpenSpec.upto regexPrefixSpec)

/-- 'tocsinlaw05.RegexNil', WHERE WHAT IT READS IS OF BULK AT MOST 1048576: true; the input reads as it did. -/
def regexNilUptoRow : OpenClaim := { program := "ytjojhlkbcjhonaadoor", sum := "f866010e1863f061baac8673f499124235ec0f34ef84f05b25185b8974219e35", func := "tocsin/tocsinlaw05.RegexNil", spec := "regexNil", inPlace := ["internal/abi.NoEscape"], unfollowed := true, recurses := true, named := ["unicode/utf8.first", "unicode/utf8.acceptRanges"], apart := false, laid := [("unicode/utf8.acceptRanges", laid_unicode_utf8_acceptRanges), ("unicode/utf8.first", laid_unicode_utf8_first)], narrowed := true }
def RegexNilUptoSaid : Prop := regexNilUptoRow.holds Tryd.pinned (OpenSpec.upto regexNilSpec)

/-- 'tocsinlaw05.RegexQuotes', WHERE WHAT IT READS IS OF BULK AT MOST 1048576: true; the input reads as it did. -/
def regexQuotesUptoRow : OpenClaim := { program := "ytjojhlkbcjhonaadoor", sum := "f866010e1863f061baac8673f499124235ec0f34ef84f05b25185b8974219e35", func := "tocsin/tocsinlaw05.RegexQuotes", spec := "regexQuotes", inPlace := ["internal/abi.NoEscape"], unfollowed := true, recurses := true, named := ["unicode/utf8.first", "unicode/utf8.acceptRanges"], apart := false, laid := [("unicode/utf8.acceptRanges", laid_unicode_utf8_acceptRanges), ("unicode/utf8.first", laid_unicode_utf8_first)], narrowed := true }
def RegexQuotesUptoSaid : Prop := regexQuotesUptoRow.holds Tryd.pinned (OpenSpec.upto regexQuotesSpec)

/-- 'tocsinlaw23.InhibitNil', WHERE WHAT IT READS IS OF BULK AT MOST 1048576: true; the input reads as it did. -/
def inhibitNilUptoRow : OpenClaim := { program := "ytjojhlkbcjhonaadoor", sum := "f866010e1863f061baac8673f499124235ec0f34ef84f05b25185b8974219e35", func := "tocsin/tocsinlaw23.InhibitNil", spec := "inhibitNil", inPlace := ["sync/atomic.LoadUint32", "(*internal/sync.Mutex).Lock", "internal/race.Disable", "sync/atomic.CompareAndSwapInt32", "internal/race.Enable", "internal/race.Acquire", "(*internal/sync.Mutex).lockSlow", "internal/sync.runtime_canSpin", "internal/sync.runtime_doSpin", "internal/sync.throw", "internal/sync.runtime_nanotime", "internal/sync.runtime_SemacquireMutex", "sync/atomic.AddInt32", "(*internal/sync.Mutex).Unlock", "internal/race.ReleaseMerge", "(*internal/sync.Mutex).unlockSlow", "internal/sync.fatal", "internal/sync.runtime_Semrelease", "sync/atomic.StoreUint32"], unfollowed := true, recurses := true, named := ["unicode/utf8.first", "unicode/utf8.acceptRanges"], apart := false, laid := [("unicode/utf8.acceptRanges", laid_unicode_utf8_acceptRanges), ("unicode/utf8.first", laid_unicode_utf8_first)], narrowed := true }
def InhibitNilUptoSaid : Prop := inhibitNilUptoRow.holds Tryd.pinned (OpenSpec.upto inhibitNilSpec)

end Rows
end Go.Proofs.YtjojhlkbcjhonaaDoor
