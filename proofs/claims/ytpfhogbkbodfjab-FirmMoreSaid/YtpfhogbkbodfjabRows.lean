/-
  No cell of these rows narrows 'for every input' (looked for: loops, veiled, ifaces, maps, wideKeys, modest, calm, conditions, laid).
  DERIVED. THE GIVEN ROWS OF THIS SEAT. 12 by the template 'for every input the law returns true; each argument reads behind the call as it read before'; 0 by the template 'total and deterministic' (their statements: YtpfhogbkbodfjabTotals.lean).
  GIVEN WITH THE SEED: the statements are not yours to turn. If you find one false, say at which input.
  Laid BY PROGRAM, IN A SANDBOX (cutbox-rows.mjs): the forced cells as the released guide's own fill.sh prints them over the translation e215ee2d2f124a2f… (all of the seat's roots in one cut). By AI agents, Wed Nov 11 2026. No macro, syntax, notation, axiom, sorry.
-/
import Derived.Test.YtpfhogbkbodfjabChecked
import GoSem.Claim
import GoSem.ClaimJoined
import GoSem.ClaimMapViews
import Derived.JoinedTies
import Derived.KernelRfl
namespace Go.Proofs.Ytpfhogbkbodfjab
/- THE CELL 'sum', in the pinned program and in every row, IS THE sha256 OF THE DUMP (.gsa) THAT YtpfhogbkbodfjabProg.lean LOADS. Nothing in Lean hashes anything: it is a label: what it is worth is what the hold of that sum in a sandbox is worth. -/
noncomputable def Try.pinned : Pinned := { name := "ytpfhogbkbodfjab", sum := "e215ee2d2f124a2fa3935c0faf7e602cd2de7f874f312afbc4e56286445ad760", checked := Try.checked }
namespace Rows
def none {H : Type} : Left H := { results := [], args := [] }

/-- 'tocsinlaw17.CleanLeft': WHATEVER THE INPUT: true; the input reads as it did. -/
def cleanLeftSpec : ChangeSpec := { name := "cleanLeft", fn := fun _ => fun
  | [d1, d2, d3] => { results := [.lit (.bool true)], args := [d1, d2, d3] }
  | _ => none }
def cleanLeftRow : OpenClaim := { program := "ytpfhogbkbodfjab", sum := "e215ee2d2f124a2fa3935c0faf7e602cd2de7f874f312afbc4e56286445ad760", func := "tocsin/tocsinlaw17.CleanLeft", spec := "cleanLeft", apart := false }
def CleanLeftSaid : Prop := cleanLeftRow.holds Try.pinned (OpenSpec.ofChange cleanLeftSpec)

/-- ITS FALSE NEIGHBOUR: 'it returns false'. Refute it at one input. -/
def cleanLeftWrong : ChangeSpec := { name := "cleanLeft", fn := fun _ => fun
  | [d1, d2, d3] => { results := [.lit (.bool false)], args := [d1, d2, d3] }
  | _ => none }
def CleanLeftWrongFalsely : Prop := cleanLeftRow.holds Try.pinned (OpenSpec.ofChange cleanLeftWrong)

/-- 'tocsinlaw17.CleanKnown': WHATEVER THE INPUT: true; the input reads as it did. -/
def cleanKnownSpec : ChangeSpec := { name := "cleanKnown", fn := fun _ => fun
  | [] => { results := [.lit (.bool true)], args := [] }
  | _ => none }
def cleanKnownRow : OpenClaim := { program := "ytpfhogbkbodfjab", sum := "e215ee2d2f124a2fa3935c0faf7e602cd2de7f874f312afbc4e56286445ad760", func := "tocsin/tocsinlaw17.CleanKnown", spec := "cleanKnown", apart := false }
def CleanKnownSaid : Prop := cleanKnownRow.holds Try.pinned (OpenSpec.ofChange cleanKnownSpec)

/-- ITS FALSE NEIGHBOUR: 'it returns false'. Refute it at one input. -/
def cleanKnownWrong : ChangeSpec := { name := "cleanKnown", fn := fun _ => fun
  | [] => { results := [.lit (.bool false)], args := [] }
  | _ => none }
def CleanKnownWrongFalsely : Prop := cleanKnownRow.holds Try.pinned (OpenSpec.ofChange cleanKnownWrong)

/-- 'tocsinlaw17.CleanPlays': WHATEVER THE INPUT: true; the input reads as it did. -/
def cleanPlaysSpec : ChangeSpec := { name := "cleanPlays", fn := fun _ => fun
  | [d1, d2, d3, d4] => { results := [.lit (.bool true)], args := [d1, d2, d3, d4] }
  | _ => none }
def cleanPlaysRow : OpenClaim := { program := "ytpfhogbkbodfjab", sum := "e215ee2d2f124a2fa3935c0faf7e602cd2de7f874f312afbc4e56286445ad760", func := "tocsin/tocsinlaw17.CleanPlays", spec := "cleanPlays", apart := false }
def CleanPlaysSaid : Prop := cleanPlaysRow.holds Try.pinned (OpenSpec.ofChange cleanPlaysSpec)

/-- ITS FALSE NEIGHBOUR: 'it returns false'. Refute it at one input. -/
def cleanPlaysWrong : ChangeSpec := { name := "cleanPlays", fn := fun _ => fun
  | [d1, d2, d3, d4] => { results := [.lit (.bool false)], args := [d1, d2, d3, d4] }
  | _ => none }
def CleanPlaysWrongFalsely : Prop := cleanPlaysRow.holds Try.pinned (OpenSpec.ofChange cleanPlaysWrong)

/-- 'tocsinlaw17.CleanWithin': WHATEVER THE INPUT: true; the input reads as it did. -/
def cleanWithinSpec : ChangeSpec := { name := "cleanWithin", fn := fun _ => fun
  | [d1, d2, d3, d4] => { results := [.lit (.bool true)], args := [d1, d2, d3, d4] }
  | _ => none }
def cleanWithinRow : OpenClaim := { program := "ytpfhogbkbodfjab", sum := "e215ee2d2f124a2fa3935c0faf7e602cd2de7f874f312afbc4e56286445ad760", func := "tocsin/tocsinlaw17.CleanWithin", spec := "cleanWithin", apart := false }
def CleanWithinSaid : Prop := cleanWithinRow.holds Try.pinned (OpenSpec.ofChange cleanWithinSpec)

/-- ITS FALSE NEIGHBOUR: 'it returns false'. Refute it at one input. -/
def cleanWithinWrong : ChangeSpec := { name := "cleanWithin", fn := fun _ => fun
  | [d1, d2, d3, d4] => { results := [.lit (.bool false)], args := [d1, d2, d3, d4] }
  | _ => none }
def CleanWithinWrongFalsely : Prop := cleanWithinRow.holds Try.pinned (OpenSpec.ofChange cleanWithinWrong)

/-- 'tocsinlaw4.ArenaKnown': WHATEVER THE INPUT: true; the input reads as it did. -/
def arenaKnownSpec : ChangeSpec := { name := "arenaKnown", fn := fun _ => fun
  | [] => { results := [.lit (.bool true)], args := [] }
  | _ => none }
def arenaKnownRow : OpenClaim := { program := "ytpfhogbkbodfjab", sum := "e215ee2d2f124a2fa3935c0faf7e602cd2de7f874f312afbc4e56286445ad760", func := "tocsin/tocsinlaw4.ArenaKnown", spec := "arenaKnown", apart := false }
def ArenaKnownSaid : Prop := arenaKnownRow.holds Try.pinned (OpenSpec.ofChange arenaKnownSpec)

/-- ITS FALSE NEIGHBOUR: 'it returns false'. Refute it at one input. -/
def arenaKnownWrong : ChangeSpec := { name := "arenaKnown", fn := fun _ => fun
  | [] => { results := [.lit (.bool false)], args := [] }
  | _ => none }
def ArenaKnownWrongFalsely : Prop := arenaKnownRow.holds Try.pinned (OpenSpec.ofChange arenaKnownWrong)

/-- 'tocsinlaw4.ArenaPlays': WHATEVER THE INPUT: true; the input reads as it did. -/
def arenaPlaysSpec : ChangeSpec := { name := "arenaPlays", fn := fun _ => fun
  | [d1, d2] => { results := [.lit (.bool true)], args := [d1, d2] }
  | _ => none }
def arenaPlaysRow : OpenClaim := { program := "ytpfhogbkbodfjab", sum := "e215ee2d2f124a2fa3935c0faf7e602cd2de7f874f312afbc4e56286445ad760", func := "tocsin/tocsinlaw4.ArenaPlays", spec := "arenaPlays", apart := false }
def ArenaPlaysSaid : Prop := arenaPlaysRow.holds Try.pinned (OpenSpec.ofChange arenaPlaysSpec)

/-- ITS FALSE NEIGHBOUR: 'it returns false'. Refute it at one input. -/
def arenaPlaysWrong : ChangeSpec := { name := "arenaPlays", fn := fun _ => fun
  | [d1, d2] => { results := [.lit (.bool false)], args := [d1, d2] }
  | _ => none }
def ArenaPlaysWrongFalsely : Prop := arenaPlaysRow.holds Try.pinned (OpenSpec.ofChange arenaPlaysWrong)

/-- 'tocsinlaw14.LedgerKnown': WHATEVER THE INPUT: true; the input reads as it did. -/
def ledgerKnownSpec : ChangeSpec := { name := "ledgerKnown", fn := fun _ => fun
  | [] => { results := [.lit (.bool true)], args := [] }
  | _ => none }
def ledgerKnownRow : OpenClaim := { program := "ytpfhogbkbodfjab", sum := "e215ee2d2f124a2fa3935c0faf7e602cd2de7f874f312afbc4e56286445ad760", func := "tocsin/tocsinlaw14.LedgerKnown", spec := "ledgerKnown", apart := false }
def LedgerKnownSaid : Prop := ledgerKnownRow.holds Try.pinned (OpenSpec.ofChange ledgerKnownSpec)

/-- ITS FALSE NEIGHBOUR: 'it returns false'. Refute it at one input. -/
def ledgerKnownWrong : ChangeSpec := { name := "ledgerKnown", fn := fun _ => fun
  | [] => { results := [.lit (.bool false)], args := [] }
  | _ => none }
def LedgerKnownWrongFalsely : Prop := ledgerKnownRow.holds Try.pinned (OpenSpec.ofChange ledgerKnownWrong)

/-- 'tocsinlaw14.LedgerPlays': WHATEVER THE INPUT: true; the input reads as it did. -/
def ledgerPlaysSpec : ChangeSpec := { name := "ledgerPlays", fn := fun _ => fun
  | [d1, d2, d3] => { results := [.lit (.bool true)], args := [d1, d2, d3] }
  | _ => none }
def ledgerPlaysRow : OpenClaim := { program := "ytpfhogbkbodfjab", sum := "e215ee2d2f124a2fa3935c0faf7e602cd2de7f874f312afbc4e56286445ad760", func := "tocsin/tocsinlaw14.LedgerPlays", spec := "ledgerPlays", apart := false }
def LedgerPlaysSaid : Prop := ledgerPlaysRow.holds Try.pinned (OpenSpec.ofChange ledgerPlaysSpec)

/-- ITS FALSE NEIGHBOUR: 'it returns false'. Refute it at one input. -/
def ledgerPlaysWrong : ChangeSpec := { name := "ledgerPlays", fn := fun _ => fun
  | [d1, d2, d3] => { results := [.lit (.bool false)], args := [d1, d2, d3] }
  | _ => none }
def LedgerPlaysWrongFalsely : Prop := ledgerPlaysRow.holds Try.pinned (OpenSpec.ofChange ledgerPlaysWrong)

/-- 'tocsinlaw16.FirmMore': WHATEVER THE INPUT: true; the input reads as it did. -/
def firmMoreSpec : ChangeSpec := { name := "firmMore", fn := fun _ => fun
  | [d1, d2, d3, d4] => { results := [.lit (.bool true)], args := [d1, d2, d3, d4] }
  | _ => none }
def firmMoreRow : OpenClaim := { program := "ytpfhogbkbodfjab", sum := "e215ee2d2f124a2fa3935c0faf7e602cd2de7f874f312afbc4e56286445ad760", func := "tocsin/tocsinlaw16.FirmMore", spec := "firmMore", apart := false }
def FirmMoreSaid : Prop := firmMoreRow.holds Try.pinned (OpenSpec.ofChange firmMoreSpec)

/-- ITS FALSE NEIGHBOUR: 'it returns false'. Refute it at one input. -/
def firmMoreWrong : ChangeSpec := { name := "firmMore", fn := fun _ => fun
  | [d1, d2, d3, d4] => { results := [.lit (.bool false)], args := [d1, d2, d3, d4] }
  | _ => none }
def FirmMoreWrongFalsely : Prop := firmMoreRow.holds Try.pinned (OpenSpec.ofChange firmMoreWrong)

/-- 'tocsinlaw16.FirmWindows': WHATEVER THE INPUT: true; the input reads as it did. -/
def firmWindowsSpec : ChangeSpec := { name := "firmWindows", fn := fun _ => fun
  | [d1, d2, d3] => { results := [.lit (.bool true)], args := [d1, d2, d3] }
  | _ => none }
def firmWindowsRow : OpenClaim := { program := "ytpfhogbkbodfjab", sum := "e215ee2d2f124a2fa3935c0faf7e602cd2de7f874f312afbc4e56286445ad760", func := "tocsin/tocsinlaw16.FirmWindows", spec := "firmWindows", apart := false }
def FirmWindowsSaid : Prop := firmWindowsRow.holds Try.pinned (OpenSpec.ofChange firmWindowsSpec)

/-- ITS FALSE NEIGHBOUR: 'it returns false'. Refute it at one input. -/
def firmWindowsWrong : ChangeSpec := { name := "firmWindows", fn := fun _ => fun
  | [d1, d2, d3] => { results := [.lit (.bool false)], args := [d1, d2, d3] }
  | _ => none }
def FirmWindowsWrongFalsely : Prop := firmWindowsRow.holds Try.pinned (OpenSpec.ofChange firmWindowsWrong)

/-- 'tocsinlaw16.FirmKnown': WHATEVER THE INPUT: true; the input reads as it did. -/
def firmKnownSpec : ChangeSpec := { name := "firmKnown", fn := fun _ => fun
  | [] => { results := [.lit (.bool true)], args := [] }
  | _ => none }
def firmKnownRow : OpenClaim := { program := "ytpfhogbkbodfjab", sum := "e215ee2d2f124a2fa3935c0faf7e602cd2de7f874f312afbc4e56286445ad760", func := "tocsin/tocsinlaw16.FirmKnown", spec := "firmKnown", apart := false }
def FirmKnownSaid : Prop := firmKnownRow.holds Try.pinned (OpenSpec.ofChange firmKnownSpec)

/-- ITS FALSE NEIGHBOUR: 'it returns false'. Refute it at one input. -/
def firmKnownWrong : ChangeSpec := { name := "firmKnown", fn := fun _ => fun
  | [] => { results := [.lit (.bool false)], args := [] }
  | _ => none }
def FirmKnownWrongFalsely : Prop := firmKnownRow.holds Try.pinned (OpenSpec.ofChange firmKnownWrong)

/-- 'tocsinlaw16.FirmPlays': WHATEVER THE INPUT: true; the input reads as it did. -/
def firmPlaysSpec : ChangeSpec := { name := "firmPlays", fn := fun _ => fun
  | [d1, d2, d3, d4] => { results := [.lit (.bool true)], args := [d1, d2, d3, d4] }
  | _ => none }
def firmPlaysRow : OpenClaim := { program := "ytpfhogbkbodfjab", sum := "e215ee2d2f124a2fa3935c0faf7e602cd2de7f874f312afbc4e56286445ad760", func := "tocsin/tocsinlaw16.FirmPlays", spec := "firmPlays", apart := false }
def FirmPlaysSaid : Prop := firmPlaysRow.holds Try.pinned (OpenSpec.ofChange firmPlaysSpec)

/-- ITS FALSE NEIGHBOUR: 'it returns false'. Refute it at one input. -/
def firmPlaysWrong : ChangeSpec := { name := "firmPlays", fn := fun _ => fun
  | [d1, d2, d3, d4] => { results := [.lit (.bool false)], args := [d1, d2, d3, d4] }
  | _ => none }
def FirmPlaysWrongFalsely : Prop := firmPlaysRow.holds Try.pinned (OpenSpec.ofChange firmPlaysWrong)

/- THE SECOND FORM. 'bulk': how many values and letters a reading holds, each counted each time it is reached (what is shared counts as often as it is met; a slice's spare places count too). A statement '..UptoSaid' is the law's where the arguments, and the package variables that the reading takes, are together of bulk at most 1048576: NARROWER than '..Said'. Prove '..Said' where nothing that the law and all that it calls make is longer than what came in: it says more and counts as full. Else prove '..UptoSaid'. A law counts once. -/
mutual
def uptoBulk {H : Type} : DataW H → Nat
  | .lit (.string bytes) => bytes.length + 1
  | .lit _ => 1
  | .nil => 1
  | .ptr d => uptoBulk d + 1
  | .slice elems spare => uptoBulkAll elems + uptoBulkAll spare + 1
  | .agg parts => uptoBulkAll parts + 1
  | .iface _ d => uptoBulk d + 1
  | .map entries => uptoBulkEntries entries + 1
  | .held _ => 1
def uptoBulkAll {H : Type} : List (DataW H) → Nat
  | [] => 0
  | d :: r => uptoBulk d + uptoBulkAll r
def uptoBulkEntries {H : Type} : List (Lit × DataW H) → Nat
  | [] => 0
  | x :: r => uptoBulkEntry x + uptoBulkEntries r
def uptoBulkEntry {H : Type} : Lit × DataW H → Nat
  | (.string bytes, d) => bytes.length + uptoBulk d + 1
  | (_, d) => uptoBulk d + 1
 end
def uptoSmall : (H : Type) → List (DataW H) → Bool := fun _ ds => decide (uptoBulkAll ds ≤ 1048576)
def OpenSpec.upto (s : _root_.Go.ChangeSpec) : _root_.Go.OpenSpec := { _root_.Go.OpenSpec.ofChange s with cond := some uptoSmall }

/-- 'tocsinlaw17.CleanLeft', WHERE WHAT IT READS IS OF BULK AT MOST 1048576: true; the input reads as it did. -/
def cleanLeftUptoRow : OpenClaim := { program := "ytpfhogbkbodfjab", sum := "e215ee2d2f124a2fa3935c0faf7e602cd2de7f874f312afbc4e56286445ad760", func := "tocsin/tocsinlaw17.CleanLeft", spec := "cleanLeft", apart := false, narrowed := true }
def CleanLeftUptoSaid : Prop := cleanLeftUptoRow.holds Try.pinned (OpenSpec.upto cleanLeftSpec)

/-- 'tocsinlaw17.CleanKnown', WHERE WHAT IT READS IS OF BULK AT MOST 1048576: true; the input reads as it did. -/
def cleanKnownUptoRow : OpenClaim := { program := "ytpfhogbkbodfjab", sum := "e215ee2d2f124a2fa3935c0faf7e602cd2de7f874f312afbc4e56286445ad760", func := "tocsin/tocsinlaw17.CleanKnown", spec := "cleanKnown", apart := false, narrowed := true }
def CleanKnownUptoSaid : Prop := cleanKnownUptoRow.holds Try.pinned (OpenSpec.upto cleanKnownSpec)

/-- 'tocsinlaw17.CleanPlays', WHERE WHAT IT READS IS OF BULK AT MOST 1048576: true; the input reads as it did. -/
def cleanPlaysUptoRow : OpenClaim := { program := "ytpfhogbkbodfjab", sum := "e215ee2d2f124a2fa3935c0faf7e602cd2de7f874f312afbc4e56286445ad760", func := "tocsin/tocsinlaw17.CleanPlays", spec := "cleanPlays", apart := false, narrowed := true }
def CleanPlaysUptoSaid : Prop := cleanPlaysUptoRow.holds Try.pinned (OpenSpec.upto cleanPlaysSpec)

/-- 'tocsinlaw17.CleanWithin', WHERE WHAT IT READS IS OF BULK AT MOST 1048576: true; the input reads as it did. -/
def cleanWithinUptoRow : OpenClaim := { program := "ytpfhogbkbodfjab", sum := "e215ee2d2f124a2fa3935c0faf7e602cd2de7f874f312afbc4e56286445ad760", func := "tocsin/tocsinlaw17.CleanWithin", spec := "cleanWithin", apart := false, narrowed := true }
def CleanWithinUptoSaid : Prop := cleanWithinUptoRow.holds Try.pinned (OpenSpec.upto cleanWithinSpec)

/-- 'tocsinlaw4.ArenaKnown', WHERE WHAT IT READS IS OF BULK AT MOST 1048576: true; the input reads as it did. -/
def arenaKnownUptoRow : OpenClaim := { program := "ytpfhogbkbodfjab", sum := "e215ee2d2f124a2fa3935c0faf7e602cd2de7f874f312afbc4e56286445ad760", func := "tocsin/tocsinlaw4.ArenaKnown", spec := "arenaKnown", apart := false, narrowed := true }
def ArenaKnownUptoSaid : Prop := arenaKnownUptoRow.holds Try.pinned (OpenSpec.upto arenaKnownSpec)

/-- 'tocsinlaw4.ArenaPlays', WHERE WHAT IT READS IS OF BULK AT MOST 1048576: true; the input reads as it did. -/
def arenaPlaysUptoRow : OpenClaim := { program := "ytpfhogbkbodfjab", sum := "e215ee2d2f124a2fa3935c0faf7e602cd2de7f874f312afbc4e56286445ad760", func := "tocsin/tocsinlaw4.ArenaPlays", spec := "arenaPlays", apart := false, narrowed := true }
def ArenaPlaysUptoSaid : Prop := arenaPlaysUptoRow.holds Try.pinned (OpenSpec.upto arenaPlaysSpec)

/-- 'tocsinlaw14.LedgerKnown', WHERE WHAT IT READS IS OF BULK AT MOST 1048576: true; the input reads as it did. -/
def ledgerKnownUptoRow : OpenClaim := { program := "ytpfhogbkbodfjab", sum := "e215ee2d2f124a2fa3935c0faf7e602cd2de7f874f312afbc4e56286445ad760", func := "tocsin/tocsinlaw14.LedgerKnown", spec := "ledgerKnown", apart := false, narrowed := true }
def LedgerKnownUptoSaid : Prop := ledgerKnownUptoRow.holds Try.pinned (OpenSpec.upto ledgerKnownSpec)

/-- 'tocsinlaw14.LedgerPlays', WHERE WHAT IT READS IS OF BULK AT MOST 1048576: true; the input reads as it did. -/
def ledgerPlaysUptoRow : OpenClaim := { program := "ytpfhogbkbodfjab", sum := "e215ee2d2f124a2fa3935c0faf7e602cd2de7f874f312afbc4e56286445ad760", func := "tocsin/tocsinlaw14.LedgerPlays", spec := "ledgerPlays", apart := false, narrowed := true }
def LedgerPlaysUptoSaid : Prop := ledgerPlaysUptoRow.holds Try.pinned (OpenSpec.upto ledgerPlaysSpec)

/-- 'tocsinlaw16.FirmMore', WHERE WHAT IT READS IS OF BULK AT MOST 1048576: true; the input reads as it did. -/
def firmMoreUptoRow : OpenClaim := { program := "ytpfhogbkbodfjab", sum := "e215ee2d2f124a2fa3935c0faf7e602cd2de7f874f312afbc4e56286445ad760", func := "tocsin/tocsinlaw16.FirmMore", spec := "firmMore", apart := false, narrowed := true }
def FirmMoreUptoSaid : Prop := firmMoreUptoRow.holds Try.pinned (OpenSpec.upto firmMoreSpec)

/-- 'tocsinlaw16.FirmWindows', WHERE WHAT IT READS IS OF BULK AT MOST 1048576: true; the input reads as it did. -/
def firmWindowsUptoRow : OpenClaim := { program := "ytpfhogbkbodfjab", sum := "e215ee2d2f124a2fa3935c0faf7e602cd2de7f874f312afbc4e56286445ad760", func := "tocsin/tocsinlaw16.FirmWindows", spec := "firmWindows", apart := false, narrowed := true }
def FirmWindowsUptoSaid : Prop := firmWindowsUptoRow.holds Try.pinned (OpenSpec.upto firmWindowsSpec)

/-- 'tocsinlaw16.FirmKnown', WHERE WHAT IT READS IS OF BULK AT MOST 1048576: true; the input reads as it did. -/
def firmKnownUptoRow : OpenClaim := { program := "ytpfhogbkbodfjab", sum := "e215ee2d2f124a2fa3935c0faf7e602cd2de7f874f312afbc4e56286445ad760", func := "tocsin/tocsinlaw16.FirmKnown", spec := "firmKnown", apart := false, narrowed := true }
def FirmKnownUptoSaid : Prop := firmKnownUptoRow.holds Try.pinned (OpenSpec.upto firmKnownSpec)

/-- 'tocsinlaw16.FirmPlays', WHERE WHAT IT READS IS OF BULK AT MOST 1048576: true; the input reads as it did. -/
def firmPlaysUptoRow : OpenClaim := { program := "ytpfhogbkbodfjab", sum := "e215ee2d2f124a2fa3935c0faf7e602cd2de7f874f312afbc4e56286445ad760", func := "tocsin/tocsinlaw16.FirmPlays", spec := "firmPlays", apart := false, narrowed := true }
def FirmPlaysUptoSaid : Prop := firmPlaysUptoRow.holds Try.pinned (OpenSpec.upto firmPlaysSpec)

end Rows
end Go.Proofs.Ytpfhogbkbodfjab
