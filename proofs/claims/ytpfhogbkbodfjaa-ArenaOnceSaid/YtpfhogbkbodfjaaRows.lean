/-
  No cell of these rows narrows 'for every input' (looked for: loops, veiled, ifaces, maps, wideKeys, modest, calm, conditions, laid).
  DERIVED. THE GIVEN ROWS OF THIS SEAT. 12 by the template 'for every input the law returns true; each argument reads behind the call as it read before'; 0 by the template 'total and deterministic' (their statements: YtpfhogbkbodfjaaTotals.lean).
  GIVEN WITH THE SEED: the statements are not yours to turn. If you find one false, say at which input.
  Laid BY PROGRAM, IN A SANDBOX (cutbox-rows.mjs): the forced cells as the released guide's own fill.sh prints them over the translation 8b6df72f5ef3c41c… (all of the seat's roots in one cut). By AI agents, Wed Nov 11 2026. No macro, syntax, notation, axiom, sorry.
-/
import Derived.Test.YtpfhogbkbodfjaaChecked
import GoSem.Claim
import GoSem.ClaimJoined
import GoSem.ClaimMapViews
import Derived.JoinedTies
import Derived.KernelRfl
namespace Go.Proofs.Ytpfhogbkbodfjaa
/- THE CELL 'sum', in the pinned program and in every row, IS THE sha256 OF THE DUMP (.gsa) THAT YtpfhogbkbodfjaaProg.lean LOADS. Nothing in Lean hashes anything: it is a label: what it is worth is what the hold of that sum in a sandbox is worth. -/
noncomputable def Try.pinned : Pinned := { name := "ytpfhogbkbodfjaa", sum := "8b6df72f5ef3c41c3515a2beb8ed685956ae228e5896a81df455e2d10ba9054b", checked := Try.checked }
namespace Rows
def none {H : Type} : Left H := { results := [], args := [] }

/-- 'tocsinlaw15.FateOnce': WHATEVER THE INPUT: true; the input reads as it did. -/
def fateOnceSpec : ChangeSpec := { name := "fateOnce", fn := fun _ => fun
  | [d1, d2] => { results := [.lit (.bool true)], args := [d1, d2] }
  | _ => none }
def fateOnceRow : OpenClaim := { program := "ytpfhogbkbodfjaa", sum := "8b6df72f5ef3c41c3515a2beb8ed685956ae228e5896a81df455e2d10ba9054b", func := "tocsin/tocsinlaw15.FateOnce", spec := "fateOnce", plainKeys := false, apart := false }
def FateOnceSaid : Prop := fateOnceRow.holds Try.pinned (OpenSpec.ofChange fateOnceSpec)

/-- ITS FALSE NEIGHBOUR: 'it returns false'. Refute it at one input. -/
def fateOnceWrong : ChangeSpec := { name := "fateOnce", fn := fun _ => fun
  | [d1, d2] => { results := [.lit (.bool false)], args := [d1, d2] }
  | _ => none }
def FateOnceWrongFalsely : Prop := fateOnceRow.holds Try.pinned (OpenSpec.ofChange fateOnceWrong)

/-- 'tocsinlaw14.LedgerTills': WHATEVER THE INPUT: true; the input reads as it did. -/
def ledgerTillsSpec : ChangeSpec := { name := "ledgerTills", fn := fun _ => fun
  | [d1, d2] => { results := [.lit (.bool true)], args := [d1, d2] }
  | _ => none }
def ledgerTillsRow : OpenClaim := { program := "ytpfhogbkbodfjaa", sum := "8b6df72f5ef3c41c3515a2beb8ed685956ae228e5896a81df455e2d10ba9054b", func := "tocsin/tocsinlaw14.LedgerTills", spec := "ledgerTills", plainKeys := false, apart := false }
def LedgerTillsSaid : Prop := ledgerTillsRow.holds Try.pinned (OpenSpec.ofChange ledgerTillsSpec)

/-- ITS FALSE NEIGHBOUR: 'it returns false'. Refute it at one input. -/
def ledgerTillsWrong : ChangeSpec := { name := "ledgerTills", fn := fun _ => fun
  | [d1, d2] => { results := [.lit (.bool false)], args := [d1, d2] }
  | _ => none }
def LedgerTillsWrongFalsely : Prop := ledgerTillsRow.holds Try.pinned (OpenSpec.ofChange ledgerTillsWrong)

/-- 'tocsinlaw7.RingLast': WHATEVER THE INPUT: true; the input reads as it did. -/
def ringLastSpec : ChangeSpec := { name := "ringLast", fn := fun _ => fun
  | [d1, d2, d3] => { results := [.lit (.bool true)], args := [d1, d2, d3] }
  | _ => none }
def ringLastRow : OpenClaim := { program := "ytpfhogbkbodfjaa", sum := "8b6df72f5ef3c41c3515a2beb8ed685956ae228e5896a81df455e2d10ba9054b", func := "tocsin/tocsinlaw7.RingLast", spec := "ringLast", plainKeys := false, apart := false }
def RingLastSaid : Prop := ringLastRow.holds Try.pinned (OpenSpec.ofChange ringLastSpec)

/-- ITS FALSE NEIGHBOUR: 'it returns false'. Refute it at one input. -/
def ringLastWrong : ChangeSpec := { name := "ringLast", fn := fun _ => fun
  | [d1, d2, d3] => { results := [.lit (.bool false)], args := [d1, d2, d3] }
  | _ => none }
def RingLastWrongFalsely : Prop := ringLastRow.holds Try.pinned (OpenSpec.ofChange ringLastWrong)

/-- 'tocsinlaw4.ArenaOnce': WHATEVER THE INPUT: true; the input reads as it did. -/
def arenaOnceSpec : ChangeSpec := { name := "arenaOnce", fn := fun _ => fun
  | [d1, d2] => { results := [.lit (.bool true)], args := [d1, d2] }
  | _ => none }
def arenaOnceRow : OpenClaim := { program := "ytpfhogbkbodfjaa", sum := "8b6df72f5ef3c41c3515a2beb8ed685956ae228e5896a81df455e2d10ba9054b", func := "tocsin/tocsinlaw4.ArenaOnce", spec := "arenaOnce", plainKeys := false, apart := false }
def ArenaOnceSaid : Prop := arenaOnceRow.holds Try.pinned (OpenSpec.ofChange arenaOnceSpec)

/-- ITS FALSE NEIGHBOUR: 'it returns false'. Refute it at one input. -/
def arenaOnceWrong : ChangeSpec := { name := "arenaOnce", fn := fun _ => fun
  | [d1, d2] => { results := [.lit (.bool false)], args := [d1, d2] }
  | _ => none }
def ArenaOnceWrongFalsely : Prop := arenaOnceRow.holds Try.pinned (OpenSpec.ofChange arenaOnceWrong)

/-- 'tocsinlaw4.ArenaFull': WHATEVER THE INPUT: true; the input reads as it did. -/
def arenaFullSpec : ChangeSpec := { name := "arenaFull", fn := fun _ => fun
  | [d1, d2] => { results := [.lit (.bool true)], args := [d1, d2] }
  | _ => none }
def arenaFullRow : OpenClaim := { program := "ytpfhogbkbodfjaa", sum := "8b6df72f5ef3c41c3515a2beb8ed685956ae228e5896a81df455e2d10ba9054b", func := "tocsin/tocsinlaw4.ArenaFull", spec := "arenaFull", plainKeys := false, apart := false }
def ArenaFullSaid : Prop := arenaFullRow.holds Try.pinned (OpenSpec.ofChange arenaFullSpec)

/-- ITS FALSE NEIGHBOUR: 'it returns false'. Refute it at one input. -/
def arenaFullWrong : ChangeSpec := { name := "arenaFull", fn := fun _ => fun
  | [d1, d2] => { results := [.lit (.bool false)], args := [d1, d2] }
  | _ => none }
def ArenaFullWrongFalsely : Prop := arenaFullRow.holds Try.pinned (OpenSpec.ofChange arenaFullWrong)

/-- 'tocsinlaw15.FateKnown': WHATEVER THE INPUT: true; the input reads as it did. -/
def fateKnownSpec : ChangeSpec := { name := "fateKnown", fn := fun _ => fun
  | [] => { results := [.lit (.bool true)], args := [] }
  | _ => none }
def fateKnownRow : OpenClaim := { program := "ytpfhogbkbodfjaa", sum := "8b6df72f5ef3c41c3515a2beb8ed685956ae228e5896a81df455e2d10ba9054b", func := "tocsin/tocsinlaw15.FateKnown", spec := "fateKnown", plainKeys := false, apart := false }
def FateKnownSaid : Prop := fateKnownRow.holds Try.pinned (OpenSpec.ofChange fateKnownSpec)

/-- ITS FALSE NEIGHBOUR: 'it returns false'. Refute it at one input. -/
def fateKnownWrong : ChangeSpec := { name := "fateKnown", fn := fun _ => fun
  | [] => { results := [.lit (.bool false)], args := [] }
  | _ => none }
def FateKnownWrongFalsely : Prop := fateKnownRow.holds Try.pinned (OpenSpec.ofChange fateKnownWrong)

/-- 'tocsinlaw15.FatePlays': WHATEVER THE INPUT: true; the input reads as it did. -/
def fatePlaysSpec : ChangeSpec := { name := "fatePlays", fn := fun _ => fun
  | [d1, d2, d3] => { results := [.lit (.bool true)], args := [d1, d2, d3] }
  | _ => none }
def fatePlaysRow : OpenClaim := { program := "ytpfhogbkbodfjaa", sum := "8b6df72f5ef3c41c3515a2beb8ed685956ae228e5896a81df455e2d10ba9054b", func := "tocsin/tocsinlaw15.FatePlays", spec := "fatePlays", plainKeys := false, apart := false }
def FatePlaysSaid : Prop := fatePlaysRow.holds Try.pinned (OpenSpec.ofChange fatePlaysSpec)

/-- ITS FALSE NEIGHBOUR: 'it returns false'. Refute it at one input. -/
def fatePlaysWrong : ChangeSpec := { name := "fatePlays", fn := fun _ => fun
  | [d1, d2, d3] => { results := [.lit (.bool false)], args := [d1, d2, d3] }
  | _ => none }
def FatePlaysWrongFalsely : Prop := fatePlaysRow.holds Try.pinned (OpenSpec.ofChange fatePlaysWrong)

/-- 'tocsinlaw7.RingKnown': WHATEVER THE INPUT: true; the input reads as it did. -/
def ringKnownSpec : ChangeSpec := { name := "ringKnown", fn := fun _ => fun
  | [] => { results := [.lit (.bool true)], args := [] }
  | _ => none }
def ringKnownRow : OpenClaim := { program := "ytpfhogbkbodfjaa", sum := "8b6df72f5ef3c41c3515a2beb8ed685956ae228e5896a81df455e2d10ba9054b", func := "tocsin/tocsinlaw7.RingKnown", spec := "ringKnown", plainKeys := false, apart := false }
def RingKnownSaid : Prop := ringKnownRow.holds Try.pinned (OpenSpec.ofChange ringKnownSpec)

/-- ITS FALSE NEIGHBOUR: 'it returns false'. Refute it at one input. -/
def ringKnownWrong : ChangeSpec := { name := "ringKnown", fn := fun _ => fun
  | [] => { results := [.lit (.bool false)], args := [] }
  | _ => none }
def RingKnownWrongFalsely : Prop := ringKnownRow.holds Try.pinned (OpenSpec.ofChange ringKnownWrong)

/-- 'tocsinlaw7.RingPlays': WHATEVER THE INPUT: true; the input reads as it did. -/
def ringPlaysSpec : ChangeSpec := { name := "ringPlays", fn := fun _ => fun
  | [d1, d2, d3] => { results := [.lit (.bool true)], args := [d1, d2, d3] }
  | _ => none }
def ringPlaysRow : OpenClaim := { program := "ytpfhogbkbodfjaa", sum := "8b6df72f5ef3c41c3515a2beb8ed685956ae228e5896a81df455e2d10ba9054b", func := "tocsin/tocsinlaw7.RingPlays", spec := "ringPlays", plainKeys := false, apart := false }
def RingPlaysSaid : Prop := ringPlaysRow.holds Try.pinned (OpenSpec.ofChange ringPlaysSpec)

/-- ITS FALSE NEIGHBOUR: 'it returns false'. Refute it at one input. -/
def ringPlaysWrong : ChangeSpec := { name := "ringPlays", fn := fun _ => fun
  | [d1, d2, d3] => { results := [.lit (.bool false)], args := [d1, d2, d3] }
  | _ => none }
def RingPlaysWrongFalsely : Prop := ringPlaysRow.holds Try.pinned (OpenSpec.ofChange ringPlaysWrong)

/-- 'tocsinlaw7.RingCounts': WHATEVER THE INPUT: true; the input reads as it did. -/
def ringCountsSpec : ChangeSpec := { name := "ringCounts", fn := fun _ => fun
  | [d1, d2] => { results := [.lit (.bool true)], args := [d1, d2] }
  | _ => none }
def ringCountsRow : OpenClaim := { program := "ytpfhogbkbodfjaa", sum := "8b6df72f5ef3c41c3515a2beb8ed685956ae228e5896a81df455e2d10ba9054b", func := "tocsin/tocsinlaw7.RingCounts", spec := "ringCounts", plainKeys := false, apart := false }
def RingCountsSaid : Prop := ringCountsRow.holds Try.pinned (OpenSpec.ofChange ringCountsSpec)

/-- ITS FALSE NEIGHBOUR: 'it returns false'. Refute it at one input. -/
def ringCountsWrong : ChangeSpec := { name := "ringCounts", fn := fun _ => fun
  | [d1, d2] => { results := [.lit (.bool false)], args := [d1, d2] }
  | _ => none }
def RingCountsWrongFalsely : Prop := ringCountsRow.holds Try.pinned (OpenSpec.ofChange ringCountsWrong)

/-- 'tocsinlaw14.LedgerApart': WHATEVER THE INPUT: true; the input reads as it did. -/
def ledgerApartSpec : ChangeSpec := { name := "ledgerApart", fn := fun _ => fun
  | [d] => { results := [.lit (.bool true)], args := [d] }
  | _ => none }
def ledgerApartRow : OpenClaim := { program := "ytpfhogbkbodfjaa", sum := "8b6df72f5ef3c41c3515a2beb8ed685956ae228e5896a81df455e2d10ba9054b", func := "tocsin/tocsinlaw14.LedgerApart", spec := "ledgerApart", plainKeys := false, apart := false }
def LedgerApartSaid : Prop := ledgerApartRow.holds Try.pinned (OpenSpec.ofChange ledgerApartSpec)

/-- ITS FALSE NEIGHBOUR: 'it returns false'. Refute it at one input. -/
def ledgerApartWrong : ChangeSpec := { name := "ledgerApart", fn := fun _ => fun
  | [d] => { results := [.lit (.bool false)], args := [d] }
  | _ => none }
def LedgerApartWrongFalsely : Prop := ledgerApartRow.holds Try.pinned (OpenSpec.ofChange ledgerApartWrong)

/-- 'tocsinlaw4.ArenaApart': WHATEVER THE INPUT: true; the input reads as it did. -/
def arenaApartSpec : ChangeSpec := { name := "arenaApart", fn := fun _ => fun
  | [d1, d2, d3] => { results := [.lit (.bool true)], args := [d1, d2, d3] }
  | _ => none }
def arenaApartRow : OpenClaim := { program := "ytpfhogbkbodfjaa", sum := "8b6df72f5ef3c41c3515a2beb8ed685956ae228e5896a81df455e2d10ba9054b", func := "tocsin/tocsinlaw4.ArenaApart", spec := "arenaApart", plainKeys := false, apart := false }
def ArenaApartSaid : Prop := arenaApartRow.holds Try.pinned (OpenSpec.ofChange arenaApartSpec)

/-- ITS FALSE NEIGHBOUR: 'it returns false'. Refute it at one input. -/
def arenaApartWrong : ChangeSpec := { name := "arenaApart", fn := fun _ => fun
  | [d1, d2, d3] => { results := [.lit (.bool false)], args := [d1, d2, d3] }
  | _ => none }
def ArenaApartWrongFalsely : Prop := arenaApartRow.holds Try.pinned (OpenSpec.ofChange arenaApartWrong)

/- THE SECOND FORM. 'bulk': how many values and letters a reading holds, each counted each time it is reached (what is shared counts as often as it is met; a slice's spare places count too). A statement '..UptoSaid' is the law's where the arguments, and the package variables that the reading takes, are together of bulk at most 1048576: NARROWER than '..Said'. Prove '..Said' where nothing that the law and all that it calls make is longer than what came in: it says more and counts as full. Else prove '..UptoSaid'. A law counts once. -/
mutual
def uptoBulk {H : Type} : DataW H → Nat
  | .lit (.string bytes) => bytes.length + 1
  | .lit _ => 1
  | .nil => 1
  | .ptr d => uptoBulk d + 1
  | .slice elems spare => uptoBulkAll elems + uptoBulkAll spare + 1
  | .agg parts => uptoBulkAll parts + 1
  | .iface _ d => uptoBulk d + 1
  | .map entries => uptoBulkEntries entries + 1
  | .held _ => 1
def uptoBulkAll {H : Type} : List (DataW H) → Nat
  | [] => 0
  | d :: r => uptoBulk d + uptoBulkAll r
def uptoBulkEntries {H : Type} : List (Lit × DataW H) → Nat
  | [] => 0
  | x :: r => uptoBulkEntry x + uptoBulkEntries r
def uptoBulkEntry {H : Type} : Lit × DataW H → Nat
  | (.string bytes, d) => bytes.length + uptoBulk d + 1
  | (_, d) => uptoBulk d + 1
 end
def uptoSmall : (H : Type) → List (DataW H) → Bool := fun _ ds => decide (uptoBulkAll ds ≤ 1048576)
def OpenSpec.upto (s : _root_.Go.ChangeSpec) : _root_.Go.OpenSpec := { _root_.Go.OpenSpec.ofChange s with cond := some uptoSmall }

/-- 'tocsinlaw15.FateOnce', WHERE WHAT IT READS IS OF BULK AT MOST 1048576: true; the input reads as it did. -/
def fateOnceUptoRow : OpenClaim := { program := "ytpfhogbkbodfjaa", sum := "8b6df72f5ef3c41c3515a2beb8ed685956ae228e5896a81df455e2d10ba9054b", func := "tocsin/tocsinlaw15.FateOnce", spec := "fateOnce", plainKeys := false, apart := false, narrowed := true }
def FateOnceUptoSaid : Prop := fateOnceUptoRow.holds Try.pinned (OpenSpec.upto fateOnceSpec)

/-- 'tocsinlaw14.LedgerTills', WHERE WHAT IT READS IS OF BULK AT MOST 1048576: true; the input reads as it did. -/
def ledgerTillsUptoRow : OpenClaim := { program := "ytpfhogbkbodfjaa", sum := "8b6df72f5ef3c41c3515a2beb8ed685956ae228e5896a81df455e2d10ba9054b", func := "tocsin/tocsinlaw14.LedgerTills", spec := "ledgerTills", plainKeys := false, apart := false, narrowed := true }
def LedgerTillsUptoSaid : Prop := ledgerTillsUptoRow.holds Try.pinned (OpenSpec.upto ledgerTillsSpec)

/-- 'tocsinlaw7.RingLast', WHERE WHAT IT READS IS OF BULK AT MOST 1048576: true; the input reads as it did. -/
def ringLastUptoRow : OpenClaim := { program := "ytpfhogbkbodfjaa", sum := "8b6df72f5ef3c41c3515a2beb8ed685956ae228e5896a81df455e2d10ba9054b", func := "tocsin/tocsinlaw7.RingLast", spec := "ringLast", plainKeys := false, apart := false, narrowed := true }
def RingLastUptoSaid : Prop := ringLastUptoRow.holds Try.pinned (OpenSpec.upto ringLastSpec)

/-- 'tocsinlaw4.ArenaOnce', WHERE WHAT IT READS IS OF BULK AT MOST 1048576: true; the input reads as it did. -/
def arenaOnceUptoRow : OpenClaim := { program := "ytpfhogbkbodfjaa", sum := "8b6df72f5ef3c41c3515a2beb8ed685956ae228e5896a81df455e2d10ba9054b", func := "tocsin/tocsinlaw4.ArenaOnce", spec := "arenaOnce", plainKeys := false, apart := false, narrowed := true }
def ArenaOnceUptoSaid : Prop := arenaOnceUptoRow.holds Try.pinned (OpenSpec.upto arenaOnceSpec)

/-- 'tocsinlaw4.ArenaFull', WHERE WHAT IT READS IS OF BULK AT MOST 1048576: true; the input reads as it did. -/
def arenaFullUptoRow : OpenClaim := { program := "ytpfhogbkbodfjaa", sum := "8b6df72f5ef3c41c3515a2beb8ed685956ae228e5896a81df455e2d10ba9054b", func := "tocsin/tocsinlaw4.ArenaFull", spec := "arenaFull", plainKeys := false, apart := false, narrowed := true }
def ArenaFullUptoSaid : Prop := arenaFullUptoRow.holds Try.pinned (OpenSpec.upto arenaFullSpec)

/-- 'tocsinlaw15.FateKnown', WHERE WHAT IT READS IS OF BULK AT MOST 1048576: true; the input reads as it did. -/
def fateKnownUptoRow : OpenClaim := { program := "ytpfhogbkbodfjaa", sum := "8b6df72f5ef3c41c3515a2beb8ed685956ae228e5896a81df455e2d10ba9054b", func := "tocsin/tocsinlaw15.FateKnown", spec := "fateKnown", plainKeys := false, apart := false, narrowed := true }
def FateKnownUptoSaid : Prop := fateKnownUptoRow.holds Try.pinned (OpenSpec.upto fateKnownSpec)

/-- 'tocsinlaw15.FatePlays', WHERE WHAT IT READS IS OF BULK AT MOST 1048576: true; the input reads as it did. -/
def fatePlaysUptoRow : OpenClaim := { program := "ytpfhogbkbodfjaa", sum := "8b6df72f5ef3c41c3515a2beb8ed685956ae228e5896a81df455e2d10ba9054b", func := "tocsin/tocsinlaw15.FatePlays", spec := "fatePlays", plainKeys := false, apart := false, narrowed := true }
def FatePlaysUptoSaid : Prop := fatePlaysUptoRow.holds Try.pinned (OpenSpec.upto fatePlaysSpec)

/-- 'tocsinlaw7.RingKnown', WHERE WHAT IT READS IS OF BULK AT MOST 1048576: true; the input reads as it did. -/
def ringKnownUptoRow : OpenClaim := { program := "ytpfhogbkbodfjaa", sum := "8b6df72f5ef3c41c3515a2beb8ed685956ae228e5896a81df455e2d10ba9054b", func := "tocsin/tocsinlaw7.RingKnown", spec := "ringKnown", plainKeys := false, apart := false, narrowed := true }
def RingKnownUptoSaid : Prop := ringKnownUptoRow.holds Try.pinned (OpenSpec.upto ringKnownSpec)

/-- 'tocsinlaw7.RingPlays', WHERE WHAT IT READS IS OF BULK AT MOST 1048576: true; the input reads as it did. -/
def ringPlaysUptoRow : OpenClaim := { program := "ytpfhogbkbodfjaa", sum := "8b6df72f5ef3c41c3515a2beb8ed685956ae228e5896a81df455e2d10ba9054b", func := "tocsin/tocsinlaw7.RingPlays", spec := "ringPlays", plainKeys := false, apart := false, narrowed := true }
def RingPlaysUptoSaid : Prop := ringPlaysUptoRow.holds Try.pinned (OpenSpec.upto ringPlaysSpec)

/-- 'tocsinlaw7.RingCounts', WHERE WHAT IT READS IS OF BULK AT MOST 1048576: true; the input reads as it did. -/
def ringCountsUptoRow : OpenClaim := { program := "ytpfhogbkbodfjaa", sum := "8b6df72f5ef3c41c3515a2beb8ed685956ae228e5896a81df455e2d10ba9054b", func := "tocsin/tocsinlaw7.RingCounts", spec := "ringCounts", plainKeys := false, apart := false, narrowed := true }
def RingCountsUptoSaid : Prop := ringCountsUptoRow.holds Try.pinned (OpenSpec.upto ringCountsSpec)

/-- 'tocsinlaw14.LedgerApart', WHERE WHAT IT READS IS OF BULK AT MOST 1048576: true; the input reads as it did. -/
def ledgerApartUptoRow : OpenClaim := { program := "ytpfhogbkbodfjaa", sum := "8b6df72f5ef3c41c3515a2beb8ed685956ae228e5896a81df455e2d10ba9054b", func := "tocsin/tocsinlaw14.LedgerApart", spec := "ledgerApart", plainKeys := false, apart := false, narrowed := true }
def LedgerApartUptoSaid : Prop := ledgerApartUptoRow.holds Try.pinned (OpenSpec.upto ledgerApartSpec)

/-- 'tocsinlaw4.ArenaApart', WHERE WHAT IT READS IS OF BULK AT MOST 1048576: true; the input reads as it did. -/
def arenaApartUptoRow : OpenClaim := { program := "ytpfhogbkbodfjaa", sum := "8b6df72f5ef3c41c3515a2beb8ed685956ae228e5896a81df455e2d10ba9054b", func := "tocsin/tocsinlaw4.ArenaApart", spec := "arenaApart", plainKeys := false, apart := false, narrowed := true }
def ArenaApartUptoSaid : Prop := arenaApartUptoRow.holds Try.pinned (OpenSpec.upto arenaApartSpec)

end Rows
end Go.Proofs.Ytpfhogbkbodfjaa
