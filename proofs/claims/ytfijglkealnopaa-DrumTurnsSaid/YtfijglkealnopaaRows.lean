/-
  No cell of these rows narrows 'for every input' (looked for: loops, veiled, ifaces, maps, wideKeys, modest, calm, conditions, laid).
  DERIVED. THE GIVEN ROWS OF THIS SEAT. 5 by the template 'for every input the law returns true; each argument reads behind the call as it read before'; 0 by the template 'total and deterministic' (their statements: YtfijglkealnopaaTotals.lean).
  GIVEN WITH THE SEED: the statements are not yours to turn. If you find one false, say at which input.
  Laid BY PROGRAM, IN A SANDBOX (cutbox-rows.mjs): the forced cells as the released guide's own fill.sh prints them over the translation 4eefe4a0aa39160f… (all of the seat's roots in one cut). By AI agents, Wed Nov 11 2026. No macro, syntax, notation, axiom, sorry.
-/
import Derived.Test.YtfijglkealnopaaChecked
import GoSem.Claim
import GoSem.ClaimJoined
import GoSem.ClaimMapViews
import Derived.JoinedTies
import Derived.KernelRfl
namespace Go.Proofs.Ytfijglkealnopaa
/- THE CELL 'sum', in the pinned program and in every row, IS THE sha256 OF THE DUMP (.gsa) THAT YtfijglkealnopaaProg.lean LOADS. Nothing in Lean hashes anything: it is a label: what it is worth is what the hold of that sum in a sandbox is worth. -/
noncomputable def Try.pinned : Pinned := { name := "ytfijglkealnopaa", sum := "4eefe4a0aa39160f705bdfa95b4fce54cd18808de5348291db85a57b09359a37", checked := Try.checked }
namespace Rows
def none {H : Type} : Left H := { results := [], args := [] }

/-- 'lariatlaw4.DrumKeeps': WHATEVER THE INPUT: true; the input reads as it did. -/
def drumKeepsSpec : ChangeSpec := { name := "drumKeeps", fn := fun _ => fun
  | [d1, d2, d3, d4, d5] => { results := [.lit (.bool true)], args := [d1, d2, d3, d4, d5] }
  | _ => none }
def drumKeepsRow : OpenClaim := { program := "ytfijglkealnopaa", sum := "4eefe4a0aa39160f705bdfa95b4fce54cd18808de5348291db85a57b09359a37", func := "lariat/lariatlaw4.DrumKeeps", spec := "drumKeeps", inPlace := ["sync/atomic.LoadInt64", "sync/atomic.CompareAndSwapInt64", "sync/atomic.CompareAndSwapUint32", "sync/atomic.LoadUint32"], unfollowed := true, recurses := true, apart := false }
def DrumKeepsSaid : Prop := drumKeepsRow.holds Try.pinned (OpenSpec.ofChange drumKeepsSpec)

/-- ITS FALSE NEIGHBOUR: 'it returns false'. Refute it at one input. -/
def drumKeepsWrong : ChangeSpec := { name := "drumKeeps", fn := fun _ => fun
  | [d1, d2, d3, d4, d5] => { results := [.lit (.bool false)], args := [d1, d2, d3, d4, d5] }
  | _ => none }
def DrumKeepsWrongFalsely : Prop := drumKeepsRow.holds Try.pinned (OpenSpec.ofChange drumKeepsWrong)

/-- 'lariatlaw4.DrumTorn': WHATEVER THE INPUT: true; the input reads as it did. -/
def drumTornSpec : ChangeSpec := { name := "drumTorn", fn := fun _ => fun
  | [d1, d2, d3, d4, d5] => { results := [.lit (.bool true)], args := [d1, d2, d3, d4, d5] }
  | _ => none }
def drumTornRow : OpenClaim := { program := "ytfijglkealnopaa", sum := "4eefe4a0aa39160f705bdfa95b4fce54cd18808de5348291db85a57b09359a37", func := "lariat/lariatlaw4.DrumTorn", spec := "drumTorn", inPlace := ["sync/atomic.LoadInt64", "sync/atomic.CompareAndSwapInt64", "sync/atomic.CompareAndSwapUint32", "sync/atomic.LoadUint32"], unfollowed := true, recurses := true, apart := false }
def DrumTornSaid : Prop := drumTornRow.holds Try.pinned (OpenSpec.ofChange drumTornSpec)

/-- ITS FALSE NEIGHBOUR: 'it returns false'. Refute it at one input. -/
def drumTornWrong : ChangeSpec := { name := "drumTorn", fn := fun _ => fun
  | [d1, d2, d3, d4, d5] => { results := [.lit (.bool false)], args := [d1, d2, d3, d4, d5] }
  | _ => none }
def DrumTornWrongFalsely : Prop := drumTornRow.holds Try.pinned (OpenSpec.ofChange drumTornWrong)

/-- 'lariatlaw4.DrumTurns': WHATEVER THE INPUT: true; the input reads as it did. -/
def drumTurnsSpec : ChangeSpec := { name := "drumTurns", fn := fun _ => fun
  | [d1, d2] => { results := [.lit (.bool true)], args := [d1, d2] }
  | _ => none }
def drumTurnsRow : OpenClaim := { program := "ytfijglkealnopaa", sum := "4eefe4a0aa39160f705bdfa95b4fce54cd18808de5348291db85a57b09359a37", func := "lariat/lariatlaw4.DrumTurns", spec := "drumTurns", inPlace := ["sync/atomic.LoadInt64", "sync/atomic.CompareAndSwapInt64", "sync/atomic.CompareAndSwapUint32", "sync/atomic.LoadUint32", "sync/atomic.StoreInt64"], unfollowed := true, recurses := true, apart := false }
def DrumTurnsSaid : Prop := drumTurnsRow.holds Try.pinned (OpenSpec.ofChange drumTurnsSpec)

/-- ITS FALSE NEIGHBOUR: 'it returns false'. Refute it at one input. -/
def drumTurnsWrong : ChangeSpec := { name := "drumTurns", fn := fun _ => fun
  | [d1, d2] => { results := [.lit (.bool false)], args := [d1, d2] }
  | _ => none }
def DrumTurnsWrongFalsely : Prop := drumTurnsRow.holds Try.pinned (OpenSpec.ofChange drumTurnsWrong)

/-- 'lariatlaw4.DrumBreaks': WHATEVER THE INPUT: true; the input reads as it did. -/
def drumBreaksSpec : ChangeSpec := { name := "drumBreaks", fn := fun _ => fun
  | [d1, d2] => { results := [.lit (.bool true)], args := [d1, d2] }
  | _ => none }
def drumBreaksRow : OpenClaim := { program := "ytfijglkealnopaa", sum := "4eefe4a0aa39160f705bdfa95b4fce54cd18808de5348291db85a57b09359a37", func := "lariat/lariatlaw4.DrumBreaks", spec := "drumBreaks", inPlace := ["sync/atomic.LoadInt64", "sync/atomic.CompareAndSwapInt64", "sync/atomic.CompareAndSwapUint32", "sync/atomic.LoadUint32", "sync/atomic.StoreInt64"], unfollowed := true, recurses := true, apart := false }
def DrumBreaksSaid : Prop := drumBreaksRow.holds Try.pinned (OpenSpec.ofChange drumBreaksSpec)

/-- ITS FALSE NEIGHBOUR: 'it returns false'. Refute it at one input. -/
def drumBreaksWrong : ChangeSpec := { name := "drumBreaks", fn := fun _ => fun
  | [d1, d2] => { results := [.lit (.bool false)], args := [d1, d2] }
  | _ => none }
def DrumBreaksWrongFalsely : Prop := drumBreaksRow.holds Try.pinned (OpenSpec.ofChange drumBreaksWrong)

/-- 'lariatlaw4.DrumKnown': WHATEVER THE INPUT: true; the input reads as it did. -/
def drumKnownSpec : ChangeSpec := { name := "drumKnown", fn := fun _ => fun
  | [] => { results := [.lit (.bool true)], args := [] }
  | _ => none }
def drumKnownRow : OpenClaim := { program := "ytfijglkealnopaa", sum := "4eefe4a0aa39160f705bdfa95b4fce54cd18808de5348291db85a57b09359a37", func := "lariat/lariatlaw4.DrumKnown", spec := "drumKnown", inPlace := ["sync/atomic.LoadInt64", "sync/atomic.CompareAndSwapInt64", "sync/atomic.CompareAndSwapUint32", "sync/atomic.LoadUint32", "sync/atomic.StoreInt64"], unfollowed := true, recurses := true, apart := false }
def DrumKnownSaid : Prop := drumKnownRow.holds Try.pinned (OpenSpec.ofChange drumKnownSpec)

/-- ITS FALSE NEIGHBOUR: 'it returns false'. Refute it at one input. -/
def drumKnownWrong : ChangeSpec := { name := "drumKnown", fn := fun _ => fun
  | [] => { results := [.lit (.bool false)], args := [] }
  | _ => none }
def DrumKnownWrongFalsely : Prop := drumKnownRow.holds Try.pinned (OpenSpec.ofChange drumKnownWrong)

/- THE SECOND FORM. 'bulk': how many values and letters a reading holds, each counted each time it is reached (what is shared counts as often as it is met; a slice's spare places count too). A statement '..UptoSaid' is the law's where the arguments, and the package variables that the reading takes, are together of bulk at most 1048576: NARROWER than '..Said'. Prove '..Said' where nothing that the law and all that it calls make is longer than what came in: it says more and counts as full. Else prove '..UptoSaid'. A law counts once. -/
mutual
def uptoBulk {H : Type} : DataW H → Nat
  | .lit (.string bytes) => bytes.length + 1
  | .lit _ => 1
  | .nil => 1
  | .ptr d => uptoBulk d + 1
  | .slice elems spare => uptoBulkAll elems + uptoBulkAll spare + 1
  | .agg parts => uptoBulkAll parts + 1
  | .iface _ d => uptoBulk d + 1
  | .map entries => uptoBulkEntries entries + 1
  | .held _ => 1
def uptoBulkAll {H : Type} : List (DataW H) → Nat
  | [] => 0
  | d :: r => uptoBulk d + uptoBulkAll r
def uptoBulkEntries {H : Type} : List (Lit × DataW H) → Nat
  | [] => 0
  | x :: r => uptoBulkEntry x + uptoBulkEntries r
def uptoBulkEntry {H : Type} : Lit × DataW H → Nat
  | (.string bytes, d) => bytes.length + uptoBulk d + 1
  | (_, d) => uptoBulk d + 1
 end
def uptoSmall : (H : Type) → List (DataW H) → Bool := fun _ ds => decide (uptoBulkAll ds ≤ 1048576)
def OpenSpec.upto (s : _root_.Go.ChangeSpec) : _root_.Go.OpenSpec := { _root_.Go.OpenSpec.ofChange s with cond := some uptoSmall }

/-- 'lariatlaw4.DrumKeeps', WHERE WHAT IT READS IS OF BULK AT MOST 1048576: true; the input reads as it did. -/
def drumKeepsUptoRow : OpenClaim := { program := "ytfijglkealnopaa", sum := "4eefe4a0aa39160f705bdfa95b4fce54cd18808de5348291db85a57b09359a37", func := "lariat/lariatlaw4.DrumKeeps", spec := "drumKeeps", inPlace := ["sync/atomic.LoadInt64", "sync/atomic.CompareAndSwapInt64", "sync/atomic.CompareAndSwapUint32", "sync/atomic.LoadUint32"], unfollowed := true, recurses := true, apart := false, narrowed := true }
def DrumKeepsUptoSaid : Prop := drumKeepsUptoRow.holds Try.pinned (OpenSpec.upto drumKeepsSpec)

/-- 'lariatlaw4.DrumTorn', WHERE WHAT IT READS IS OF BULK AT MOST 1048576: true; the input reads as it did. -/
def drumTornUptoRow : OpenClaim := { program := "ytfijglkealnopaa", sum := "4eefe4a0aa39160f705bdfa95b4fce54cd18808de5348291db85a57b09359a37", func := "lariat/lariatlaw4.DrumTorn", spec := "drumTorn", inPlace := ["sync/atomic.LoadInt64", "sync/atomic.CompareAndSwapInt64", "sync/atomic.CompareAndSwapUint32", "sync/atomic.LoadUint32"], unfollowed := true, recurses := true, apart := false, narrowed := true }
def DrumTornUptoSaid : Prop := drumTornUptoRow.holds Try.pinned (OpenSpec.upto drumTornSpec)

/-- 'lariatlaw4.DrumTurns', WHERE WHAT IT READS IS OF BULK AT MOST 1048576: true; the input reads as it did. -/
def drumTurnsUptoRow : OpenClaim := { program := "ytfijglkealnopaa", sum := "4eefe4a0aa39160f705bdfa95b4fce54cd18808de5348291db85a57b09359a37", func := "lariat/lariatlaw4.DrumTurns", spec := "drumTurns", inPlace := ["sync/atomic.LoadInt64", "sync/atomic.CompareAndSwapInt64", "sync/atomic.CompareAndSwapUint32", "sync/atomic.LoadUint32", "sync/atomic.StoreInt64"], unfollowed := true, recurses := true, apart := false, narrowed := true }
def DrumTurnsUptoSaid : Prop := drumTurnsUptoRow.holds Try.pinned (OpenSpec.upto drumTurnsSpec)

/-- 'lariatlaw4.DrumBreaks', WHERE WHAT IT READS IS OF BULK AT MOST 1048576: true; the input reads as it did. -/
def drumBreaksUptoRow : OpenClaim := { program := "ytfijglkealnopaa", sum := "4eefe4a0aa39160f705bdfa95b4fce54cd18808de5348291db85a57b09359a37", func := "lariat/lariatlaw4.DrumBreaks", spec := "drumBreaks", inPlace := ["sync/atomic.LoadInt64", "sync/atomic.CompareAndSwapInt64", "sync/atomic.CompareAndSwapUint32", "sync/atomic.LoadUint32", "sync/atomic.StoreInt64"], unfollowed := true, recurses := true, apart := false, narrowed := true }
def DrumBreaksUptoSaid : Prop := drumBreaksUptoRow.holds Try.pinned (OpenSpec.upto drumBreaksSpec)

/-- 'lariatlaw4.DrumKnown', WHERE WHAT IT READS IS OF BULK AT MOST 1048576: true; the input reads as it did. -/
def drumKnownUptoRow : OpenClaim := { program := "ytfijglkealnopaa", sum := "4eefe4a0aa39160f705bdfa95b4fce54cd18808de5348291db85a57b09359a37", func := "lariat/lariatlaw4.DrumKnown", spec := "drumKnown", inPlace := ["sync/atomic.LoadInt64", "sync/atomic.CompareAndSwapInt64", "sync/atomic.CompareAndSwapUint32", "sync/atomic.LoadUint32", "sync/atomic.StoreInt64"], unfollowed := true, recurses := true, apart := false, narrowed := true }
def DrumKnownUptoSaid : Prop := drumKnownUptoRow.holds Try.pinned (OpenSpec.upto drumKnownSpec)

end Rows
end Go.Proofs.Ytfijglkealnopaa
