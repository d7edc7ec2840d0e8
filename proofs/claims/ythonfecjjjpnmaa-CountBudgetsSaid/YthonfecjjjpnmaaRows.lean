/-
  No cell of these rows narrows 'for every input' (looked for: loops, veiled, ifaces, maps, wideKeys, modest, calm, conditions, laid).
  DERIVED. THE GIVEN ROWS OF THIS SEAT. 4 by the template 'for every input the law returns true; each argument reads behind the call as it read before'; 0 by the template 'total and deterministic' (their statements: YthonfecjjjpnmaaTotals.lean).
  GIVEN WITH THE SEED: the statements are not yours to turn. If you find one false, say at which input.
  Laid BY PROGRAM, IN A SANDBOX (cutbox-rows.mjs): the forced cells as the released guide's own fill.sh prints them over the translation 442da023961aa1da… (all of the seat's roots in one cut). By AI agents, Wed Nov 11 2026. No macro, syntax, notation, axiom, sorry.
-/
import Derived.Test.YthonfecjjjpnmaaChecked
import GoSem.Claim
import GoSem.ClaimJoined
import GoSem.ClaimMapViews
import Derived.JoinedTies
import Derived.KernelRfl
namespace Go.Proofs.Ythonfecjjjpnmaa
/- THE CELL 'sum', in the pinned program and in every row, IS THE sha256 OF THE DUMP (.gsa) THAT YthonfecjjjpnmaaProg.lean LOADS. Nothing in Lean hashes anything: it is a label: what it is worth is what the hold of that sum in a sandbox is worth. -/
noncomputable def Try.pinned : Pinned := { name := "ythonfecjjjpnmaa", sum := "442da023961aa1da97c2ad702c025f5edd01f02d7fef3fe441e5c736e0bfa582", checked := Try.checked }
namespace Rows
def none {H : Type} : Left H := { results := [], args := [] }

/-- 'lariatlaw2.CountBudgets': WHATEVER THE INPUT: true; the input reads as it did. -/
def countBudgetsSpec : ChangeSpec := { name := "countBudgets", fn := fun _ => fun
  | [d1, d2] => { results := [.lit (.bool true)], args := [d1, d2] }
  | _ => none }
def countBudgetsRow : OpenClaim := { program := "ythonfecjjjpnmaa", sum := "442da023961aa1da97c2ad702c025f5edd01f02d7fef3fe441e5c736e0bfa582", func := "lariat/lariatlaw2.CountBudgets", spec := "countBudgets", inPlace := ["sync/atomic.StoreInt64", "sync/atomic.LoadInt64", "sync/atomic.CompareAndSwapInt64"], unfollowed := true, recurses := true, apart := false }
def CountBudgetsSaid : Prop := countBudgetsRow.holds Try.pinned (OpenSpec.ofChange countBudgetsSpec)

/-- ITS FALSE NEIGHBOUR: 'it returns false'. Refute it at one input. -/
def countBudgetsWrong : ChangeSpec := { name := "countBudgets", fn := fun _ => fun
  | [d1, d2] => { results := [.lit (.bool false)], args := [d1, d2] }
  | _ => none }
def CountBudgetsWrongFalsely : Prop := countBudgetsRow.holds Try.pinned (OpenSpec.ofChange countBudgetsWrong)

/-- 'lariatlaw2.CountPeaks': WHATEVER THE INPUT: true; the input reads as it did. -/
def countPeaksSpec : ChangeSpec := { name := "countPeaks", fn := fun _ => fun
  | [d] => { results := [.lit (.bool true)], args := [d] }
  | _ => none }
def countPeaksRow : OpenClaim := { program := "ythonfecjjjpnmaa", sum := "442da023961aa1da97c2ad702c025f5edd01f02d7fef3fe441e5c736e0bfa582", func := "lariat/lariatlaw2.CountPeaks", spec := "countPeaks", inPlace := ["sync/atomic.StoreInt64", "sync/atomic.LoadInt64", "sync/atomic.CompareAndSwapInt64"], unfollowed := true, recurses := true, apart := false }
def CountPeaksSaid : Prop := countPeaksRow.holds Try.pinned (OpenSpec.ofChange countPeaksSpec)

/-- ITS FALSE NEIGHBOUR: 'it returns false'. Refute it at one input. -/
def countPeaksWrong : ChangeSpec := { name := "countPeaks", fn := fun _ => fun
  | [d] => { results := [.lit (.bool false)], args := [d] }
  | _ => none }
def CountPeaksWrongFalsely : Prop := countPeaksRow.holds Try.pinned (OpenSpec.ofChange countPeaksWrong)

/-- 'lariatlaw2.CountKnown': WHATEVER THE INPUT: true; the input reads as it did. -/
def countKnownSpec : ChangeSpec := { name := "countKnown", fn := fun _ => fun
  | [] => { results := [.lit (.bool true)], args := [] }
  | _ => none }
def countKnownRow : OpenClaim := { program := "ythonfecjjjpnmaa", sum := "442da023961aa1da97c2ad702c025f5edd01f02d7fef3fe441e5c736e0bfa582", func := "lariat/lariatlaw2.CountKnown", spec := "countKnown", inPlace := ["sync/atomic.StoreInt64", "sync/atomic.LoadInt64", "sync/atomic.CompareAndSwapInt64", "sync/atomic.CompareAndSwapUint32", "sync/atomic.LoadUint32"], unfollowed := true, recurses := true, apart := false }
def CountKnownSaid : Prop := countKnownRow.holds Try.pinned (OpenSpec.ofChange countKnownSpec)

/-- ITS FALSE NEIGHBOUR: 'it returns false'. Refute it at one input. -/
def countKnownWrong : ChangeSpec := { name := "countKnown", fn := fun _ => fun
  | [] => { results := [.lit (.bool false)], args := [] }
  | _ => none }
def CountKnownWrongFalsely : Prop := countKnownRow.holds Try.pinned (OpenSpec.ofChange countKnownWrong)

/-- 'lariatlaw2.CountTurns': WHATEVER THE INPUT: true; the input reads as it did. -/
def countTurnsSpec : ChangeSpec := { name := "countTurns", fn := fun _ => fun
  | [d1, d2] => { results := [.lit (.bool true)], args := [d1, d2] }
  | _ => none }
def countTurnsRow : OpenClaim := { program := "ythonfecjjjpnmaa", sum := "442da023961aa1da97c2ad702c025f5edd01f02d7fef3fe441e5c736e0bfa582", func := "lariat/lariatlaw2.CountTurns", spec := "countTurns", inPlace := ["sync/atomic.StoreInt64", "sync/atomic.LoadInt64", "sync/atomic.CompareAndSwapInt64", "sync/atomic.CompareAndSwapUint32", "sync/atomic.LoadUint32"], unfollowed := true, recurses := true, apart := false }
def CountTurnsSaid : Prop := countTurnsRow.holds Try.pinned (OpenSpec.ofChange countTurnsSpec)

/-- ITS FALSE NEIGHBOUR: 'it returns false'. Refute it at one input. -/
def countTurnsWrong : ChangeSpec := { name := "countTurns", fn := fun _ => fun
  | [d1, d2] => { results := [.lit (.bool false)], args := [d1, d2] }
  | _ => none }
def CountTurnsWrongFalsely : Prop := countTurnsRow.holds Try.pinned (OpenSpec.ofChange countTurnsWrong)

/- THE SECOND FORM. 'bulk': how many values and letters a reading holds, each counted each time it is reached (what is shared counts as often as it is met; a slice's spare places count too). A statement '..UptoSaid' is the law's where the arguments, and the package variables that the reading takes, are together of bulk at most 1048576: NARROWER than '..Said'. Prove '..Said' where nothing that the law and all that it calls make is longer than what came in: it says more and counts as full. Else prove '..UptoSaid'. A law counts once. -/
mutual
def uptoBulk {H : Type} : DataW H → Nat
  | .lit (.string bytes) => bytes.length + 1
  | .lit _ => 1
  | .nil => 1
  | .ptr d => uptoBulk d + 1
  | .slice elems spare => uptoBulkAll elems + uptoBulkAll spare + 1
  | .agg parts => uptoBulkAll parts + 1
  | .iface _ d => uptoBulk d + 1
  | .map entries => uptoBulkEntries entries + 1
  | .held _ => 1
def uptoBulkAll {H : Type} : List (DataW H) → Nat
  | [] => 0
  | d :: r => uptoBulk d + uptoBulkAll r
def uptoBulkEntries {H : Type} : List (Lit × DataW H) → Nat
  | [] => 0
  | x :: r => uptoBulkEntry x + uptoBulkEntries r
def uptoBulkEntry {H : Type} : Lit × DataW H → Nat
  | (.string bytes, d) => bytes.length + uptoBulk d + 1
  | (_, d) => uptoBulk d + 1
 end
def uptoSmall : (H : Type) → List (DataW H) → Bool := fun _ ds => decide (uptoBulkAll ds ≤ 1048576)
def OpenSpec.upto (s : _root_.Go.ChangeSpec) : _root_.Go.OpenSpec := { _root_.Go.OpenSpec.ofChange s with cond := some uptoSmall }

/-- 'lariatlaw2.CountBudgets', WHERE WHAT IT READS IS OF BULK AT MOST 1048576: true; the input reads as it did. -/
def countBudgetsUptoRow : OpenClaim := { program := "ythonfecjjjpnmaa", sum := "442da023961aa1da97c2ad702c025f5edd01f02d7fef3fe441e5c736e0bfa582", func := "lariat/lariatlaw2.CountBudgets", spec := "countBudgets", inPlace := ["sync/atomic.StoreInt64", "sync/atomic.LoadInt64", "sync/atomic.CompareAndSwapInt64"], unfollowed := true, recurses := true, apart := false, narrowed := true }
def CountBudgetsUptoSaid : Prop := countBudgetsUptoRow.holds Try.pinned (OpenSpec.upto countBudgetsSpec)

/-- 'lariatlaw2.CountPeaks', WHERE WHAT IT READS IS OF BULK AT MOST 1048576: true; the input reads as it did. -/
def countPeaksUptoRow : OpenClaim := { program := "ythonfecjjjpnmaa", sum := "442da023961aa1da97c2ad702c025f5edd01f02d7fef3fe441e5c736e0bfa582", func := "lariat/lariatlaw2.CountPeaks", spec := "countPeaks", inPlace := ["sync/atomic.StoreInt64", "sync/atomic.LoadInt64", "sync/atomic.CompareAndSwapInt64"], unfollowed := true, recurses := true, apart := false, narrowed := true }
def CountPeaksUptoSaid : Prop := countPeaksUptoRow.holds Try.pinned (OpenSpec.upto countPeaksSpec)

/-- 'lariatlaw2.CountKnown', WHERE WHAT IT READS IS OF BULK AT MOST 1048576: true; the input reads as it did. -/
def countKnownUptoRow : OpenClaim := { program := "ythonfecjjjpnmaa", sum := "442da023961aa1da97c2ad702c025f5edd01f02d7fef3fe441e5c736e0bfa582", func := "lariat/lariatlaw2.CountKnown", spec := "countKnown", inPlace := ["sync/atomic.StoreInt64", "sync/atomic.LoadInt64", "sync/atomic.CompareAndSwapInt64", "sync/atomic.CompareAndSwapUint32", "sync/atomic.LoadUint32"], unfollowed := true, recurses := true, apart := false, narrowed := true }
def CountKnownUptoSaid : Prop := countKnownUptoRow.holds Try.pinned (OpenSpec.upto countKnownSpec)

/-- 'lariatlaw2.CountTurns', WHERE WHAT IT READS IS OF BULK AT MOST 1048576: true; the input reads as it did. -/
def countTurnsUptoRow : OpenClaim := { program := "ythonfecjjjpnmaa", sum := "442da023961aa1da97c2ad702c025f5edd01f02d7fef3fe441e5c736e0bfa582", func := "lariat/lariatlaw2.CountTurns", spec := "countTurns", inPlace := ["sync/atomic.StoreInt64", "sync/atomic.LoadInt64", "sync/atomic.CompareAndSwapInt64", "sync/atomic.CompareAndSwapUint32", "sync/atomic.LoadUint32"], unfollowed := true, recurses := true, apart := false, narrowed := true }
def CountTurnsUptoSaid : Prop := countTurnsUptoRow.holds Try.pinned (OpenSpec.upto countTurnsSpec)

end Rows
end Go.Proofs.Ythonfecjjjpnmaa
