/-
  No cell of these rows narrows 'for every input' (looked for: loops, veiled, ifaces, maps, wideKeys, modest, calm, conditions, laid).
  DERIVED. THE GIVEN ROWS OF THIS SEAT. 4 by the template 'for every input the law returns true; each argument reads behind the call as it read before'; 0 by the template 'total and deterministic' (their statements: YtddcggdbnhmoiaaTotals.lean).
  GIVEN WITH THE SEED: the statements are not yours to turn. If you find one false, say at which input.
  Laid BY PROGRAM, IN A SANDBOX (cutbox-rows.mjs): the forced cells as the released guide's own fill.sh prints them over the translation 5bd3275cb3eb7961… (all of the seat's roots in one cut). By AI agents, Wed Nov 11 2026. No macro, syntax, notation, axiom, sorry.
-/
import Derived.Test.YtddcggdbnhmoiaaChecked
import GoSem.Claim
import GoSem.ClaimJoined
import GoSem.ClaimMapViews
import Derived.JoinedTies
import Derived.KernelRfl
namespace Go.Proofs.Ytddcggdbnhmoiaa
/- THE CELL 'sum', in the pinned program and in every row, IS THE sha256 OF THE DUMP (.gsa) THAT YtddcggdbnhmoiaaProg.lean LOADS. Nothing in Lean hashes anything: it is a label: what it is worth is what the hold of that sum in a sandbox is worth. -/
noncomputable def Try.pinned : Pinned := { name := "ytddcggdbnhmoiaa", sum := "5bd3275cb3eb7961e70ac2fd16c434db3861110126355f7ea4508f5590043fcc", checked := Try.checked }
namespace Rows
def none {H : Type} : Left H := { results := [], args := [] }

/-- 'lariatlaw5.LedgerLeaves': WHATEVER THE INPUT: true; the input reads as it did. -/
def ledgerLeavesSpec : ChangeSpec := { name := "ledgerLeaves", fn := fun _ => fun
  | [d1, d2] => { results := [.lit (.bool true)], args := [d1, d2] }
  | _ => none }
def ledgerLeavesRow : OpenClaim := { program := "ytddcggdbnhmoiaa", sum := "5bd3275cb3eb7961e70ac2fd16c434db3861110126355f7ea4508f5590043fcc", func := "lariat/lariatlaw5.LedgerLeaves", spec := "ledgerLeaves", inPlace := ["sync/atomic.LoadInt64", "sync/atomic.CompareAndSwapInt64", "sync/atomic.CompareAndSwapUint32", "sync/atomic.LoadUint32"], unfollowed := true, recurses := true, apart := false }
def LedgerLeavesSaid : Prop := ledgerLeavesRow.holds Try.pinned (OpenSpec.ofChange ledgerLeavesSpec)

/-- ITS FALSE NEIGHBOUR: 'it returns false'. Refute it at one input. -/
def ledgerLeavesWrong : ChangeSpec := { name := "ledgerLeaves", fn := fun _ => fun
  | [d1, d2] => { results := [.lit (.bool false)], args := [d1, d2] }
  | _ => none }
def LedgerLeavesWrongFalsely : Prop := ledgerLeavesRow.holds Try.pinned (OpenSpec.ofChange ledgerLeavesWrong)

/-- 'lariatlaw5.LedgerLooks': WHATEVER THE INPUT: true; the input reads as it did. -/
def ledgerLooksSpec : ChangeSpec := { name := "ledgerLooks", fn := fun _ => fun
  | [d1, d2] => { results := [.lit (.bool true)], args := [d1, d2] }
  | _ => none }
def ledgerLooksRow : OpenClaim := { program := "ytddcggdbnhmoiaa", sum := "5bd3275cb3eb7961e70ac2fd16c434db3861110126355f7ea4508f5590043fcc", func := "lariat/lariatlaw5.LedgerLooks", spec := "ledgerLooks", inPlace := ["sync/atomic.LoadInt64", "sync/atomic.CompareAndSwapInt64", "sync/atomic.CompareAndSwapUint32", "sync/atomic.LoadUint32"], unfollowed := true, recurses := true, apart := false }
def LedgerLooksSaid : Prop := ledgerLooksRow.holds Try.pinned (OpenSpec.ofChange ledgerLooksSpec)

/-- ITS FALSE NEIGHBOUR: 'it returns false'. Refute it at one input. -/
def ledgerLooksWrong : ChangeSpec := { name := "ledgerLooks", fn := fun _ => fun
  | [d1, d2] => { results := [.lit (.bool false)], args := [d1, d2] }
  | _ => none }
def LedgerLooksWrongFalsely : Prop := ledgerLooksRow.holds Try.pinned (OpenSpec.ofChange ledgerLooksWrong)

/-- 'lariatlaw5.LedgerLives': WHATEVER THE INPUT: true; the input reads as it did. -/
def ledgerLivesSpec : ChangeSpec := { name := "ledgerLives", fn := fun _ => fun
  | [d] => { results := [.lit (.bool true)], args := [d] }
  | _ => none }
def ledgerLivesRow : OpenClaim := { program := "ytddcggdbnhmoiaa", sum := "5bd3275cb3eb7961e70ac2fd16c434db3861110126355f7ea4508f5590043fcc", func := "lariat/lariatlaw5.LedgerLives", spec := "ledgerLives", inPlace := ["sync/atomic.LoadInt64", "sync/atomic.CompareAndSwapInt64", "sync/atomic.CompareAndSwapUint32", "sync/atomic.LoadUint32"], unfollowed := true, recurses := true, apart := false }
def LedgerLivesSaid : Prop := ledgerLivesRow.holds Try.pinned (OpenSpec.ofChange ledgerLivesSpec)

/-- ITS FALSE NEIGHBOUR: 'it returns false'. Refute it at one input. -/
def ledgerLivesWrong : ChangeSpec := { name := "ledgerLives", fn := fun _ => fun
  | [d] => { results := [.lit (.bool false)], args := [d] }
  | _ => none }
def LedgerLivesWrongFalsely : Prop := ledgerLivesRow.holds Try.pinned (OpenSpec.ofChange ledgerLivesWrong)

/-- 'lariatlaw5.LedgerKnown': WHATEVER THE INPUT: true; the input reads as it did. -/
def ledgerKnownSpec : ChangeSpec := { name := "ledgerKnown", fn := fun _ => fun
  | [] => { results := [.lit (.bool true)], args := [] }
  | _ => none }
def ledgerKnownRow : OpenClaim := { program := "ytddcggdbnhmoiaa", sum := "5bd3275cb3eb7961e70ac2fd16c434db3861110126355f7ea4508f5590043fcc", func := "lariat/lariatlaw5.LedgerKnown", spec := "ledgerKnown", inPlace := ["sync/atomic.LoadInt64", "sync/atomic.CompareAndSwapInt64", "sync/atomic.CompareAndSwapUint32", "sync/atomic.LoadUint32", "sync/atomic.StoreInt64"], unfollowed := true, recurses := true, apart := false }
def LedgerKnownSaid : Prop := ledgerKnownRow.holds Try.pinned (OpenSpec.ofChange ledgerKnownSpec)

/-- ITS FALSE NEIGHBOUR: 'it returns false'. Refute it at one input. -/
def ledgerKnownWrong : ChangeSpec := { name := "ledgerKnown", fn := fun _ => fun
  | [] => { results := [.lit (.bool false)], args := [] }
  | _ => none }
def LedgerKnownWrongFalsely : Prop := ledgerKnownRow.holds Try.pinned (OpenSpec.ofChange ledgerKnownWrong)

/- THE SECOND FORM. 'bulk': how many values and letters a reading holds, each counted each time it is reached (what is shared counts as often as it is met; a slice's spare places count too). A statement '..UptoSaid' is the law's where the arguments, and the package variables that the reading takes, are together of bulk at most 1048576: NARROWER than '..Said'. Prove '..Said' where nothing that the law and all that it calls make is longer than what came in: it says more and counts as full. Else prove '..UptoSaid'. A law counts once. -/
mutual
def uptoBulk {H : Type} : DataW H → Nat
  | .lit (.string bytes) => bytes.length + 1
  | .lit _ => 1
  | .nil => 1
  | .ptr d => uptoBulk d + 1
  | .slice elems spare => uptoBulkAll elems + uptoBulkAll spare + 1
  | .agg parts => uptoBulkAll parts + 1
  | .iface _ d => uptoBulk d + 1
  | .map entries => uptoBulkEntries entries + 1
  | .held _ => 1
def uptoBulkAll {H : Type} : List (DataW H) → Nat
  | [] => 0
  | d :: r => uptoBulk d + uptoBulkAll r
def uptoBulkEntries {H : Type} : List (Lit × DataW H) → Nat
  | [] => 0
  | x :: r => uptoBulkEntry x + uptoBulkEntries r
def uptoBulkEntry {H : Type} : Lit × DataW H → Nat
  | (.string bytes, d) => bytes.length + uptoBulk d + 1
  | (_, d) => uptoBulk d + 1
 end
def uptoSmall : (H : Type) → List (DataW H) → Bool := fun _ ds => decide (uptoBulkAll ds ≤ 1048576)
def OpenSpec.upto (s : _root_.Go.ChangeSpec) : _root_.Go.OpenSpec := { _root_.Go.OpenSpec.ofChange s with cond := some uptoSmall }

/-- 'lariatlaw5.LedgerLeaves', WHERE WHAT IT READS IS OF BULK AT MOST 1048576: true; the input reads as it did. -/
def ledgerLeavesUptoRow : OpenClaim := { program := "ytddcggdbnhmoiaa", sum := "5bd3275cb3eb7961e70ac2fd16c434db3861110126355f7ea4508f5590043fcc", func := "lariat/lariatlaw5.LedgerLeaves", spec := "ledgerLeaves", inPlace := ["sync/atomic.LoadInt64", "sync/atomic.CompareAndSwapInt64", "sync/atomic.CompareAndSwapUint32", "sync/atomic.LoadUint32"], unfollowed := true, recurses := true, apart := false, narrowed := true }
def LedgerLeavesUptoSaid : Prop := ledgerLeavesUptoRow.holds Try.pinned (OpenSpec.upto ledgerLeavesSpec)

/-- 'lariatlaw5.LedgerLooks', WHERE WHAT IT READS IS OF BULK AT MOST 1048576: true; the input reads as it did. -/
def ledgerLooksUptoRow : OpenClaim := { program := "ytddcggdbnhmoiaa", sum := "5bd3275cb3eb7961e70ac2fd16c434db3861110126355f7ea4508f5590043fcc", func := "lariat/lariatlaw5.LedgerLooks", spec := "ledgerLooks", inPlace := ["sync/atomic.LoadInt64", "sync/atomic.CompareAndSwapInt64", "sync/atomic.CompareAndSwapUint32", "sync/atomic.LoadUint32"], unfollowed := true, recurses := true, apart := false, narrowed := true }
def LedgerLooksUptoSaid : Prop := ledgerLooksUptoRow.holds Try.pinned (OpenSpec.upto ledgerLooksSpec)

/-- 'lariatlaw5.LedgerLives', WHERE WHAT IT READS IS OF BULK AT MOST 1048576: true; the input reads as it did. -/
def ledgerLivesUptoRow : OpenClaim := { program := "ytddcggdbnhmoiaa", sum := "5bd3275cb3eb7961e70ac2fd16c434db3861110126355f7ea4508f5590043fcc", func := "lariat/lariatlaw5.LedgerLives", spec := "ledgerLives", inPlace := ["sync/atomic.LoadInt64", "sync/atomic.CompareAndSwapInt64", "sync/atomic.CompareAndSwapUint32", "sync/atomic.LoadUint32"], unfollowed := true, recurses := true, apart := false, narrowed := true }
def LedgerLivesUptoSaid : Prop := ledgerLivesUptoRow.holds Try.pinned (OpenSpec.upto ledgerLivesSpec)

/-- 'lariatlaw5.LedgerKnown', WHERE WHAT IT READS IS OF BULK AT MOST 1048576: true; the input reads as it did. -/
def ledgerKnownUptoRow : OpenClaim := { program := "ytddcggdbnhmoiaa", sum := "5bd3275cb3eb7961e70ac2fd16c434db3861110126355f7ea4508f5590043fcc", func := "lariat/lariatlaw5.LedgerKnown", spec := "ledgerKnown", inPlace := ["sync/atomic.LoadInt64", "sync/atomic.CompareAndSwapInt64", "sync/atomic.CompareAndSwapUint32", "sync/atomic.LoadUint32", "sync/atomic.StoreInt64"], unfollowed := true, recurses := true, apart := false, narrowed := true }
def LedgerKnownUptoSaid : Prop := ledgerKnownUptoRow.holds Try.pinned (OpenSpec.upto ledgerKnownSpec)

end Rows
end Go.Proofs.Ytddcggdbnhmoiaa
