/-
  No cell of these rows narrows 'for every input' (looked for: loops, veiled, ifaces, maps, wideKeys, modest, calm, conditions, laid).
  DERIVED. THE GIVEN ROWS OF THIS SEAT. 8 by the template 'for every input the law returns true; each argument reads behind the call as it read before'; 0 by the template 'total and deterministic' (their statements: YtleoelhhndeheaaGreatTotals.lean).
  GIVEN WITH THE SEED: the statements are not yours to turn. If you find one false, say at which input.
  Laid BY PROGRAM, IN A SANDBOX (cutbox-rows.mjs): the forced cells as the released guide's own fill.sh prints them over the translation cbd46141c38396fe… (all of the seat's roots in one cut). By AI agents, Wed Nov 11 2026. No macro, syntax, notation, axiom, sorry.
-/
import Derived.Test.YtleoelhhndeheaaGreatChecked
import GoSem.Claim
import GoSem.ClaimJoined
import GoSem.ClaimMapViews
import Derived.JoinedTies
import Derived.KernelRfl
namespace Go.Proofs.YtleoelhhndeheaaGreat
/- THE CELL 'sum', in the pinned program and in every row, IS THE sha256 OF THE DUMP (.gsa) THAT YtleoelhhndeheaaGreatProg.lean LOADS. Nothing in Lean hashes anything: it is a label: what it is worth is what the hold of that sum in a sandbox is worth. -/
noncomputable def Tryz.pinned : Pinned := { name := "ytleoelhhndeheaagreat", sum := "cbd46141c38396fe5521df303f790f60c3d2d0671d0f48b9ff996bd2064d6985", checked := Tryz.checked }
namespace Rows
def none {H : Type} : Left H := { results := [], args := [] }

/-- 'lariatlaw6.VaultTakes': WHATEVER THE INPUT: true; the input reads as it did. -/
def vaultTakesSpec : ChangeSpec := { name := "vaultTakes", fn := fun _ => fun
  | [d] => { results := [.lit (.bool true)], args := [d] }
  | _ => none }
def vaultTakesRow : OpenClaim := { program := "ytleoelhhndeheaagreat", sum := "cbd46141c38396fe5521df303f790f60c3d2d0671d0f48b9ff996bd2064d6985", func := "lariat/lariatlaw6.VaultTakes", spec := "vaultTakes", inPlace := ["sync/atomic.LoadInt64", "sync/atomic.CompareAndSwapInt64", "sync/atomic.CompareAndSwapUint32", "sync/atomic.LoadUint32"], unfollowed := true, recurses := true, apart := false }
def VaultTakesSaid : Prop := vaultTakesRow.holds Tryz.pinned (OpenSpec.ofChange vaultTakesSpec)

/-- ITS FALSE NEIGHBOUR: 'it returns false'. Refute it at one input. -/
def vaultTakesWrong : ChangeSpec := { name := "vaultTakes", fn := fun _ => fun
  | [d] => { results := [.lit (.bool false)], args := [d] }
  | _ => none }
def VaultTakesWrongFalsely : Prop := vaultTakesRow.holds Tryz.pinned (OpenSpec.ofChange vaultTakesWrong)

/-- 'lariatlaw6.VaultTurned': WHATEVER THE INPUT: true; the input reads as it did. -/
def vaultTurnedSpec : ChangeSpec := { name := "vaultTurned", fn := fun _ => fun
  | [d1, d2, d3, d4, d5] => { results := [.lit (.bool true)], args := [d1, d2, d3, d4, d5] }
  | _ => none }
def vaultTurnedRow : OpenClaim := { program := "ytleoelhhndeheaagreat", sum := "cbd46141c38396fe5521df303f790f60c3d2d0671d0f48b9ff996bd2064d6985", func := "lariat/lariatlaw6.VaultTurned", spec := "vaultTurned", inPlace := ["sync/atomic.LoadInt64", "sync/atomic.CompareAndSwapInt64", "sync/atomic.CompareAndSwapUint32", "sync/atomic.LoadUint32"], unfollowed := true, recurses := true, apart := false }
def VaultTurnedSaid : Prop := vaultTurnedRow.holds Tryz.pinned (OpenSpec.ofChange vaultTurnedSpec)

/-- ITS FALSE NEIGHBOUR: 'it returns false'. Refute it at one input. -/
def vaultTurnedWrong : ChangeSpec := { name := "vaultTurned", fn := fun _ => fun
  | [d1, d2, d3, d4, d5] => { results := [.lit (.bool false)], args := [d1, d2, d3, d4, d5] }
  | _ => none }
def VaultTurnedWrongFalsely : Prop := vaultTurnedRow.holds Tryz.pinned (OpenSpec.ofChange vaultTurnedWrong)

/-- 'lariatlaw6.VaultRaw': WHATEVER THE INPUT: true; the input reads as it did. -/
def vaultRawSpec : ChangeSpec := { name := "vaultRaw", fn := fun _ => fun
  | [d1, d2, d3, d4] => { results := [.lit (.bool true)], args := [d1, d2, d3, d4] }
  | _ => none }
def vaultRawRow : OpenClaim := { program := "ytleoelhhndeheaagreat", sum := "cbd46141c38396fe5521df303f790f60c3d2d0671d0f48b9ff996bd2064d6985", func := "lariat/lariatlaw6.VaultRaw", spec := "vaultRaw", inPlace := ["sync/atomic.LoadInt64", "sync/atomic.CompareAndSwapInt64", "sync/atomic.CompareAndSwapUint32", "sync/atomic.LoadUint32"], unfollowed := true, recurses := true, apart := false }
def VaultRawSaid : Prop := vaultRawRow.holds Tryz.pinned (OpenSpec.ofChange vaultRawSpec)

/-- ITS FALSE NEIGHBOUR: 'it returns false'. Refute it at one input. -/
def vaultRawWrong : ChangeSpec := { name := "vaultRaw", fn := fun _ => fun
  | [d1, d2, d3, d4] => { results := [.lit (.bool false)], args := [d1, d2, d3, d4] }
  | _ => none }
def VaultRawWrongFalsely : Prop := vaultRawRow.holds Tryz.pinned (OpenSpec.ofChange vaultRawWrong)

/-- 'lariatlaw6.VaultActs': WHATEVER THE INPUT: true; the input reads as it did. -/
def vaultActsSpec : ChangeSpec := { name := "vaultActs", fn := fun _ => fun
  | [d1, d2] => { results := [.lit (.bool true)], args := [d1, d2] }
  | _ => none }
def vaultActsRow : OpenClaim := { program := "ytleoelhhndeheaagreat", sum := "cbd46141c38396fe5521df303f790f60c3d2d0671d0f48b9ff996bd2064d6985", func := "lariat/lariatlaw6.VaultActs", spec := "vaultActs", inPlace := ["sync/atomic.LoadInt64", "sync/atomic.CompareAndSwapInt64", "sync/atomic.CompareAndSwapUint32", "sync/atomic.LoadUint32"], unfollowed := true, recurses := true, apart := false }
def VaultActsSaid : Prop := vaultActsRow.holds Tryz.pinned (OpenSpec.ofChange vaultActsSpec)

/-- ITS FALSE NEIGHBOUR: 'it returns false'. Refute it at one input. -/
def vaultActsWrong : ChangeSpec := { name := "vaultActs", fn := fun _ => fun
  | [d1, d2] => { results := [.lit (.bool false)], args := [d1, d2] }
  | _ => none }
def VaultActsWrongFalsely : Prop := vaultActsRow.holds Tryz.pinned (OpenSpec.ofChange vaultActsWrong)

/-- 'lariatlaw6.VaultFills': WHATEVER THE INPUT: true; the input reads as it did. -/
def vaultFillsSpec : ChangeSpec := { name := "vaultFills", fn := fun _ => fun
  | [d1, d2] => { results := [.lit (.bool true)], args := [d1, d2] }
  | _ => none }
def vaultFillsRow : OpenClaim := { program := "ytleoelhhndeheaagreat", sum := "cbd46141c38396fe5521df303f790f60c3d2d0671d0f48b9ff996bd2064d6985", func := "lariat/lariatlaw6.VaultFills", spec := "vaultFills", inPlace := ["sync/atomic.LoadInt64", "sync/atomic.CompareAndSwapInt64", "sync/atomic.CompareAndSwapUint32", "sync/atomic.LoadUint32"], unfollowed := true, recurses := true, apart := false }
def VaultFillsSaid : Prop := vaultFillsRow.holds Tryz.pinned (OpenSpec.ofChange vaultFillsSpec)

/-- ITS FALSE NEIGHBOUR: 'it returns false'. Refute it at one input. -/
def vaultFillsWrong : ChangeSpec := { name := "vaultFills", fn := fun _ => fun
  | [d1, d2] => { results := [.lit (.bool false)], args := [d1, d2] }
  | _ => none }
def VaultFillsWrongFalsely : Prop := vaultFillsRow.holds Tryz.pinned (OpenSpec.ofChange vaultFillsWrong)

/-- 'lariatlaw6.VaultUndoes': WHATEVER THE INPUT: true; the input reads as it did. -/
def vaultUndoesSpec : ChangeSpec := { name := "vaultUndoes", fn := fun _ => fun
  | [d1, d2] => { results := [.lit (.bool true)], args := [d1, d2] }
  | _ => none }
def vaultUndoesRow : OpenClaim := { program := "ytleoelhhndeheaagreat", sum := "cbd46141c38396fe5521df303f790f60c3d2d0671d0f48b9ff996bd2064d6985", func := "lariat/lariatlaw6.VaultUndoes", spec := "vaultUndoes", inPlace := ["sync/atomic.LoadInt64", "sync/atomic.CompareAndSwapInt64", "sync/atomic.CompareAndSwapUint32", "sync/atomic.LoadUint32"], unfollowed := true, recurses := true, apart := false }
def VaultUndoesSaid : Prop := vaultUndoesRow.holds Tryz.pinned (OpenSpec.ofChange vaultUndoesSpec)

/-- ITS FALSE NEIGHBOUR: 'it returns false'. Refute it at one input. -/
def vaultUndoesWrong : ChangeSpec := { name := "vaultUndoes", fn := fun _ => fun
  | [d1, d2] => { results := [.lit (.bool false)], args := [d1, d2] }
  | _ => none }
def VaultUndoesWrongFalsely : Prop := vaultUndoesRow.holds Tryz.pinned (OpenSpec.ofChange vaultUndoesWrong)

/-- 'lariatlaw6.VaultKnown': WHATEVER THE INPUT: true; the input reads as it did. -/
def vaultKnownSpec : ChangeSpec := { name := "vaultKnown", fn := fun _ => fun
  | [] => { results := [.lit (.bool true)], args := [] }
  | _ => none }
def vaultKnownRow : OpenClaim := { program := "ytleoelhhndeheaagreat", sum := "cbd46141c38396fe5521df303f790f60c3d2d0671d0f48b9ff996bd2064d6985", func := "lariat/lariatlaw6.VaultKnown", spec := "vaultKnown", inPlace := ["sync/atomic.LoadInt64", "sync/atomic.CompareAndSwapInt64", "sync/atomic.CompareAndSwapUint32", "sync/atomic.LoadUint32", "sync/atomic.StoreInt64"], unfollowed := true, recurses := true, apart := false }
def VaultKnownSaid : Prop := vaultKnownRow.holds Tryz.pinned (OpenSpec.ofChange vaultKnownSpec)

/-- ITS FALSE NEIGHBOUR: 'it returns false'. Refute it at one input. -/
def vaultKnownWrong : ChangeSpec := { name := "vaultKnown", fn := fun _ => fun
  | [] => { results := [.lit (.bool false)], args := [] }
  | _ => none }
def VaultKnownWrongFalsely : Prop := vaultKnownRow.holds Tryz.pinned (OpenSpec.ofChange vaultKnownWrong)

/-- 'lariatlaw6.VaultStays': WHATEVER THE INPUT: true; the input reads as it did. -/
def vaultStaysSpec : ChangeSpec := { name := "vaultStays", fn := fun _ => fun
  | [d] => { results := [.lit (.bool true)], args := [d] }
  | _ => none }
def vaultStaysRow : OpenClaim := { program := "ytleoelhhndeheaagreat", sum := "cbd46141c38396fe5521df303f790f60c3d2d0671d0f48b9ff996bd2064d6985", func := "lariat/lariatlaw6.VaultStays", spec := "vaultStays", inPlace := ["sync/atomic.LoadInt64", "sync/atomic.CompareAndSwapInt64", "sync/atomic.CompareAndSwapUint32", "sync/atomic.LoadUint32", "sync/atomic.StoreInt64"], unfollowed := true, recurses := true, apart := false }
def VaultStaysSaid : Prop := vaultStaysRow.holds Tryz.pinned (OpenSpec.ofChange vaultStaysSpec)

/-- ITS FALSE NEIGHBOUR: 'it returns false'. Refute it at one input. -/
def vaultStaysWrong : ChangeSpec := { name := "vaultStays", fn := fun _ => fun
  | [d] => { results := [.lit (.bool false)], args := [d] }
  | _ => none }
def VaultStaysWrongFalsely : Prop := vaultStaysRow.holds Tryz.pinned (OpenSpec.ofChange vaultStaysWrong)

/- THE SECOND FORM. 'bulk': how many values and letters a reading holds, each counted each time it is reached (what is shared counts as often as it is met; a slice's spare places count too). A statement '..UptoSaid' is the law's where the arguments, and the package variables that the reading takes, are together of bulk at most 1048576: NARROWER than '..Said'. Prove '..Said' where nothing that the law and all that it calls make is longer than what came in: it says more and counts as full. Else prove '..UptoSaid'. A law counts once. -/
mutual
def uptoBulk {H : Type} : DataW H → Nat
  | .lit (.string bytes) => bytes.length + 1
  | .lit _ => 1
  | .nil => 1
  | .ptr d => uptoBulk d + 1
  | .slice elems spare => uptoBulkAll elems + uptoBulkAll spare + 1
  | .agg parts => uptoBulkAll parts + 1
  | .iface _ d => uptoBulk d + 1
  | .map entries => uptoBulkEntries entries + 1
  | .held _ => 1
def uptoBulkAll {H : Type} : List (DataW H) → Nat
  | [] => 0
  | d :: r => uptoBulk d + uptoBulkAll r
def uptoBulkEntries {H : Type} : List (Lit × DataW H) → Nat
  | [] => 0
  | x :: r => uptoBulkEntry x + uptoBulkEntries r
def uptoBulkEntry {H : Type} : Lit × DataW H → Nat
  | (.string bytes, d) => bytes.length + uptoBulk d + 1
  | (_, d) => uptoBulk d + 1
 end
def uptoSmall : (H : Type) → List (DataW H) → Bool := fun _ ds => decide (uptoBulkAll ds ≤ 1048576)
def OpenSpec.upto (s : _root_.Go.ChangeSpec) : _root_.Go.OpenSpec := { _root_.Go.OpenSpec.ofChange s with cond := some uptoSmall }

/-- 'lariatlaw6.VaultTakes', WHERE WHAT IT READS IS OF BULK AT MOST 1048576: true; the input reads as it did. -/
def vaultTakesUptoRow : OpenClaim := { program := "ytleoelhhndeheaagreat", sum := "cbd46141c38396fe5521df303f790f60c3d2d0671d0f48b9ff996bd2064d6985", func := "lariat/lariatlaw6.VaultTakes", spec := "vaultTakes", inPlace := ["sync/atomic.LoadInt64", "sync/atomic.CompareAndSwapInt64", "sync/atomic.CompareAndSwapUint32", "sync/atomic.LoadUint32"], unfollowed := true, recurses := true, apart := false, narrowed := true }
def VaultTakesUptoSaid : Prop := vaultTakesUptoRow.holds Tryz.pinned (OpenSpec.upto vaultTakesSpec)

/-- 'lariatlaw6.VaultTurned', WHERE WHAT IT READS IS OF BULK AT MOST 1048576: true; the input reads as it did. -/
def vaultTurnedUptoRow : OpenClaim := { program := "ytleoelhhndeheaagreat", sum := "cbd46141c38396fe5521df303f790f60c3d2d0671d0f48b9ff996bd2064d6985", func := "lariat/lariatlaw6.VaultTurned", spec := "vaultTurned", inPlace := ["sync/atomic.LoadInt64", "sync/atomic.CompareAndSwapInt64", "sync/atomic.CompareAndSwapUint32", "sync/atomic.LoadUint32"], unfollowed := true, recurses := true, apart := false, narrowed := true }
def VaultTurnedUptoSaid : Prop := vaultTurnedUptoRow.holds Tryz.pinned (OpenSpec.upto vaultTurnedSpec)

/-- 'lariatlaw6.VaultRaw', WHERE WHAT IT READS IS OF BULK AT MOST 1048576: true; the input reads as it did. -/
def vaultRawUptoRow : OpenClaim := { program := "ytleoelhhndeheaagreat", sum := "cbd46141c38396fe5521df303f790f60c3d2d0671d0f48b9ff996bd2064d6985", func := "lariat/lariatlaw6.VaultRaw", spec := "vaultRaw", inPlace := ["sync/atomic.LoadInt64", "sync/atomic.CompareAndSwapInt64", "sync/atomic.CompareAndSwapUint32", "sync/atomic.LoadUint32"], unfollowed := true, recurses := true, apart := false, narrowed := true }
def VaultRawUptoSaid : Prop := vaultRawUptoRow.holds Tryz.pinned (OpenSpec.upto vaultRawSpec)

/-- 'lariatlaw6.VaultActs', WHERE WHAT IT READS IS OF BULK AT MOST 1048576: true; the input reads as it did. -/
def vaultActsUptoRow : OpenClaim := { program := "ytleoelhhndeheaagreat", sum := "cbd46141c38396fe5521df303f790f60c3d2d0671d0f48b9ff996bd2064d6985", func := "lariat/lariatlaw6.VaultActs", spec := "vaultActs", inPlace := ["sync/atomic.LoadInt64", "sync/atomic.CompareAndSwapInt64", "sync/atomic.CompareAndSwapUint32", "sync/atomic.LoadUint32"], unfollowed := true, recurses := true, apart := false, narrowed := true }
def VaultActsUptoSaid : Prop := vaultActsUptoRow.holds Tryz.pinned (OpenSpec.upto vaultActsSpec)

/-- 'lariatlaw6.VaultFills', WHERE WHAT IT READS IS OF BULK AT MOST 1048576: true; the input reads as it did. -/
def vaultFillsUptoRow : OpenClaim := { program := "ytleoelhhndeheaagreat", sum := "cbd46141c38396fe5521df303f790f60c3d2d0671d0f48b9ff996bd2064d6985", func := "lariat/lariatlaw6.VaultFills", spec := "vaultFills", inPlace := ["sync/atomic.LoadInt64", "sync/atomic.CompareAndSwapInt64", "sync/atomic.CompareAndSwapUint32", "sync/atomic.LoadUint32"], unfollowed := true, recurses := true, apart := false, narrowed := true }
def VaultFillsUptoSaid : Prop := vaultFillsUptoRow.holds Tryz.pinned (OpenSpec.upto vaultFillsSpec)

/-- 'lariatlaw6.VaultUndoes', WHERE WHAT IT READS IS OF BULK AT MOST 1048576: true; the input reads as it did. -/
def vaultUndoesUptoRow : OpenClaim := { program := "ytleoelhhndeheaagreat", sum := "cbd46141c38396fe5521df303f790f60c3d2d0671d0f48b9ff996bd2064d6985", func := "lariat/lariatlaw6.VaultUndoes", spec := "vaultUndoes", inPlace := ["sync/atomic.LoadInt64", "sync/atomic.CompareAndSwapInt64", "sync/atomic.CompareAndSwapUint32", "sync/atomic.LoadUint32"], unfollowed := true, recurses := true, apart := false, narrowed := true }
def VaultUndoesUptoSaid : Prop := vaultUndoesUptoRow.holds Tryz.pinned (OpenSpec.upto vaultUndoesSpec)

/-- 'lariatlaw6.VaultKnown', WHERE WHAT IT READS IS OF BULK AT MOST 1048576: true; the input reads as it did. -/
def vaultKnownUptoRow : OpenClaim := { program := "ytleoelhhndeheaagreat", sum := "cbd46141c38396fe5521df303f790f60c3d2d0671d0f48b9ff996bd2064d6985", func := "lariat/lariatlaw6.VaultKnown", spec := "vaultKnown", inPlace := ["sync/atomic.LoadInt64", "sync/atomic.CompareAndSwapInt64", "sync/atomic.CompareAndSwapUint32", "sync/atomic.LoadUint32", "sync/atomic.StoreInt64"], unfollowed := true, recurses := true, apart := false, narrowed := true }
def VaultKnownUptoSaid : Prop := vaultKnownUptoRow.holds Tryz.pinned (OpenSpec.upto vaultKnownSpec)

/-- 'lariatlaw6.VaultStays', WHERE WHAT IT READS IS OF BULK AT MOST 1048576: true; the input reads as it did. -/
def vaultStaysUptoRow : OpenClaim := { program := "ytleoelhhndeheaagreat", sum := "cbd46141c38396fe5521df303f790f60c3d2d0671d0f48b9ff996bd2064d6985", func := "lariat/lariatlaw6.VaultStays", spec := "vaultStays", inPlace := ["sync/atomic.LoadInt64", "sync/atomic.CompareAndSwapInt64", "sync/atomic.CompareAndSwapUint32", "sync/atomic.LoadUint32", "sync/atomic.StoreInt64"], unfollowed := true, recurses := true, apart := false, narrowed := true }
def VaultStaysUptoSaid : Prop := vaultStaysUptoRow.holds Tryz.pinned (OpenSpec.upto vaultStaysSpec)

end Rows
end Go.Proofs.YtleoelhhndeheaaGreat
