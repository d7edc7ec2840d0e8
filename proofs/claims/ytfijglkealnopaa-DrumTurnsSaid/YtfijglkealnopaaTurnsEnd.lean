/- DrumTurns: the walk, over the argument as it is opened -/
import Derived.Test.YtfijglkealnopaaTurnsW
import Derived.Test.YtfijglkealnopaaTurnsOpen
open Go Go.RowKit Go.ChangeShapes Go.WideShapes
namespace Go.Proofs.Ytfijglkealnopaa

theorem turns_openZ {H : Type} {enc : TypeId × Value → H} {W : World} {a : Option Addr} {len cap : Nat} {d : DataW H} {p : List MemPlace}
    (hsz : ∀ n ∈ d.weights Try.prog 22, n ≤ reachBytes) (h : DataW.Trod enc Try.prog W 0 (fun _ => true) true 22 (.slice a len cap) d p) :
    ∃ z : (Nat → TurnN) × (Nat → TurnR), TurnsAt W a len z.1 ∧ TurnsRows W a len z.2 := by
  obtain ⟨X, Y, h1, h2⟩ := turns_open2 h hsz
  exact ⟨⟨X, Y⟩, h1, h2⟩
theorem drumTurns_all (tr : Int) (a : Option Addr) (len cap : Nat) (z : (Nat → TurnN) × (Nat → TurnR)) (w : World) (htr : -9223372036854775808 ≤ tr ∧ tr ≤ 9223372036854775807) (h : TurnsAt w a len z.1 ∧ TurnsRows w a len z.2) :
    Calls Try.prog 5 #[.int .i64 tr, .slice a len cap] w fun e w' => e = .returned (.bool true) ∧ Below w.heap.size w w' :=
  drumTurns_walk tr a len cap z.1 z.2 w htr h.1 h.2

end Go.Proofs.Ytfijglkealnopaa
