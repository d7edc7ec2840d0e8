/- scc.Good at rows of unlike lengths -/
import Derived.Test.YtkflhmpecfckfaaGoodW
open Go Go.RowKit
namespace Go.Proofs.Ytkflhmpecfckfaa
open Tj

theorem goodLen_any (ea : Option Addr) (n ec : Nat) (a : Option Addr) (m c : Nat) (first : Int) (h : n ≠ m) (w : World) : Calls Try.prog 12 #[.slice ea n ec, .slice a m c, .int .i64 first] w fun e w' => e = .returned (.slice none 0 0) ∧ w = w' := by
  have hne : ((m : Int) == (n : Int)) = false := by simp; omega
  go_enter Try.func12, Try.ntmps12
  go_wp2_with fail
  go_ret
  exact ⟨rfl, rfl⟩

end Go.Proofs.Ytkflhmpecfckfaa
