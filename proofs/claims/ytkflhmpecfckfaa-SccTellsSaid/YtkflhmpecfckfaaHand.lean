/- lariathand.Pick and other small functions of the statements -/
import Derived.Test.YtkflhmpecfckfaaProg
import Derived.Test.YtkflhmpecfckfaaBase
open Go Go.RowKit
namespace Go.Proofs.Ytkflhmpecfckfaa

theorem pick_emod (n m : Int) (hm : 0 < m) : (if n.tmod m < 0 then n.tmod m + m else n.tmod m) = n % m := by
  rcases Int.le_total 0 n with h | h
  · rw [Int.tmod_eq_emod_of_nonneg h, if_neg (by have := Int.emod_nonneg n (by omega : m ≠ 0); omega)]
  · have h1 := Int.tmod_eq_emod (a := n) (b := m)
    have h2 := Int.emod_nonneg n (by omega : m ≠ 0)
    have h3 := Int.emod_lt_of_pos n hm
    rw [h1]
    have e : ((m.natAbs : Int)) = m := by omega
    split <;> split <;> omega

set_option maxRecDepth 100000 in
theorem pick_any (n m : Int) (w : World) (hn : -9223372036854775808 ≤ n ∧ n ≤ 9223372036854775807) (hm : 0 < m) (hm2 : m ≤ 1000000000) :
    Calls Try.prog 6 #[.int .i64 n, .int .i64 m] w fun e w' => e = .returned (.int .i64 (n % m)) ∧ w = w' := by
  have b1 : -m < n.tmod m ∧ n.tmod m < m := by
    have h1 := Int.tmod_lt_of_pos n hm
    have h2 := Int.lt_tmod_of_pos n hm
    omega
  have hp := hid (pick_emod n m hm)
  have hm0 : (m == 0) = false := by simp; omega
  by_cases h : n.tmod m < 0
  · go_enter Try.func6, Try.ntmps6
    go_wp2_with fail
    go_ret
    exact ⟨ret_int (by rw [← hp.out, if_pos h]), rfl⟩
  · go_enter Try.func6, Try.ntmps6
    go_wp2_with fail
    go_ret
    exact ⟨ret_int (by rw [← hp.out, if_neg (Int.not_lt.2 h)]), rfl⟩

end Go.Proofs.Ytkflhmpecfckfaa
