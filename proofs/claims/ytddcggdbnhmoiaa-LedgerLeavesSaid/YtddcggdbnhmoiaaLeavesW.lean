/- LedgerLeaves: the walk -/
import Derived.Test.YtddcggdbnhmoiaaLawL3
import Derived.Test.YtddcggdbnhmoiaaHand
open Go Go.RowKit
namespace Go.Proofs.Ytddcggdbnhmoiaa

theorem ledgerLeaves_any (n m : Int) (w : World) (hn : -9223372036854775808 ≤ n ∧ n ≤ 9223372036854775807) (hm : -9223372036854775808 ≤ m ∧ m ≤ 9223372036854775807) :
    Calls Try.prog 3 #[.int .i64 n, .int .i64 m] w fun e w' => e = .returned (.bool true) ∧ Below w.heap.size w w' := by
  go_enter Try.func3, Try.ntmps3
  go_wp2_with fail
  refine (known5_any w).mono ?_
  rintro e w1 ⟨rfl, B1⟩
  go_wp2_with fail
  refine (pick_any n 4000 w1 hn (by omega) (by omega)).mono ?_
  rintro e w2 ⟨rfl, rfl⟩
  obtain ⟨x, hx⟩ : ∃ x, n % 4000 = x := ⟨_, rfl⟩
  have hx0 : 0 ≤ x ∧ x < 4000 := by omega
  rw [hx]
  clear hx
  go_wp2_with fail
  refine (pick_any m 4000 w1 hm (by omega) (by omega)).mono ?_
  rintro e w2 ⟨rfl, rfl⟩
  obtain ⟨y, hy⟩ : ∃ y, m % 4000 = y := ⟨_, rfl⟩
  have hy0 : 0 ≤ y ∧ y < 4000 := by omega
  rw [hy]
  clear hy
  go_wp2_with fail
  refine (leaves_any x w1 (by omega)).mono ?_
  rintro e w2 ⟨rfl, rfl⟩
  obtain ⟨kx, hkx⟩ : ∃ k, leavesN x = k := ⟨_, rfl⟩
  have hk1 : (x = 0 ∧ kx = 0) ∨ (0 < x ∧ kx * 64 ≥ 2 + x * 98 ∧ (kx - 1) * 64 < 2 + x * 98) := by
    subst hkx; unfold leavesN; split <;> omega
  have hk2 : 0 ≤ kx ∧ kx ≤ 10000 := by omega
  rw [hkx]
  have HX := hid hkx
  clear hkx
  go_wp2_with fail
  refine (known5_any w1).mono ?_
  rintro e w3 ⟨rfl, B3⟩
  have BB := hid (B1.trans (B3.mono B1.size))
  have LY := leaves_any y w3 (by omega)
  have hmn : x ≤ y → kx ≤ leavesN y := fun h => by
    rw [← HX.out]
    unfold leavesN
    split <;> split <;> omega
  obtain ⟨ky, hky⟩ : ∃ k, leavesN y = k := ⟨_, rfl⟩
  rw [hky] at LY hmn
  clear hky
  by_cases hxy : y < x
  · clear hmn
    rcases hk1 with ⟨h1, rfl⟩ | ⟨h1, h2, h3⟩
    · omega
    · have h4 : ¬ x = 0 := by omega
      go_wp2_with fail
      go_ret
      exact ⟨rfl, BB.out⟩
  · have hm1 : kx ≤ ky := hmn (by omega)
    clear hmn
    have hxy2 : x ≤ y := by omega
    rcases hk1 with ⟨h1, rfl⟩ | ⟨h1, h2, h3⟩
    · subst h1
      go_wp2_with fail
      refine LY.mono ?_
      rintro e w4 ⟨rfl, rfl⟩
      go_wp2_with fail
      go_ret
      exact ⟨rfl, BB.out⟩
    · have h4 : ¬ x = 0 := by omega
      go_wp2_with fail
      refine LY.mono ?_
      rintro e w4 ⟨rfl, rfl⟩
      go_wp2_with fail
      go_ret
      exact ⟨rfl, BB.out⟩

end Go.Proofs.Ytddcggdbnhmoiaa
