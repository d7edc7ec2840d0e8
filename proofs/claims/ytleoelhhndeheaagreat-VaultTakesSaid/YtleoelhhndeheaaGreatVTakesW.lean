/- VaultTakes: the walk -/
import Derived.Test.YtleoelhhndeheaaGreatVltV
import Derived.Test.YtleoelhhndeheaaGreatHand
open Go Go.RowKit
namespace Go.Proofs.YtleoelhhndeheaaGreat

theorem vaultTakes_any (n : Int) (w : World) (hn : -9223372036854775808 ≤ n ∧ n ≤ 9223372036854775807) :
    Calls Tryz.prog 3 #[.int .i64 n] w fun e w' => e = .returned (.bool true) ∧ Below w.heap.size w w' := by
  have PN := fun W => pick_any n 70000 W hn (by omega) (by omega)
  obtain ⟨p, hp⟩ : ∃ p, n % 70000 = p := ⟨_, rfl⟩
  rw [hp] at PN
  obtain ⟨q, rfl⟩ : ∃ q : Nat, p = q := ⟨p.toNat, by omega⟩
  have hq : q < 70000 := by omega
  obtain ⟨t, ht⟩ : ∃ t, takes q = t := ⟨_, rfl⟩
  obtain ⟨u, hu⟩ : ∃ u, takes (q + 80) = u := ⟨_, rfl⟩
  have T1 := fun W => takes_any q W (by omega)
  have T2 := fun W => takes_any (q + 80) W (by omega)
  rw [ht] at T1
  rw [hu] at T2
  have f1 : 1 ≤ t ∧ t ≤ 1000 := by rw [← ht]; unfold takes; omega
  have f2 : (q : Int) ≤ (t : Int) * 80 := by rw [← ht]; unfold takes; omega
  have f3 : t = 1 ∨ ((t : Int) - 1) * 80 < q := by rw [← ht]; unfold takes; omega
  have f4 : (u : Int) = (t : Int) + 1 - max 0 (1 - (q : Int)) := by rw [← ht, ← hu]; unfold takes; omega
  have f5 : u ≤ 1001 := by rw [← hu]; unfold takes; omega
  have F2 := hid f2
  have F3 := hid f3
  have F4 := hid f4
  have e80 : (((q + 80 : Nat) : Nat) : Int) = (q : Int) + 80 := by omega
  rw [e80] at T2
  obtain ⟨m, hm⟩ : ∃ m : Int, max (0 : Int) (1 - (q : Int)) = m := ⟨_, rfl⟩
  have hmb : 0 ≤ m ∧ m ≤ 1 := by omega
  have HM := hid hm
  have g2 : decide ((q : Int) ≤ (t : Int) * 80) = true := decide_eq_true f2
  have g1 : decide ((1 : Int) ≤ (t : Int)) = true := decide_eq_true (by omega)
  have g4 : ((u : Int) == (t : Int) + 1 - m) = true := by have := F4.out; rw [HM.out] at this; simp; omega
  clear f2 f3 f4 ht hu hp e80
  go_enter Tryz.func3, Tryz.ntmps3
  go_wp2_with fail
  refine (known6_any w).mono ?_
  rintro e w1 ⟨rfl, B1⟩
  have HB1 := hid B1
  clear B1
  go_wp2_with fail
  refine (PN w1).mono ?_
  rintro e w2 ⟨rfl, rfl⟩
  go_wp2_with fail
  refine (T1 w1).mono ?_
  rintro e w2 ⟨rfl, rfl⟩
  go_wp2_with fail
  refine (known6_any w1).mono ?_
  rintro e w3 ⟨rfl, B3⟩
  have HB3 := hid B3
  clear B3
  by_cases h1 : t = 1
  · subst h1
    have g6 : ((u : Int) == 2 - m) = true := by have := F4.out; rw [HM.out] at this; simp; omega
    go_wp2_with fail
    refine (T2 w3).mono ?_
    rintro e w4 ⟨rfl, rfl⟩
    go_wp2_with fail
    go_ret
    exact ⟨rfl, HB1.out.trans (HB3.out.mono HB1.out.size)⟩
  · have g3 : decide (((t : Int) - 1) * 80 < (q : Int)) = true := decide_eq_true (F3.out.elim (fun h => absurd h h1) (fun h => h))
    have g5 : ((t : Int) == 1) = false := by simp; omega
    go_wp2_with fail
    refine (T2 w3).mono ?_
    rintro e w4 ⟨rfl, rfl⟩
    go_wp2_with fail
    go_ret
    exact ⟨rfl, HB1.out.trans (HB3.out.mono HB1.out.size)⟩

end Go.Proofs.YtleoelhhndeheaaGreat
