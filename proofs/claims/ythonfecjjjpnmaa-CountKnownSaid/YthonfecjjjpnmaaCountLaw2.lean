/- the walks of CountKnown, CountBudgets -/
import Derived.Test.YthonfecjjjpnmaaCountLaw
import Derived.Test.YthonfecjjjpnmaaHand
open Go Go.RowKit
namespace Go.Proofs.Ythonfecjjjpnmaa

set_option maxRecDepth 100000 in
set_option maxHeartbeats 2000000 in
theorem budgets_walk (begin : Int) (a : Option Addr) (len cap : Nat) (z : List Int) (w : World) (hbg : -9223372036854775808 ≤ begin ∧ begin ≤ 9223372036854775807) (w0 : Ints w a len z) :
    Calls Try.prog 3 #[.int .i64 begin, .slice a len cap] w fun e w' => e = .returned (.bool true) ∧ Below w.heap.size w w' := by
  have hm := w0.bound
  have hix := fun k (hk : k < len) => idx_at1 (P := Try.prog) (T := 22) Try.underlying22 sz3 (cap := cap) w0.nn hk
  obtain ⟨g, hg, hg0, hg1⟩ : ∃ g : Int, begin % 500 = g ∧ 0 ≤ g ∧ g < 500 := ⟨_, rfl, by omega, by omega⟩
  go_enter Try.func3, Try.ntmps3
  go_wp2_with fail
  refine (known2_any w).mono ?_
  rintro e w1 ⟨rfl, b1⟩
  have hs1 := b1.size
  go_wp2_with fail
  refine (pick_any begin 500 w1 hbg (by decide) (by decide)).mono ?_
  rw [hg]
  clear hg hbg
  rintro e w1' ⟨rfl, rfl⟩
  go_wp2_with fail
  refine (newBudget_o g w1).mono ?_
  have hclip : clip g = g := by unfold clip; omega
  rw [hclip]
  clear hclip
  rintro e w2 ⟨rfl, hbud, x2⟩
  have b2 : Below w.heap.size w w2 := Below.ext b1 x2 (fun _ h => h.elim) hs1
  go_wp2_with fail
  refine (known2_any w2).mono ?_
  rintro e w3 ⟨rfl, b3⟩
  have hbud3 : isBud w3 w1.heap.size 52 g g := (b3.block _ (lt_of_blk hbud)).trans hbud
  have b4 : Below w.heap.size w w3 := b2.trans (b3.mono b2.size)
  clear hbud x2 b2 b3
  go_wp2_with fail
  go_loopw [6, 7] (fun o i wr => ∃ (k : Nat) (out : Int), k ≤ len ∧ k ≤ 60 ∧ i = .int .i64 k ∧ o = .int .i64 out ∧ 0 ≤ out ∧ out ≤ g ∧
      isBud wr w1.heap.size 52 g (g - out) ∧ Below w.heap.size w wr) (fun _ i _ => len - (intOf i).toNat)
  case atStart => exact ⟨0, 0, by omega, by omega, rfl, rfl, by omega, by omega, by simpa using hbud3, b4⟩
  case round =>
    obtain ⟨k, out, hk, hk60, rfl, rfl, ho0, ho1, hb, hB⟩ := hrel
    by_cases hlt : k < len ∧ k < 60
    · have hix := hix k hlt.1
      have hc := (w0.below hB (Nat.le_refl _)).cell k hlt.1
      have hbd := w0.get hlt.1
      have hsb : sB a < w.heap.size := w0.lt (by omega)
      obtain ⟨hlt, hlt60⟩ := hlt
      obtain ⟨n, hn, hn0, hn1⟩ : ∃ n : Int, (z[k]?.getD 0).tdiv 2 % 120 = n ∧ 0 ≤ n ∧ n < 120 := ⟨_, rfl, by omega, by omega⟩
      have hq : -9223372036854775808 ≤ (z[k]?.getD 0).tdiv 2 ∧ (z[k]?.getD 0).tdiv 2 ≤ 9223372036854775807 := tdiv2_bd _ hbd
      go_wp2_with fail
      refine (pick_any _ 120 wr hq (by decide) (by decide)).mono ?_
      rw [hn]
      clear hn hq
      rintro e wr' ⟨rfl, rfl⟩
      cases hpar : ((z[k]?.getD 0).tmod 2 == 0) with
      | true =>
        go_wp2_with fail
        refine (left_o hb).mono ?_
        rintro e wr' ⟨rfl, rfl⟩
        go_wp2_with fail
        refine (take_o hb (by omega) (by omega) n).mono ?_
        rintro e w5 ⟨rfl, hb5, x5⟩
        have hs5 := Below.ext hB x5 (by rintro i rfl; exact hs1) hB.size
        by_cases hle : n ≤ g - out
        · have hd : decide (0 ≤ n ∧ n ≤ g - out) = true := by simp; omega
          have e5 : left (g - out) n = g - (out + n) := by unfold left; rw [if_pos (by omega)]; omega
          rw [e5] at hb5
          rw [hd]
          clear hd e5
          go_wp2_with fail
          refine (left_o hb5).mono ?_
          rintro e wr' ⟨rfl, rfl⟩
          go_wp2_with fail
          refine (left_o hb5).mono ?_
          rintro e wr' ⟨rfl, rfl⟩
          go_wp2_with fail
          go_roundw
          case rel => exact ⟨k + 1, out + n, by omega, by omega, by go_num, rfl, by omega, by omega, hb5, hs5⟩
          case measure => simp [intOf]; omega
        · have hd : decide (0 ≤ n ∧ n ≤ g - out) = false := by simp; omega
          have e5 : left (g - out) n = g - out := by unfold left; rw [if_neg (by omega)]
          rw [e5] at hb5
          rw [hd]
          clear hd e5
          go_wp2_with fail
          refine (left_o hb5).mono ?_
          rintro e wr' ⟨rfl, rfl⟩
          go_wp2_with fail
          refine (left_o hb5).mono ?_
          rintro e wr' ⟨rfl, rfl⟩
          go_wp2_with fail
          go_roundw
          case rel => exact ⟨k + 1, out, by omega, by omega, by go_num, rfl, by omega, by omega, hb5, hs5⟩
          case measure => simp [intOf]; omega
      | false =>
        go_wp2_with fail
        refine (give_o hb (by omega) (by omega) (by omega) (min n out)).mono ?_
        rintro e w5 ⟨rfl, hb5, x5⟩
        have hs5 := Below.ext hB x5 (by rintro i rfl; exact hs1) hB.size
        have e5 : given g (g - out) (min n out) = g - (out - min n out) := by unfold given; omega
        rw [e5] at hb5
        clear e5
        go_wp2_with fail
        refine (left_o hb5).mono ?_
        rintro e wr' ⟨rfl, rfl⟩
        go_wp2_with fail
        refine (left_o hb5).mono ?_
        rintro e wr' ⟨rfl, rfl⟩
        go_wp2_with fail
        go_roundw
        case rel => exact ⟨k + 1, out - min n out, by omega, by omega, by go_num, rfl, by omega, by omega, hb5, hs5⟩
        case measure => simp [intOf]; omega
    · go_wp2_with fail
      all_goals
        refine (give_o hb (by omega) (by omega) (by omega) (g + 7)).mono ?_
        rintro e w5 ⟨rfl, hb5, x5⟩
        have hs5 := Below.ext hB x5 (by rintro i rfl; exact hs1) hB.size
        have e5 : given g (g - out) (g + 7) = g := by unfold given; omega
        rw [e5] at hb5
        clear e5
        go_wp2_with fail
        refine (left_o hb5).mono ?_
        rintro e wr' ⟨rfl, rfl⟩
        go_wp2_with fail
        go_ret
        exact ⟨rfl, hs5⟩

end Go.Proofs.Ythonfecjjjpnmaa
