/- the walk of CountTurns -/
import Derived.Test.YthonfecjjjpnmaaCountLaw3
open Go Go.RowKit
namespace Go.Proofs.Ythonfecjjjpnmaa

/-- a slice of structs of two ints that reads as a list -/
structure Pairs (w : World) (a : Option Addr) (len : Nat) (zs : List (Int × Int)) : Prop where
  length : zs.length = len
  bound : len ≤ 9223372036854775807
  nn : 0 < len → a = some ⟨sB a, sO a, none⟩
  cell0 : ∀ i, i < len → w.cell? ⟨sB a, sO a + i * 2, none⟩ = some (.int .i64 (zs[i]?.getD (0, 0)).1)
  cell1 : ∀ i, i < len → w.cell? ⟨sB a, sO a + i * 2 + 1, none⟩ = some (.int .i64 (zs[i]?.getD (0, 0)).2)
  wf : ∀ n ∈ zs, (-9223372036854775808 ≤ n.1 ∧ n.1 ≤ 9223372036854775807) ∧ (-9223372036854775808 ≤ n.2 ∧ n.2 ≤ 9223372036854775807)

theorem Pairs.lt {w : World} {a : Option Addr} {len : Nat} {zs : List (Int × Int)} (h : Pairs w a len zs) (hi : 0 < len) : sB a < w.heap.size := lt_of_cell (h.cell0 0 hi)
theorem Pairs.below {w w' : World} {a : Option Addr} {len : Nat} {zs : List (Int × Int)} (h : Pairs w a len zs) {B : Nat} (hb : Below B w w') (hB : w.heap.size ≤ B) : Pairs w' a len zs :=
  ⟨h.length, h.bound, h.nn, fun i hi => Below.cellAt hb (Nat.lt_of_lt_of_le (h.lt (by omega)) hB) (h.cell0 i hi), fun i hi => Below.cellAt hb (Nat.lt_of_lt_of_le (h.lt (by omega)) hB) (h.cell1 i hi), h.wf⟩
theorem Pairs.get {w : World} {a : Option Addr} {len : Nat} {zs : List (Int × Int)} (h : Pairs w a len zs) {i : Nat} (hi : i < len) :
    (-9223372036854775808 ≤ (zs[i]?.getD (0, 0)).1 ∧ (zs[i]?.getD (0, 0)).1 ≤ 9223372036854775807) ∧ (-9223372036854775808 ≤ (zs[i]?.getD (0, 0)).2 ∧ (zs[i]?.getD (0, 0)).2 ≤ 9223372036854775807) := by
  refine h.wf _ ?_
  have hl : i < zs.length := by rw [h.length]; exact hi
  rw [List.getElem?_eq_getElem hl]
  exact List.getElem_mem _

theorem szT : (Try.prog.info? 48).map (·.size) = some 2 := by kernel_rfl

theorem raw_any (n : Int) (w : World) (hn : -9223372036854775808 ≤ n ∧ n ≤ 9223372036854775807) :
    Calls Try.prog 19 #[.int .i64 n] w fun e w' => ∃ r : Int, e = .returned (.int .i64 r) ∧ (-9223372036854775808 ≤ r ∧ r ≤ 9223372036854775807) ∧ w = w' := by
  have b1 : -9 < n.tmod 9 ∧ n.tmod 9 < 9 := by
    have h1 := Int.tmod_lt_of_pos n (by decide : (0:Int) < 9)
    have h2 := Int.lt_tmod_of_pos n (by decide : (0:Int) < 9)
    omega
  have b2 : -40 < n.tmod 40 ∧ n.tmod 40 < 40 := by
    have h1 := Int.tmod_lt_of_pos n (by decide : (0:Int) < 40)
    have h2 := Int.lt_tmod_of_pos n (by decide : (0:Int) < 40)
    omega
  go_enter Try.func19, Try.ntmps19
  go_wp2_with fail
  all_goals go_ret
  · exact ⟨_, rfl, by unfold wrap64; omega, rfl⟩
  · exact ⟨_, rfl, by omega, rfl⟩

set_option maxRecDepth 100000 in
set_option maxHeartbeats 4000000 in
theorem turns_walk (begin : Int) (a : Option Addr) (len cap : Nat) (z : List (Int × Int)) (w : World) (hbg : -9223372036854775808 ≤ begin ∧ begin ≤ 9223372036854775807) (w0 : Pairs w a len z) :
    Calls Try.prog 6 #[.int .i64 begin, .slice a len cap] w fun e w' => e = .returned (.bool true) ∧ Below w.heap.size w w' := by
  have hm := w0.bound
  have hix := fun k (hk : k < len) => idx_at (P := Try.prog) (T := 46) Try.underlying46 szT (cap := cap) w0.nn hk
  go_enter Try.func6, Try.ntmps6
  go_wp2_with fail
  refine (known2_any w).mono ?_
  rintro e w1 ⟨rfl, b1⟩
  have hs1 := b1.size
  go_wp2_with fail
  refine (raw_any begin _ hbg).mono ?_
  rintro e w1' ⟨g, rfl, hg, rfl⟩
  clear hbg
  go_wp2_with fail
  refine (newBudget_o g _).mono ?_
  unfold clip
  have hal : 0 ≤ max 0 (min g 4611686018427387904) ∧ max 0 (min g 4611686018427387904) ≤ 4611686018427387904 := by omega
  rintro e w2 ⟨rfl, hb, x2⟩
  have s2 : Four w2 w1.heap.size 0 0 false (max 0 (min g 4611686018427387904)) (max 0 (min g 4611686018427387904)) :=
    ⟨x2.blk (fun h => h) (blk_old _ (blk_old _ (blk_new _ _))), x2.blk (fun h => h) (blk_old _ (blk_at _ (by simp))), x2.blk (fun h => h) (blk_at _ (by simp)), by simpa using hb, by decide, ⟨hal.1, Int.le_refl _, hal.2⟩⟩
  have B2 : Below w.heap.size w w2 := Below.ext (((b1.alloc hs1 _).alloc (by simp; omega) _).alloc (by simp; omega) _) x2 (fun _ h => h.elim) (by simp; omega)
  clear hb x2
  go_wp2_with fail
  refine (known2_any w2).mono ?_
  rintro e w4 ⟨rfl, b4⟩
  have x4 : Ext (fun _ => False) w2 w4 := Ext.of_below b4 _
  have s4 := s2.keep x4 (fun _ h => h.elim)
  have B4 : Below w.heap.size w w4 := Below.ext B2 x4 (fun _ h => h.elim) B2.size
  clear b4 x4 s2 B2
  go_wp2_with fail
  go_loopw [11, 12, 13, 14, 15] (fun sm pk lf rs i wr => ∃ (k : Nat) (c p l : Int) (f : Bool), k ≤ len ∧ k ≤ 60 ∧ i = .int .i64 k ∧ sm = .int .i64 c ∧ pk = .int .i64 p ∧ lf = .int .i64 l ∧ rs = .bool f ∧
      Four wr w1.heap.size c p f (max 0 (min g 4611686018427387904)) l ∧ Below w.heap.size w wr) (fun _ _ _ _ i _ => len - (intOf i).toNat)
  case atStart => exact ⟨0, 0, 0, _, false, by omega, by omega, rfl, rfl, rfl, rfl, rfl, s4, B4⟩
  case round =>
    obtain ⟨k, c, p, l, f, hk, hk60, rfl, rfl, rfl, rfl, rfl, s, B⟩ := hrel
    have sc := s.c0
    have sb := s.b0
    by_cases hlt : k < len ∧ k < 60
    · have hix := hix k hlt.1
      have hc0 := (w0.below B (Nat.le_refl _)).cell0 k hlt.1
      have hc1 := (w0.below B (Nat.le_refl _)).cell1 k hlt.1
      have hbd := w0.get hlt.1
      obtain ⟨hlt, hlt60⟩ := hlt
      go_wp2_with fail
      refine (raw_any _ _ hbd.2).mono ?_
      rintro e wr' ⟨x, rfl, hx, rfl⟩
      go_wp2_with fail
      refine (pick_any _ 5 _ hbd.1 (by decide) (by decide)).mono ?_
      rintro e wr' ⟨rfl, rfl⟩
      obtain ⟨q, hq, hq0, hq1⟩ : ∃ q : Int, (z[k]?.getD (0, 0)).1 % 5 = q ∧ 0 ≤ q ∧ q < 5 := ⟨_, rfl, by omega, by omega⟩
      rw [hq]
      clear hq
      go_wp2_with fail
      · have h : 4611686018427387904 - c < x := by assumption
        refine (s.add x).mono ?_
        rw [show more c x = 4611686018427387904 by unfold more; omega]
        rintro e w5 ⟨rfl, s5, x5⟩
        have B5 := Below.ext B x5 (by intro i hi; unfold In4 at hi; omega) B.size
        clear x5
        go_wp2_with fail
        refine (cload_o s5.hc).mono ?_
        rintro e wr' ⟨rfl, rfl⟩
        go_wp2_with fail
        refine (pload_o s5.hp).mono ?_
        rintro e wr' ⟨rfl, rfl⟩
        go_wp2_with fail
        refine (left_o s5.hb).mono ?_
        rintro e wr' ⟨rfl, rfl⟩
        go_wp2_with fail
        refine (raised_o s5.hf).mono ?_
        rintro e wr' ⟨rfl, rfl⟩
        go_wp2_with fail
        go_roundw
        case rel => exact ⟨k + 1, 4611686018427387904, p, l, f, by omega, by omega, by go_num, rfl, rfl, rfl, rfl, s5, B5⟩
        case measure => simp [intOf]; omega
      · have h : x ≤ 4611686018427387904 - c := by assumption
        refine (s.add x).mono ?_
        rw [show more c x = c + max 0 x by unfold more; omega]
        rintro e w5 ⟨rfl, s5, x5⟩
        have B5 := Below.ext B x5 (by intro i hi; unfold In4 at hi; omega) B.size
        clear x5
        go_wp2_with fail
        refine (cload_o s5.hc).mono ?_
        rintro e wr' ⟨rfl, rfl⟩
        go_wp2_with fail
        refine (pload_o s5.hp).mono ?_
        rintro e wr' ⟨rfl, rfl⟩
        go_wp2_with fail
        refine (left_o s5.hb).mono ?_
        rintro e wr' ⟨rfl, rfl⟩
        go_wp2_with fail
        refine (raised_o s5.hf).mono ?_
        rintro e wr' ⟨rfl, rfl⟩
        go_wp2_with fail
        go_roundw
        case rel => exact ⟨k + 1, _, p, l, f, by omega, by omega, by go_num, rfl, rfl, rfl, rfl, s5, B5⟩
        case measure => simp [intOf]; omega
      · refine (s.note x).mono ?_
        rintro e w5 ⟨rfl, s5, x5⟩
        have B5 := Below.ext B x5 (by intro i hi; unfold In4 at hi; omega) B.size
        clear x5
        go_wp2_with fail
        refine (cload_o s5.hc).mono ?_
        rintro e wr' ⟨rfl, rfl⟩
        go_wp2_with fail
        refine (pload_o s5.hp).mono ?_
        rintro e wr' ⟨rfl, rfl⟩
        go_wp2_with fail
        refine (left_o s5.hb).mono ?_
        rintro e wr' ⟨rfl, rfl⟩
        go_wp2_with fail
        refine (raised_o s5.hf).mono ?_
        rintro e wr' ⟨rfl, rfl⟩
        go_wp2_with fail
        go_roundw
        case rel => exact ⟨k + 1, c, _, l, f, by omega, by omega, by go_num, rfl, rfl, rfl, rfl, s5, B5⟩
        case measure => simp [intOf]; omega
      · have h0 : 0 ≤ x := by assumption
        by_cases hle : x ≤ l
        · refine (s.take x).mono ?_
          rw [show decide (0 ≤ x ∧ x ≤ l) = true by simp; omega, show left l x = l - x by unfold left; rw [if_pos (by omega)]]
          rintro e w5 ⟨rfl, s5, x5⟩
          have B5 := Below.ext B x5 (by intro i hi; unfold In4 at hi; omega) B.size
          clear x5
          go_wp2_with fail
          refine (cload_o s5.hc).mono ?_
          rintro e wr' ⟨rfl, rfl⟩
          go_wp2_with fail
          refine (pload_o s5.hp).mono ?_
          rintro e wr' ⟨rfl, rfl⟩
          go_wp2_with fail
          refine (left_o s5.hb).mono ?_
          rintro e wr' ⟨rfl, rfl⟩
          go_wp2_with fail
          refine (raised_o s5.hf).mono ?_
          rintro e wr' ⟨rfl, rfl⟩
          go_wp2_with fail
          go_roundw
          case rel => exact ⟨k + 1, c, p, _, f, by omega, by omega, by go_num, rfl, rfl, rfl, rfl, s5, B5⟩
          case measure => simp [intOf]; omega
        · refine (s.take x).mono ?_
          rw [show decide (0 ≤ x ∧ x ≤ l) = false by simp; omega, show left l x = l by unfold left; rw [if_neg (by omega)]]
          rintro e w5 ⟨rfl, s5, x5⟩
          have B5 := Below.ext B x5 (by intro i hi; unfold In4 at hi; omega) B.size
          clear x5
          go_wp2_with fail
          refine (cload_o s5.hc).mono ?_
          rintro e wr' ⟨rfl, rfl⟩
          go_wp2_with fail
          refine (pload_o s5.hp).mono ?_
          rintro e wr' ⟨rfl, rfl⟩
          go_wp2_with fail
          refine (left_o s5.hb).mono ?_
          rintro e wr' ⟨rfl, rfl⟩
          go_wp2_with fail
          refine (raised_o s5.hf).mono ?_
          rintro e wr' ⟨rfl, rfl⟩
          go_wp2_with fail
          go_roundw
          case rel => exact ⟨k + 1, c, p, _, f, by omega, by omega, by go_num, rfl, rfl, rfl, rfl, s5, B5⟩
          case measure => simp [intOf]; omega
      · have h0 : x < 0 := by assumption
        refine (s.take x).mono ?_
        rw [show decide (0 ≤ x ∧ x ≤ l) = false by simp; omega, show left l x = l by unfold left; rw [if_neg (by omega)]]
        rintro e w5 ⟨rfl, s5, x5⟩
        have B5 := Below.ext B x5 (by intro i hi; unfold In4 at hi; omega) B.size
        clear x5
        go_wp2_with fail
        refine (cload_o s5.hc).mono ?_
        rintro e wr' ⟨rfl, rfl⟩
        go_wp2_with fail
        refine (pload_o s5.hp).mono ?_
        rintro e wr' ⟨rfl, rfl⟩
        go_wp2_with fail
        refine (left_o s5.hb).mono ?_
        rintro e wr' ⟨rfl, rfl⟩
        go_wp2_with fail
        refine (raised_o s5.hf).mono ?_
        rintro e wr' ⟨rfl, rfl⟩
        go_wp2_with fail
        go_roundw
        case rel => exact ⟨k + 1, c, p, _, f, by omega, by omega, by go_num, rfl, rfl, rfl, rfl, s5, B5⟩
        case measure => simp [intOf]; omega
      · refine (s.give x).mono ?_
        rintro e w5 ⟨rfl, s5, x5⟩
        have B5 := Below.ext B x5 (by intro i hi; unfold In4 at hi; omega) B.size
        clear x5
        have h2 := hal
        by_cases hgt : max 0 (min g 4611686018427387904) - l < x
        · have e5 : given (max 0 (min g 4611686018427387904)) l x = max 0 (min g 4611686018427387904) := by unfold given; omega
          rw [e5] at s5
          clear e5
          go_wp2_with fail
          refine (cload_o s5.hc).mono ?_
          rintro e wr' ⟨rfl, rfl⟩
          go_wp2_with fail
          refine (pload_o s5.hp).mono ?_
          rintro e wr' ⟨rfl, rfl⟩
          go_wp2_with fail
          refine (left_o s5.hb).mono ?_
          rintro e wr' ⟨rfl, rfl⟩
          go_wp2_with fail
          refine (raised_o s5.hf).mono ?_
          rintro e wr' ⟨rfl, rfl⟩
          go_wp2_with fail
          go_roundw
          case rel => exact ⟨k + 1, c, p, _, f, by omega, by omega, by go_num, rfl, rfl, rfl, rfl, s5, B5⟩
          case measure => simp [intOf]; omega
        · have e5 : given (max 0 (min g 4611686018427387904)) l x = l + max 0 x := by unfold given; omega
          rw [e5] at s5
          clear e5
          go_wp2_with fail
          refine (cload_o s5.hc).mono ?_
          rintro e wr' ⟨rfl, rfl⟩
          go_wp2_with fail
          refine (pload_o s5.hp).mono ?_
          rintro e wr' ⟨rfl, rfl⟩
          go_wp2_with fail
          refine (left_o s5.hb).mono ?_
          rintro e wr' ⟨rfl, rfl⟩
          go_wp2_with fail
          refine (raised_o s5.hf).mono ?_
          rintro e wr' ⟨rfl, rfl⟩
          go_wp2_with fail
          go_roundw
          case rel => exact ⟨k + 1, c, p, _, f, by omega, by omega, by go_num, rfl, rfl, rfl, rfl, s5, B5⟩
          case measure => simp [intOf]; omega
      · refine (s.raise).mono ?_
        rintro e w5 ⟨rfl, s5, x5⟩
        have B5 := Below.ext B x5 (by intro i hi; unfold In4 at hi; omega) B.size
        clear x5
        have hfl : ((!f) == f) = false := by cases f <;> rfl
        go_wp2_with fail
        refine (cload_o s5.hc).mono ?_
        rintro e wr' ⟨rfl, rfl⟩
        go_wp2_with fail
        refine (pload_o s5.hp).mono ?_
        rintro e wr' ⟨rfl, rfl⟩
        go_wp2_with fail
        refine (left_o s5.hb).mono ?_
        rintro e wr' ⟨rfl, rfl⟩
        go_wp2_with fail
        refine (raised_o s5.hf).mono ?_
        rintro e wr' ⟨rfl, rfl⟩
        go_wp2_with fail
        go_roundw
        case rel => exact ⟨k + 1, c, p, l, true, by omega, by omega, by go_num, rfl, rfl, rfl, rfl, s5, B5⟩
        case measure => simp [intOf]; omega
    · go_wp2_with fail
      all_goals (go_ret; exact ⟨rfl, B⟩)

end Go.Proofs.Ythonfecjjjpnmaa
