/- the walks of SealKnown and SealBack -/
import Derived.Test.YtjoghgnkdegeoaaSealLaw
import Derived.Test.YtjoghgnkdegeoaaFew
import Derived.Deep.RegionHeld3
open Go Go.RowKit
namespace Go.Proofs.Ytjoghgnkdegeoaa

theorem one_bytes : IsBytes [1] := by intro n hn; simp at hn; omega
theorem nil_bytes : IsBytes [] := by intro n hn; simp at hn
theorem one_sums : sums [1] = (16777216, 16777216) := by simp [sums, sm, wd, pw, zb, wrap64]
theorem rep_bytes (n : Nat) : IsBytes (List.replicate n 0) := fun x hx => by rw [List.eq_of_mem_replicate hx]; decide
theorem B8_rep (n : Nat) : B8 (List.replicate n 0) = List.replicate n (.int .u8 0) := by simp [B8]

set_option maxRecDepth 100000 in
set_option maxHeartbeats 4000000 in
theorem sealKnown_walk (w : World) : Calls Try.prog 3 #[] w fun e w' => e = .returned (.bool true) ∧ Below w.heap.size w w' := by
  obtain ⟨i0, hi, hz0, hz1, hz2⟩ := info_parts iB
  go_enter Try.func3, Try.ntmps3
  go_wp2_with fail
  refine (known3_any w).mono ?_
  rintro e w1 ⟨rfl, B1⟩
  have s1 := B1.size
  go_wp2_with fail
  refine (sums_any none 0 0 [] w1 (Row.nil _ _) rfl (by decide) nil_bytes).mono ?_
  rw [show sums [] = (0, 0) from rfl]
  rintro e w1' ⟨rfl, rfl⟩
  go_wp2_with fail
  refine (sums_any _ 1 1 [1] _ (row_new w1 #[_] _) rfl (by decide) one_bytes).mono ?_
  rw [one_sums]
  rintro e w2 ⟨rfl, hw⟩
  have B2 : Below w.heap.size w w2 := hw ▸ (B1.alloc s1 _)
  have s2 := B2.size
  clear hw
  go_wp2_with (at_make; refine wpList_make_full _ rfl _ _ 25 rfl w.heap.size 5 i0 (.int .u8 0) 1 Try.underlying25 hi hz0 hz1 .i64 .i64 85 85 85 rfl rfl rfl rfl (by rw [hz2]; decide) (by decide) s2 ?_; intro w3 o3 g3)
  have B3 : Below w.heap.size w w3 := B2.grown g3 s2 (by rintro k hk; cases hk)
  have s3 := B3.size
  clear g3 o3
  refine (close_long _ 85 85 w3 (by decide) (by decide)).mono ?_
  rintro e w3' ⟨rfl, rfl⟩
  go_wp2_with (at_make; refine wpList_make_full _ rfl _ _ 25 rfl w.heap.size 5 i0 (.int .u8 0) 1 Try.underlying25 hi hz0 hz1 .i64 .i64 84 84 84 rfl rfl rfl rfl (by rw [hz2]; decide) (by decide) s3 ?_; intro w4 o4 g4)
  have B4 : Below w.heap.size w w4 := B3.grown g4 s3 (by rintro k hk; cases hk)
  have s4 := B4.size
  have r4 : Row w4 (some ⟨w3.heap.size, 0, none⟩) (B8 (List.replicate 84 0)) := by
    obtain ⟨a, c, hv, _, _, _, r, _⟩ := row_of_owns o4
    cases hv
    rw [B8_rep, ← toList_madeCells_one]
    exact r
  clear g4 o4
  refine (close_any _ 84 84 (List.replicate 84 0) w4 r4 (by simp) (fun h => by cases h) (by decide) (rep_bytes 84)).mono ?_
  rintro e w5 ⟨v5, rfl, o5, B5⟩
  obtain ⟨a5, c5, rfl, hl5, hc5, hm5, r5, d5, n5⟩ := row_of_owns o5
  have B5' : Below w.heap.size w w5 := B4.trans (B5.mono s4)
  have s5 := B5'.size
  unfold maxLen at hm5
  clear o5 B5
  cases a5 with
  | none => have := n5 rfl; omega
  | some x =>
    go_wp2_with fail
    refine (known3_any w5).mono ?_
    rintro e w6 ⟨rfl, B6⟩
    go_wp2_with fail
    refine (open_len _ 95 c5 w6 (by decide) (by decide)).mono ?_
    rintro e w6' ⟨rfl, rfl⟩
    go_wp2_with fail
    refine (known3_any w6).mono ?_
    rintro e w7 ⟨rfl, B7⟩
    go_wp2_with fail
    go_ret
    have B6' := B5'.trans (B6.mono s5)
    exact ⟨rfl, B6'.trans (B7.mono B6'.size)⟩

/-- two that are closed are alike just where they open alike -/
theorem closed_inj {xs ys : List Int} (hx : xs.length ≤ 84) (hy : ys.length ≤ 84) : (closed xs = closed ys) ↔ (padded xs = padded ys) := by
  constructor
  · intro h
    rw [← closed_take hx, ← closed_take hy, h]
  · intro h
    rw [← closed_padded hx, ← closed_padded hy, h]

set_option maxRecDepth 100000 in
set_option maxHeartbeats 4000000 in
theorem back_walk (a : Option Addr) (la ca : Nat) (xs : List Int) (b : Option Addr) (lb cb : Nat) (ys : List Int) (w : World) (ha : ByteArg w a la ca xs) (hb : ByteArg w b lb cb ys) :
    Calls Try.prog 6 #[.slice a la ca, .slice b lb cb] w fun e w' => e = .returned (.bool true) ∧ Below w.heap.size w w' := by
  go_enter Try.func6, Try.ntmps6
  go_wp2_with fail
  refine (known3_any w).mono ?_
  rintro e w1 ⟨rfl, B1⟩
  have s1 := B1.size
  go_wp2_with fail
  refine (few_any a la ca 84 xs w1 (ha.hrow.below B1 (Nat.le_refl _)) ha.hlen ha.hnil ha.hcap ha.hcapm ha.hreach (by decide)).mono ?_
  rintro e w2 ⟨v2, rfl, o2, B2⟩
  obtain ⟨a2, c2, rfl, hl2, hc2, hm2, r2, d2, n2⟩ := row_of_owns o2
  have B2' : Below w.heap.size w w2 := B1.trans (B2.mono s1)
  have s2 := B2'.size
  have hx : IsBytes (xs.take 84) := ha.hbytes.take 84
  have hxl : (xs.take 84).length ≤ 84 := by simp; omega
  generalize xs.take 84 = x2 at *
  generalize hma : min la 84 = ma at *
  have hxm : x2.length = ma := by simpa using hl2
  have hma2 : ma ≤ 84 := by omega
  clear o2 hl2 hma B2
  go_wp2_with fail
  refine (few_any b lb cb 84 ys w2 (hb.hrow.below B2' (Nat.le_refl _)) hb.hlen hb.hnil hb.hcap hb.hcapm hb.hreach (by decide)).mono ?_
  rintro e w3 ⟨v3, rfl, o3, B3⟩
  obtain ⟨a3, c3, rfl, hl3, hc3, hm3, r3, d3, n3⟩ := row_of_owns o3
  have B3' : Below w.heap.size w w3 := B2'.trans (B3.mono s2)
  have s3 := B3'.size
  have hy : IsBytes (ys.take 84) := hb.hbytes.take 84
  have hyl : (ys.take 84).length ≤ 84 := by simp; omega
  generalize ys.take 84 = y2 at *
  generalize hmb : min lb 84 = mb at *
  have hym : y2.length = mb := by simpa using hl3
  have hmb2 : mb ≤ 84 := by omega
  have r2' := r2.below B3 (Nat.le_refl _)
  clear o3 hl3 hmb B3 r2
  have HXM := hid hxm
  have HYM := hid hym
  clear hxm hym
  go_wp2_with fail
  refine (close_any a2 ma c2 x2 w3 r2' HXM.out n2 hma2 hx).mono ?_
  rintro e w4 ⟨v4, rfl, o4, B4⟩
  obtain ⟨a4, c4, rfl, hl4, hc4, hm4, r4, d4, n4⟩ := row_of_owns o4
  have B4' : Below w.heap.size w w4 := B3'.trans (B4.mono s3)
  have s4 := B4'.size
  have r2a := r2'.below B4 (Nat.le_refl _)
  have r3a := r3.below B4 (Nat.le_refl _)
  clear o4 B4 r2' r3 hl4
  go_wp2_with fail
  refine (close_any a3 mb c3 y2 w4 r3a HYM.out n3 hmb2 hy).mono ?_
  rintro e w5 ⟨v5, rfl, o5, B5⟩
  obtain ⟨a5, c5, rfl, hl5, hc5, hm5, r5, d5, n5⟩ := row_of_owns o5
  have B5' : Below w.heap.size w w5 := B4'.trans (B5.mono s4)
  have s5 := B5'.size
  have r2b := r2a.below B5 (Nat.le_refl _)
  have r4b := r4.below B5 (Nat.le_refl _)
  clear o5 B5 r2a r3a r4 hl5
  unfold maxLen at hm4 hm5
  go_wp2_with fail
  refine (open_yes a4 c4 (closed x2) w5 r4b (closed_length hxl) hc4 (by omega) (closed_bytes hx) (closed_opens hxl)).mono ?_
  rw [closed_take hxl]
  rintro e w6 ⟨v6, rfl, o6, B6⟩
  obtain ⟨a6, c6, rfl, hl6, hc6, hm6, r6, d6, n6⟩ := row_of_owns o6
  have B6' : Below w.heap.size w w6 := B5'.trans (B6.mono s5)
  have s6 := B6'.size
  have r2c := r2b.below B6 (Nat.le_refl _)
  have r4c := r4b.below B6 (Nat.le_refl _)
  have r5c := r5.below B6 (Nat.le_refl _)
  clear o6 B6 r2b r4b r5 hl6
  go_wp2_with fail
  refine (open_yes a5 c5 (closed y2) w6 r5c (closed_length hyl) hc5 (by omega) (closed_bytes hy) (closed_opens hyl)).mono ?_
  rw [closed_take hyl]
  rintro e w7 ⟨v7, rfl, o7, B7⟩
  obtain ⟨a7, c7, rfl, hl7, hc7, hm7, r7, d7, n7⟩ := row_of_owns o7
  have B7' : Below w.heap.size w w7 := B6'.trans (B7.mono s6)
  have s7 := B7'.size
  have r2d := r2c.below B7 (Nat.le_refl _)
  have r4d := r4c.below B7 (Nat.le_refl _)
  have r5d := r5c.below B7 (Nat.le_refl _)
  have r6d := r6.below B7 (Nat.le_refl _)
  clear o7 B7 r2c r4c r5c r6 hl7
  have hpx : (padded x2).take ma = x2 := by unfold padded; rw [← HXM.out, List.take_left]
  have hpz : ∀ k, ma ≤ k → ((padded x2)[k]?.getD 0) = 0 := fun k hk => by
    unfold padded; rw [List.getElem?_append_right (by rw [HXM.out]; exact hk), List.getElem?_replicate]; split <;> rfl
  have HPX := hid hpx
  have HPZ := hid hpz

  unfold maxLen at hm6 hm7
  have HSE1 : Hid (((strOfNums (closed x2)).toList == (strOfNums (closed y2)).toList) = decide (padded x2 = padded y2)) := hid (by
    rw [str_eq (closed_bytes hx) (closed_bytes hy)]; exact decide_eq_decide.2 (closed_inj hxl hyl))
  have HSE2 : Hid (((strOfNums (padded x2)).toList == (strOfNums (padded y2)).toList) = decide (padded x2 = padded y2)) := hid (str_eq (padded_bytes hx) (padded_bytes hy))
  clear hpx hpz
  have hpl : (padded x2).length = 84 := padded_length hxl
  have hpl2 : (padded y2).length = 84 := padded_length hyl
  have hcl : (closed x2).length = 96 := closed_length hxl
  have hcl2 : (closed y2).length = 96 := closed_length hyl
  go_wp2_with fail
  cases a6 with
  | none => have := n6 rfl; omega
  | some x6 =>
  have hkeep : ∀ v, Below w7.heap.size w7 v → (convert 25 9 (.slice (some x6) ma c6)).run Try.prog v = .ok (.string (strOfNums x2)) v ∧ (convert 25 9 (.slice a2 ma c2)).run Try.prog v = .ok (.string (strOfNums x2)) v := by
    intro v hv
    refine ⟨conv_row Try.underlying25 Try.underlying5 Try.underlying9 c6 ?_ HXM.out, conv_row Try.underlying25 Try.underlying5 Try.underlying9 c2 (r2d.below hv (Nat.le_refl _)) HXM.out⟩
    rw [← HPX.out, B8, List.map_take]; exact (r6d.below hv (Nat.le_refl _)).take ma
  have k0 : Below w7.heap.size w7 w7.drew := (Below.refl _ w7).drew
  have kk := hkeep _ k0
  have hsl : (0 : Int) ≤ (ma : Int) := by omega
  have hsl2 : (ma : Int) ≤ (c6 : Int) := by omega
  go_region_held3 (fun w' => Below w7.heap.size w7 w' ∧ (convert 25 9 (.slice (some x6) ma c6)).run Try.prog w' = .ok (.string (strOfNums x2)) w' ∧ (convert 25 9 (.slice a2 ma c2)).run Try.prog w' = .ok (.string (strOfNums x2)) w') (first | exact ⟨k0, kk⟩ | exact ⟨k8, hkeep _ k8⟩ | assumption) (first | (go_at_call 8; refine (known3_any _).mono ?_; rintro e w8 ⟨rfl, C8⟩; have k8 : Below w7.heap.size w7 w8 := k0.trans C8; clear C8))
  go_wp2_with fail
  have r4e := r4d.below k8 (Nat.le_refl _)
  have r5e := r5d.below k8 (Nat.le_refl _)
  have r6e := r6d.below k8 (Nat.le_refl _)
  have r7e := r7.below k8 (Nat.le_refl _)
  have hix := fun k (hk : k < 84) => idx_at1 (P := Try.prog) (T := 25) Try.underlying25 szB (cap := c6) (fun _ => r6e.nn (by simp; omega)) hk
  go_loop [13] (fun i => ∃ k : Nat, i = .int .i64 k ∧ ma ≤ k ∧ k ≤ 84) (fun i => (84 - intOf i).toNat)
  case atStart => exact ⟨ma, rfl, by omega, by omega⟩
  case round =>
    obtain ⟨k, rfl, hk1, hk2⟩ := hrel
    by_cases hk : k < 84
    · have hix := hix k hk
      have hc := r6e.byte (i := k) (by omega)
      rw [HPZ.out k hk1] at hc
      go_wp2_with fail
      go_round
      case rel => exact ⟨k + 1, by go_num, by omega, by omega⟩
      case measure => simp [intOf]; omega
    · obtain rfl : k = 84 := by omega
      have e4 := conv_row (P := Try.prog) Try.underlying25 Try.underlying5 Try.underlying9 c4 r4e (len := 96) hcl
      have e5 := conv_row (P := Try.prog) Try.underlying25 Try.underlying5 Try.underlying9 c5 r5e (len := 96) hcl2
      have e6 := conv_row (P := Try.prog) Try.underlying25 Try.underlying5 Try.underlying9 c6 r6e (len := 84) hpl
      have e7 := conv_row (P := Try.prog) Try.underlying25 Try.underlying5 Try.underlying9 c7 r7e (len := 84) hpl2
      go_wp2_with fail
      go_ret
      exact ⟨by rw [HSE1.out, HSE2.out]; simp, B7'.trans (k8.mono s7)⟩

end Go.Proofs.Ytjoghgnkdegeoaa
