/- the walks of CountKnown and CountTurns: a counter, a peak, a flag, a budget, one block each, one behind the other -/
import Derived.Test.YthonfecjjjpnmaaCountLaw2
open Go Go.RowKit
namespace Go.Proofs.Ythonfecjjjpnmaa

structure Four (w : World) (n : Nat) (c p : Int) (f : Bool) (all lft : Int) : Prop where
  hc : isInt w n 39 c
  hp : isInt w (n + 1) 37 p
  hf : isFlag w (n + 1 + 1) 44 f
  hb : isBud w (n + 1 + 1 + 1) 52 all lft
  c0 : 0 ≤ c ∧ c ≤ 4611686018427387904
  b0 : 0 ≤ lft ∧ lft ≤ all ∧ all ≤ 4611686018427387904

abbrev In4 (n : Nat) (i : Nat) : Prop := n ≤ i ∧ i < n + 4

theorem more_bd {c : Int} (h : 0 ≤ c ∧ c ≤ 4611686018427387904) (x : Int) : 0 ≤ more c x ∧ more c x ≤ 4611686018427387904 := by unfold more; omega
theorem left_bd {l a : Int} (h : 0 ≤ l ∧ l ≤ a ∧ a ≤ 4611686018427387904) (x : Int) : 0 ≤ left l x ∧ left l x ≤ a ∧ a ≤ 4611686018427387904 := by unfold left; split <;> omega
theorem given_bd {l a : Int} (h : 0 ≤ l ∧ l ≤ a ∧ a ≤ 4611686018427387904) (x : Int) : 0 ≤ given a l x ∧ given a l x ≤ a ∧ a ≤ 4611686018427387904 := by unfold given; omega

section
variable {w : World} {n : Nat} {c p : Int} {f : Bool} {all lft : Int} (s : Four w n c p f all lft)
include s
theorem Four.add (x : Int) : Calls Try.prog 15 #[.pointer (some ⟨n, 0, none⟩), .int .i64 x] w fun e w' =>
    e = .returned (.int .i64 (more c x)) ∧ Four w' n (more c x) p f all lft ∧ Ext (In4 n) w w' :=
  (add_o s.hc s.c0.1 s.c0.2 x).mono fun _ _ ⟨he, h, k⟩ => ⟨he, ⟨h, k.blk (by omega) s.hp, k.blk (by omega) s.hf, k.blk (by omega) s.hb, more_bd s.c0 x, s.b0⟩, k.mono (by intro i _ hi; unfold In4; omega)⟩
theorem Four.note (x : Int) : Calls Try.prog 13 #[.pointer (some ⟨n + 1, 0, none⟩), .int .i64 x] w fun e w' =>
    e = .returned (.bool (decide (p < x))) ∧ Four w' n c (max p x) f all lft ∧ Ext (In4 n) w w' :=
  (note_o s.hp x).mono fun _ _ ⟨he, h, k⟩ => ⟨he, ⟨k.blk (by omega) s.hc, h, k.blk (by omega) s.hf, k.blk (by omega) s.hb, s.c0, s.b0⟩, k.mono (by intro i _ hi; unfold In4; omega)⟩
theorem Four.raise : Calls Try.prog 16 #[.pointer (some ⟨n + 1 + 1, 0, none⟩)] w fun e w' =>
    e = .returned (.bool (!f)) ∧ Four w' n c p true all lft ∧ Ext (In4 n) w w' :=
  (raise_o s.hf).mono fun _ _ ⟨he, h, k⟩ => ⟨he, ⟨k.blk (by omega) s.hc, k.blk (by omega) s.hp, h, k.blk (by omega) s.hb, s.c0, s.b0⟩, k.mono (by intro i _ hi; unfold In4; omega)⟩
theorem Four.take (x : Int) : Calls Try.prog 11 #[.pointer (some ⟨n + 1 + 1 + 1, 0, none⟩), .int .i64 x] w fun e w' =>
    e = .returned (.bool (decide (0 ≤ x ∧ x ≤ lft))) ∧ Four w' n c p f all (left lft x) ∧ Ext (In4 n) w w' :=
  (take_o s.hb s.b0.1 (Int.le_trans s.b0.2.1 s.b0.2.2) x).mono fun _ _ ⟨he, h, k⟩ => ⟨he, ⟨k.blk (by omega) s.hc, k.blk (by omega) s.hp, k.blk (by omega) s.hf, h, s.c0, left_bd s.b0 x⟩, k.mono (by intro i _ hi; unfold In4; omega)⟩
theorem Four.give (x : Int) : Calls Try.prog 12 #[.pointer (some ⟨n + 1 + 1 + 1, 0, none⟩), .int .i64 x] w fun e w' =>
    e = .returned (.tuple #[]) ∧ Four w' n c p f all (given all lft x) ∧ Ext (In4 n) w w' :=
  (give_o s.hb s.b0.1 s.b0.2.1 s.b0.2.2 x).mono fun _ _ ⟨he, h, k⟩ => ⟨he, ⟨k.blk (by omega) s.hc, k.blk (by omega) s.hp, k.blk (by omega) s.hf, h, s.c0, given_bd s.b0 x⟩, k.mono (by intro i _ hi; unfold In4; omega)⟩
theorem Four.keep {F : Nat → Prop} {w' : World} (k : Ext F w w') (hF : ∀ i, F i → ¬ In4 n i) : Four w' n c p f all lft := by
  have h0 : ¬ F n := fun h => hF _ h ⟨Nat.le_refl _, by omega⟩
  have h1 : ¬ F (n + 1) := fun h => hF _ h ⟨by omega, by omega⟩
  have h2 : ¬ F (n + 1 + 1) := fun h => hF _ h ⟨by omega, by omega⟩
  have h3 : ¬ F (n + 1 + 1 + 1) := fun h => hF _ h ⟨by omega, by omega⟩
  exact ⟨k.blk h0 s.hc, k.blk h1 s.hp, k.blk h2 s.hf, k.blk h3 s.hb, s.c0, s.b0⟩
end

/-- numbers at the end are kept behind names -/
def topN : Int := 4611686018427387904

set_option maxRecDepth 100000 in
set_option maxHeartbeats 4000000 in
theorem known_walk (w : World) : Calls Try.prog 5 #[] w fun e w' => e = .returned (.bool true) ∧ Below w.heap.size w w' := by
  go_enter Try.func5, Try.ntmps5
  go_wp2_with fail
  refine (known2_any w).mono ?_
  rintro e w1 ⟨rfl, b1⟩
  have hs1 := b1.size
  go_wp2_with fail
  refine (newBudget_o (-5) _).mono ?_
  rw [show clip (-5) = 0 by decide]
  rintro e w2 ⟨rfl, hb, x2⟩
  have hf0 : Four w2 w1.heap.size 0 0 false 0 0 := by
    refine ⟨x2.blk (fun h => h) (blk_old _ (blk_old _ (blk_new _ _))), x2.blk (fun h => h) (blk_old _ (blk_at _ (by simp))), x2.blk (fun h => h) (blk_at _ (by simp)), ?_, by decide, by decide⟩
    simpa using hb
  have hs2 : w1.heap.size + 4 ≤ w2.heap.size := by have := lt_of_blk hb; simp at this; omega
  have B2 : Below w.heap.size w w2 := Below.ext (((b1.alloc hs1 _).alloc (by simp; omega) _).alloc (by simp; omega) _) x2 (fun _ h => h.elim) (by simp; omega)
  clear hb x2
  go_wp2_with fail
  refine (newBudget_o 9223372036854775807 _).mono ?_
  have hcl : clip 9223372036854775807 = topN := by decide
  rw [hcl]
  clear hcl
  rintro e w3 ⟨rfl, hg, x3⟩
  have s3 := hf0.keep x3 (fun _ h => h.elim)
  have B3 : Below w.heap.size w w3 := Below.ext B2 x3 (fun _ h => h.elim) B2.size
  have hs3 := B3.size
  generalize hN : w2.heap.size = N at *
  clear hf0 x3 B2 hN
  go_wp2_with fail
  refine (known2_any w3).mono ?_
  rintro e w4 ⟨rfl, b4⟩
  have x4 : Ext (fun _ => False) w3 w4 := Ext.of_below b4 _
  have s4 := s3.keep x4 (fun _ h => h.elim)
  have hg4 := x4.blk (fun h => h) hg
  have B4 : Below w.heap.size w w4 := Below.ext B3 x4 (fun _ h => h.elim) B3.size
  clear b4 x4 hg s3 B3
  go_wp2_with fail
  refine (s4.add 5).mono ?_
  rw [show more 0 5 = 5 by decide]
  rintro e w5 ⟨rfl, s5, x5⟩
  have hg5 := x5.blk (by unfold In4; omega) hg4
  have B5 := Below.ext B4 x5 (by intro i hi; unfold In4 at hi; omega) B4.size
  clear x5 s4 hg4 B4
  go_wp2_with fail
  refine (s5.add (-3)).mono ?_
  rw [show more 5 (-3) = 5 by decide]
  rintro e w6 ⟨rfl, s6, x6⟩
  have hg6 := x6.blk (by unfold In4; omega) hg5
  have B6 := Below.ext B5 x6 (by intro i hi; unfold In4 at hi; omega) B5.size
  clear x6 s5 hg5 B5
  go_wp2_with fail
  refine (s6.add 9223372036854775807).mono ?_
  rw [show more 5 9223372036854775807 = topN by decide]
  rintro e w7 ⟨rfl, s7, x7⟩
  have hg7 := x7.blk (by unfold In4; omega) hg6
  have B7 := Below.ext B6 x7 (by intro i hi; unfold In4 at hi; omega) B6.size
  clear x7 s6 hg6 B6
  go_wp2_with fail
  refine (s7.add 1).mono ?_
  rw [show more topN 1 = topN by decide]
  rintro e w8 ⟨rfl, s8, x8⟩
  have hg8 := x8.blk (by unfold In4; omega) hg7
  have B8 := Below.ext B7 x8 (by intro i hi; unfold In4 at hi; omega) B7.size
  clear x8 s7 hg7 B7
  go_wp2_with fail
  refine (s8.note (-2)).mono ?_
  rw [show max (0 : Int) (-2) = 0 by decide]
  rw [show (decide ((0 : Int) < (-2)) = false) by decide]
  rintro e w9 ⟨rfl, s9, x9⟩
  have hg9 := x9.blk (by unfold In4; omega) hg8
  have B9 := Below.ext B8 x9 (by intro i hi; unfold In4 at hi; omega) B8.size
  clear x9 s8 hg8 B8
  go_wp2_with fail
  refine (s9.note 4).mono ?_
  rw [show max (0 : Int) 4 = 4 by decide]
  rw [show (decide ((0 : Int) < 4) = true) by decide]
  rintro e w10 ⟨rfl, s10, x10⟩
  have hg10 := x10.blk (by unfold In4; omega) hg9
  have B10 := Below.ext B9 x10 (by intro i hi; unfold In4 at hi; omega) B9.size
  clear x10 s9 hg9 B9
  go_wp2_with fail
  refine (s10.note 4).mono ?_
  rw [show max (4 : Int) 4 = 4 by decide]
  rw [show (decide ((4 : Int) < 4) = false) by decide]
  rintro e w11 ⟨rfl, s11, x11⟩
  have hg11 := x11.blk (by unfold In4; omega) hg10
  have B11 := Below.ext B10 x11 (by intro i hi; unfold In4 at hi; omega) B10.size
  clear x11 s10 hg10 B10
  go_wp2_with fail
  refine (s11.note 3).mono ?_
  rw [show max (4 : Int) 3 = 4 by decide]
  rw [show (decide ((4 : Int) < 3) = false) by decide]
  rintro e w12 ⟨rfl, s12, x12⟩
  have hg12 := x12.blk (by unfold In4; omega) hg11
  have B12 := Below.ext B11 x12 (by intro i hi; unfold In4 at hi; omega) B11.size
  clear x12 s11 hg11 B11
  go_wp2_with fail
  refine (s12.raise).mono ?_
  rintro e w13 ⟨rfl, s13, x13⟩
  have hg13 := x13.blk (by unfold In4; omega) hg12
  have B13 := Below.ext B12 x13 (by intro i hi; unfold In4 at hi; omega) B12.size
  clear x13 s12 hg12 B12
  go_wp2_with fail
  refine (s13.raise).mono ?_
  rintro e w14 ⟨rfl, s14, x14⟩
  have hg14 := x14.blk (by unfold In4; omega) hg13
  have B14 := Below.ext B13 x14 (by intro i hi; unfold In4 at hi; omega) B13.size
  clear x14 s13 hg13 B13
  go_wp2_with fail
  refine (s14.take 1).mono ?_
  rw [show left 0 1 = 0 by decide]
  rw [show (decide (0 ≤ (1 : Int) ∧ (1 : Int) ≤ 0) = false) by decide]
  rintro e w15 ⟨rfl, s15, x15⟩
  have hg15 := x15.blk (by unfold In4; omega) hg14
  have B15 := Below.ext B14 x15 (by intro i hi; unfold In4 at hi; omega) B14.size
  clear x15 s14 hg14 B14
  go_wp2_with fail
  refine (s15.take 0).mono ?_
  rw [show left 0 0 = 0 by decide]
  rw [show (decide (0 ≤ (0 : Int) ∧ (0 : Int) ≤ 0) = true) by decide]
  rintro e w16 ⟨rfl, s16, x16⟩
  have hg16 := x16.blk (by unfold In4; omega) hg15
  have B16 := Below.ext B15 x16 (by intro i hi; unfold In4 at hi; omega) B15.size
  clear x16 s15 hg15 B15
  go_wp2_with fail
  refine (take_o hg16 (by decide) (by decide) (-1)).mono ?_
  rw [show left topN (-1) = topN by decide]
  rw [show (decide (0 ≤ ((-1) : Int) ∧ ((-1) : Int) ≤ topN) = false) by decide]
  rintro e w17 ⟨rfl, hg17, x17⟩
  have s17 := s16.keep x17 (by rintro i rfl; unfold In4; omega)
  have B17 := Below.ext B16 x17 (by rintro i rfl; omega) B16.size
  clear x17 s16 hg16 B16
  go_wp2_with fail
  refine (s17.give 9).mono ?_
  rw [show given 0 0 9 = 0 by decide]
  rintro e w18 ⟨rfl, s18, x18⟩
  have hg18 := x18.blk (by unfold In4; omega) hg17
  have B18 := Below.ext B17 x18 (by intro i hi; unfold In4 at hi; omega) B17.size
  clear x18 s17 hg17 B17
  go_wp2_with fail
  refine (take_o hg18 (by decide) (by decide) 2305843009213693952).mono ?_
  rw [show left topN 2305843009213693952 = 2305843009213693952 by decide]
  rw [show (decide (0 ≤ (2305843009213693952 : Int) ∧ (2305843009213693952 : Int) ≤ topN) = true) by decide]
  rintro e w19 ⟨rfl, hg19, x19⟩
  have s19 := s18.keep x19 (by rintro i rfl; unfold In4; omega)
  have B19 := Below.ext B18 x19 (by rintro i rfl; omega) B18.size
  clear x19 s18 hg18 B18
  go_wp2_with fail
  refine (give_o hg19 (by decide) (by decide) (by decide) 4611686018427387904).mono ?_
  rw [show given topN 2305843009213693952 4611686018427387904 = topN by decide]
  rintro e w20 ⟨rfl, hg20, x20⟩
  have s20 := s19.keep x20 (by rintro i rfl; unfold In4; omega)
  have B20 := Below.ext B19 x20 (by rintro i rfl; omega) B19.size
  clear x20 s19 hg19 B19
  go_wp2_with fail
  refine (give_o hg20 (by decide) (by decide) (by decide) (-1)).mono ?_
  rw [show given topN topN (-1) = topN by decide]
  rintro e w21 ⟨rfl, hg21, x21⟩
  have s21 := s20.keep x21 (by rintro i rfl; unfold In4; omega)
  have B21 := Below.ext B20 x21 (by rintro i rfl; omega) B20.size
  clear x21 s20 hg20 B20
  go_wp2_with fail
  refine (cload_o s21.hc).mono ?_
  rintro e w22 ⟨rfl, rfl⟩
  go_wp2_with fail
  refine (pload_o s21.hp).mono ?_
  rintro e w22 ⟨rfl, rfl⟩
  go_wp2_with fail
  refine (raised_o s21.hf).mono ?_
  rintro e w22 ⟨rfl, rfl⟩
  go_wp2_with fail
  refine (left_o s21.hb).mono ?_
  rintro e w22 ⟨rfl, rfl⟩
  go_wp2_with fail
  refine (left_o hg21).mono ?_
  rintro e w22 ⟨rfl, rfl⟩
  go_wp2_with fail
  go_ret
  exact ⟨rfl, B21⟩

end Go.Proofs.Ythonfecjjjpnmaa
