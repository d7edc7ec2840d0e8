/- slices.Sort and slices.Compact at a list that is strictly ascending already -/
import Derived.Test.YtkflhmpecfckfaaReachW
import Derived.IntWalk
open Go Go.RowKit
namespace Go.Proofs.Ytkflhmpecfckfaa

/-- strictly ascending -/
def Asc (zs : List Int) : Prop := ∀ i, i + 1 < zs.length → zs[i]?.getD 0 < zs[i + 1]?.getD 0

theorem isNaN_any (x : Int) (w : World) : Calls Try.prog 46 #[.int .i64 x] w fun e w' => e = .returned (.bool false) ∧ w = w' := by
  go_enter Try.func46, Try.ntmps46
  go_wp2_with fail
  go_ret
  exact ⟨ret_bool (by simp), rfl⟩

theorem lessNo_any (x y : Int) (w : World) (h : y ≤ x) : Calls Try.prog 36 #[.int .i64 x, .int .i64 y] w fun e w' => e = .returned (.bool false) ∧ w = w' := by
  have hn : ¬ (x < y) := by omega
  go_enter Try.func36, Try.ntmps36
  go_wp2_with (first | (refine (isNaN_any _ _).mono ?_; rintro e w1 ⟨rfl, rfl⟩))
  go_ret
  exact ⟨ret_bool (by simp [hn]), rfl⟩

set_option maxHeartbeats 1000000 in
theorem insertS_any (g n c : Nat) (zs : List Int) (w : World) (h : Row w (some ⟨g, 0, none⟩) (I8 zs)) (hl : zs.length = n) (ha : Asc zs) (hn : n ≤ 12) :
    Calls Try.prog 30 #[.slice (some ⟨g, 0, none⟩) n c, .int .i64 0, .int .i64 n] w fun e w' => e = .returned (.tuple #[]) ∧ Below w.heap.size w w' := by
  have HL := hid hl
  clear hl
  go_enter Try.func30, Try.ntmps30
  go_wp2_with fail
  go_loopw [6] (fun v wr => ∃ i : Nat, v = .int .i64 i ∧ 1 ≤ i ∧ i ≤ 13 ∧ Below w.heap.size w wr) (fun v _ => 13 - (intOf v).toNat)
  case atStart => exact ⟨1, rfl, by omega, by omega, Below.refl _ _⟩
  case round =>
    obtain ⟨i, rfl, hi1, hi2, B⟩ := hrel
    by_cases hin : i < n
    · obtain ⟨j, rfl⟩ : ∃ j, i = j + 1 := ⟨i - 1, by omega⟩
      have c1 := (h.below B (Nat.le_refl _)).num (i := j + 1) (by rw [HL.out]; exact hin)
      have c0 := (h.below B (Nat.le_refl _)).num (i := j) (by rw [HL.out]; omega)
      have hlt := ha j (by rw [HL.out]; exact hin)
      obtain ⟨x, hx⟩ : ∃ x, zs[j + 1]?.getD 0 = x := ⟨_, rfl⟩
      obtain ⟨y, hy⟩ : ∃ y, zs[j]?.getD 0 = y := ⟨_, rfl⟩
      rw [hx] at c1 hlt
      rw [hy] at c0 hlt
      clear hx hy
      rw [show sB (some ⟨g, 0, none⟩) = g from rfl, show sO (some ⟨g, 0, none⟩) = 0 from rfl, Nat.zero_add] at c0 c1
      have S0 : wr.drew.cell? ⟨g, j + 1, none⟩ = some (.int .i64 x) ∧ wr.drew.cell? ⟨g, j, none⟩ = some (.int .i64 y) := ⟨c1, c0⟩
      have LN := fun W => lessNo_any x y W (by omega)
      have w1 : IntKind.i64.wrap ((j : Int) + 1 - 1) = (j : Int) := by rw [show (j : Int) + 1 - 1 = (j : Int) by omega]; exact IntWalk.i64_in _ (by omega)
      have w2 : IntKind.i64.wrap (j : Int) = (j : Int) := IntWalk.i64_in _ (by omega)
      have j0 : (0 : Int) ≤ (j : Int) := by omega
      have j1 : (j : Int) + 1 < (n : Int) := by omega
      have j3 : (0 : Int) ≤ (j : Int) + 1 := by omega
      have j4 : ((j : Int) + 1).toNat = j + 1 := by omega
      have j2 : (j : Int) < (n : Int) := by omega
      go_wp2_with fail
      go_loopw [7] (fun v wr2 => v = .int .i64 ((j : Int) + 1) ∧ wr2 = wr) (fun v _ => 1)
      case atStart => exact ⟨by go_num, rfl⟩
      case round =>
        obtain ⟨rfl, rfl⟩ := hrel
        go_wp2_with fail
        go_region_held3 (fun w' => w'.cell? ⟨g, j + 1, none⟩ = some (.int .i64 x) ∧ w'.cell? ⟨g, j, none⟩ = some (.int .i64 y)) (first | exact S0 | assumption) ((go_at_call 36; refine (LN _).mono ?_; rintro e w8 ⟨rfl, rfl⟩))
        go_wp2_with fail
        go_roundw
        case measure => simp [intOf]; omega
        case rel => exact ⟨j + 1 + 1, by go_num, by omega, by omega, B.drew⟩
    · go_wp2_with fail
      try simp only [Exit.inBlock, Exit.then]
      refine bodyPost_end (results_none rfl _ _ _) rfl ⟨rfl, B⟩

set_option maxHeartbeats 1000000 in
theorem pdqS_any (g n c : Nat) (lim : Int) (zs : List Int) (w : World) (h : Row w (some ⟨g, 0, none⟩) (I8 zs)) (hl : zs.length = n) (ha : Asc zs) (hn : n ≤ 12) :
    Calls Try.prog 26 #[.slice (some ⟨g, 0, none⟩) n c, .int .i64 0, .int .i64 n, .int .i64 lim] w fun e w' => e = .returned (.tuple #[]) ∧ Below w.heap.size w w' := by
  have IS := insertS_any g n c zs w h hl ha hn
  have hn1 : (n : Int) ≤ 12 := by omega
  clear hl ha
  go_enter Try.func26, Try.ntmps26
  go_wp2_with fail
  go_loopw [1, 2, 3] (fun x y v wr => x = .int .i64 0 ∧ y = .int .i64 n ∧ v = .int .i64 lim ∧ wr = w) (fun _ _ _ _ => 1)
  case atStart => exact ⟨rfl, rfl, rfl, rfl⟩
  case round =>
    obtain ⟨rfl, rfl, rfl, rfl⟩ := hrel
    go_wp2_with fail
    refine IS.mono ?_
    rintro e w1 ⟨rfl, B1⟩
    go_wp2_with fail
    try simp only [Exit.inBlock, Exit.then]
    refine bodyPost_ret (results_none rfl _ _ _) rfl ⟨rfl, B1⟩

set_option maxRecDepth 100000 in
theorem len64_0 (w : World) : Calls Try.prog 40 #[.int .u64 0] w fun e w' => (∃ z, e = .returned (.int .i64 z)) ∧ w = w' := by
  go_enter Try.func40, Try.ntmps40
  go_wp2_with fail
  go_ret
  exact ⟨⟨_, rfl⟩, rfl⟩
set_option maxRecDepth 100000 in
theorem len64_1 (w : World) : Calls Try.prog 40 #[.int .u64 1] w fun e w' => (∃ z, e = .returned (.int .i64 z)) ∧ w = w' := by
  go_enter Try.func40, Try.ntmps40
  go_wp2_with fail
  go_ret
  exact ⟨⟨_, rfl⟩, rfl⟩
set_option maxRecDepth 100000 in
theorem len64_2 (w : World) : Calls Try.prog 40 #[.int .u64 2] w fun e w' => (∃ z, e = .returned (.int .i64 z)) ∧ w = w' := by
  go_enter Try.func40, Try.ntmps40
  go_wp2_with fail
  go_ret
  exact ⟨⟨_, rfl⟩, rfl⟩

set_option maxHeartbeats 1000000 in
theorem insert0_any (w : World) : Calls Try.prog 30 #[.slice none 0 0, .int .i64 0, .int .i64 0] w fun e w' => e = .returned (.tuple #[]) ∧ w = w' := by
  go_enter Try.func30, Try.ntmps30
  go_wp2_with fail
  go_loopw [6] (fun v wr => v = .int .i64 1 ∧ wr = w) (fun v _ => 1)
  case atStart => exact ⟨rfl, rfl⟩
  case round =>
    obtain ⟨rfl, rfl⟩ := hrel
    go_wp2_with fail
    try simp only [Exit.inBlock, Exit.then]
    refine bodyPost_end (results_none rfl _ _ _) rfl ⟨rfl, rfl⟩
set_option maxHeartbeats 1000000 in
theorem pdq0_any (lim : Int) (w : World) : Calls Try.prog 26 #[.slice none 0 0, .int .i64 0, .int .i64 0, .int .i64 lim] w fun e w' => e = .returned (.tuple #[]) ∧ w = w' := by
  go_enter Try.func26, Try.ntmps26
  go_wp2_with fail
  go_loopw [1, 2, 3] (fun x y v wr => x = .int .i64 0 ∧ y = .int .i64 0 ∧ v = .int .i64 lim ∧ wr = w) (fun _ _ _ _ => 1)
  case atStart => exact ⟨rfl, rfl, rfl, rfl⟩
  case round =>
    obtain ⟨rfl, rfl, rfl, rfl⟩ := hrel
    go_wp2_with fail
    refine (insert0_any _).mono ?_
    rintro e w1 ⟨rfl, rfl⟩
    go_wp2_with fail
    try simp only [Exit.inBlock, Exit.then]
    refine bodyPost_ret (results_none rfl _ _ _) rfl ⟨rfl, rfl⟩
theorem len_0 (w : World) : Calls Try.prog 27 #[.int .u64 0] w fun e w' => (∃ z, e = .returned (.int .i64 z)) ∧ w = w' := by
  go_enter Try.func27, Try.ntmps27
  go_wp2_with fail
  refine (len64_0 w).mono ?_
  rintro e w1 ⟨⟨z, rfl⟩, rfl⟩
  go_wp2_with fail
  go_ret
  exact ⟨⟨_, rfl⟩, rfl⟩
theorem len_1 (w : World) : Calls Try.prog 27 #[.int .u64 1] w fun e w' => (∃ z, e = .returned (.int .i64 z)) ∧ w = w' := by
  go_enter Try.func27, Try.ntmps27
  go_wp2_with fail
  refine (len64_1 w).mono ?_
  rintro e w1 ⟨⟨z, rfl⟩, rfl⟩
  go_wp2_with fail
  go_ret
  exact ⟨⟨_, rfl⟩, rfl⟩
theorem len_2 (w : World) : Calls Try.prog 27 #[.int .u64 2] w fun e w' => (∃ z, e = .returned (.int .i64 z)) ∧ w = w' := by
  go_enter Try.func27, Try.ntmps27
  go_wp2_with fail
  refine (len64_2 w).mono ?_
  rintro e w1 ⟨⟨z, rfl⟩, rfl⟩
  go_wp2_with fail
  go_ret
  exact ⟨⟨_, rfl⟩, rfl⟩
theorem sort0_any (w : World) : Calls Try.prog 18 #[.slice none 0 0] w fun e w' => e = .returned (.tuple #[]) ∧ Below w.heap.size w w' := by
  go_enter Try.func18, Try.ntmps18
  go_wp2_with fail
  refine (len_0 w).mono ?_
  rintro e w1 ⟨⟨z, rfl⟩, rfl⟩
  go_wp2_with fail
  refine (pdq0_any z w).mono ?_
  rintro e w1 ⟨rfl, rfl⟩
  go_wp2_with fail
  try simp only [Exit.inBlock, Exit.then]
  refine bodyPost_end (results_none rfl _ _ _) rfl ⟨rfl, Below.refl _ _⟩
theorem sort1_any (g c : Nat) (zs : List Int) (w : World) (h : Row w (some ⟨g, 0, none⟩) (I8 zs)) (hl : zs.length = 1) (ha : Asc zs) :
    Calls Try.prog 18 #[.slice (some ⟨g, 0, none⟩) 1 c] w fun e w' => e = .returned (.tuple #[]) ∧ Below w.heap.size w w' := by
  have PS := fun z => pdqS_any g 1 c z zs w h hl ha (by decide)
  clear hl ha
  go_enter Try.func18, Try.ntmps18
  go_wp2_with fail
  refine (len_1 w).mono ?_
  rintro e w1 ⟨⟨z, rfl⟩, rfl⟩
  go_wp2_with fail
  refine (PS z).mono ?_
  rintro e w1 ⟨rfl, B1⟩
  go_wp2_with fail
  try simp only [Exit.inBlock, Exit.then]
  refine bodyPost_end (results_none rfl _ _ _) rfl ⟨rfl, B1⟩
theorem sort2_any (g c : Nat) (zs : List Int) (w : World) (h : Row w (some ⟨g, 0, none⟩) (I8 zs)) (hl : zs.length = 2) (ha : Asc zs) :
    Calls Try.prog 18 #[.slice (some ⟨g, 0, none⟩) 2 c] w fun e w' => e = .returned (.tuple #[]) ∧ Below w.heap.size w w' := by
  have PS := fun z => pdqS_any g 2 c z zs w h hl ha (by decide)
  clear hl ha
  go_enter Try.func18, Try.ntmps18
  go_wp2_with fail
  refine (len_2 w).mono ?_
  rintro e w1 ⟨⟨z, rfl⟩, rfl⟩
  go_wp2_with fail
  refine (PS z).mono ?_
  rintro e w1 ⟨rfl, B1⟩
  go_wp2_with fail
  try simp only [Exit.inBlock, Exit.then]
  refine bodyPost_end (results_none rfl _ _ _) rfl ⟨rfl, B1⟩
theorem compact0_any (w : World) : Calls Try.prog 19 #[.slice none 0 0] w fun e w' => e = .returned (.slice none 0 0) ∧ Below w.heap.size w w' := by
  go_enter Try.func19, Try.ntmps19
  go_wp2_with fail
  go_ret
  exact ⟨rfl, Below.refl _ _⟩
theorem compact1_any (g c : Nat) (w : World) : Calls Try.prog 19 #[.slice (some ⟨g, 0, none⟩) 1 c] w fun e w' => e = .returned (.slice (some ⟨g, 0, none⟩) 1 c) ∧ Below w.heap.size w w' := by
  go_enter Try.func19, Try.ntmps19
  go_wp2_with fail
  go_ret
  exact ⟨rfl, Below.refl _ _⟩
set_option maxRecDepth 100000 in
theorem compact2_any (g c : Nat) (x y : Int) (hxy : x < y) (w : World) (hx : w.cell? ⟨g, 0, none⟩ = some (.int .i64 x)) (hy : w.cell? ⟨g, 1, none⟩ = some (.int .i64 y)) :
    Calls Try.prog 19 #[.slice (some ⟨g, 0, none⟩) 2 c] w fun e w' => e = .returned (.slice (some ⟨g, 0, none⟩) 2 c) ∧ Below w.heap.size w w' := by
  have hne : (y == x) = false := by simp only [beq_eq_false_iff_ne]; omega
  go_enter Try.func19, Try.ntmps19
  go_wp2_with fail
  go_loopw [3] (fun v wr => ∃ k : Nat, v = .int .i64 k ∧ 1 ≤ k ∧ k ≤ 2 ∧ Below w.heap.size w wr) (fun v _ => 2 - (intOf v).toNat)
  case atStart => exact ⟨1, rfl, by omega, by omega, Below.refl _ _⟩
  case round =>
    obtain ⟨k, rfl, h1, h2, B⟩ := hrel
    have cx := Below.cellAt B (lt_of_cell hx) hx
    have cy := Below.cellAt B (lt_of_cell hy) hy
    by_cases hk : k = 1
    · subst hk
      have S0 : wr.drew.cell? ⟨g, 1, none⟩ = some (.int .i64 y) ∧ wr.drew.cell? ⟨g, 0, none⟩ = some (.int .i64 x) := ⟨cy, cx⟩
      have w00 : IntKind.i64.wrap (0 : Int) = 0 := IntWalk.i64_in _ (by omega)
      have w0 : IntKind.i64.wrap ((1 : Int) - 1) = 0 := by rw [show (1 : Int) - 1 = 0 by omega]; exact IntWalk.i64_in _ (by omega)
      go_wp2_with fail
      go_region_held3 (fun w' => w'.cell? ⟨g, 1, none⟩ = some (.int .i64 y) ∧ w'.cell? ⟨g, 0, none⟩ = some (.int .i64 x)) (first | exact S0 | assumption) (fail)
      go_wp2_with fail
      go_roundw
      case measure => simp [intOf]
      case rel => exact ⟨2, by go_num, by omega, by omega, B.drew⟩
    · obtain rfl : k = 2 := by omega
      go_wp2_with fail
      go_ret
      exact ⟨rfl, B⟩

end Go.Proofs.Ytkflhmpecfckfaa
