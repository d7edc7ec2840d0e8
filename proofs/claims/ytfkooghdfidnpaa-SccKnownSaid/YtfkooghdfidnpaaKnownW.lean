/- SccKnown: the walk -/
import Derived.Test.YtfkooghdfidnpaaGoodW
import Derived.Test.YtfkooghdfidnpaaSccLeadsW
open Go Go.RowKit
namespace Go.Proofs.Ytfkooghdfidnpaa
open Tj

def sL (v : Nat) : List Int := ([[1], [2, 9], [1, 3], [], [4, -1]] : List (List Int))[v]?.getD []
def sR (v : Nat) : Bool := ([true, false, true, true, true] : List Bool)[v]?.getD false
theorem s0 : edgeE 5 sL 0 = [1] := by decide
theorem s1 : edgeE 5 sL 1 = [2] := by decide
theorem s2 : edgeE 5 sL 2 = [1, 3] := by decide
theorem s3 : edgeE 5 sL 3 = [] := by decide
theorem s4 : edgeE 5 sL 4 = [4] := by decide
theorem s12 : Rch (edgeE 5 sL) 1 2 := .one (by rw [s1]; simp)
theorem s21 : Rch (edgeE 5 sL) 2 1 := .one (by rw [s2]; simp)
theorem from1 {v : Nat} (h : Rch (edgeE 5 sL) 1 v) : v = 1 ∨ v = 2 ∨ v = 3 :=
  Rch.closed (S := fun v => v = 1 ∨ v = 2 ∨ v = 3) (fun v hv u hu => by
    rcases hv with rfl | rfl | rfl
    · rw [s1] at hu; simp at hu; omega
    · rw [s2] at hu; simp at hu; omega
    · rw [s3] at hu; simp at hu) (.inl rfl) h
theorem from2 {v : Nat} (h : Rch (edgeE 5 sL) 2 v) : v = 1 ∨ v = 2 ∨ v = 3 := from1 (s12.trans h)
theorem from3 {v : Nat} (h : Rch (edgeE 5 sL) 3 v) : v = 3 :=
  Rch.closed (S := fun v => v = 3) (fun v hv u hu => by subst hv; rw [s3] at hu; simp at hu) rfl h
theorem from4 {v : Nat} (h : Rch (edgeE 5 sL) 4 v) : v = 4 :=
  Rch.closed (S := fun v => v = 4) (fun v hv u hu => by subst hv; rw [s4] at hu; simpa using hu) rfl h
theorem from0 {v : Nat} (h : Rch (edgeE 5 sL) 0 v) : v = 0 ∨ v = 1 ∨ v = 2 ∨ v = 3 :=
  Rch.closed (S := fun v => v = 0 ∨ v = 1 ∨ v = 2 ∨ v = 3) (fun v hv u hu => by
    rcases hv with rfl | rfl | rfl | rfl
    · rw [s0] at hu; simp at hu; omega
    · rw [s1] at hu; simp at hu; omega
    · rw [s2] at hu; simp at hu; omega
    · rw [s3] at hu; simp at hu) (.inl rfl) h
theorem sParts {p : Nat → Nat} (h : IsPart 5 (edgeE 5 sL) p) : p 0 = 0 ∧ p 1 = 1 ∧ p 2 = 1 ∧ p 3 = 3 ∧ p 4 = 4 := by
  have h0 := (h 0 (by decide)).2.2 0 (.refl _) (.refl _)
  have h1 := (h 1 (by decide)).2.2 1 (.refl _) (.refl _)
  have h1' := from1 (h 1 (by decide)).1
  have h2 := (h 2 (by decide)).2.2 1 s21 s12
  have h2' := from2 (h 2 (by decide)).1
  have h3 := from3 (h 3 (by decide)).1
  have h4 := from4 (h 4 (by decide)).1
  omega
theorem sBack {b : Nat → Bool} (h : ∀ i, i < 5 → (b i = true ↔ Lds (edgeE 5 sL) i i)) : b 0 = false ∧ b 1 = true ∧ b 2 = true ∧ b 3 = false ∧ b 4 = true := by
  refine ⟨?_, (h 1 (by decide)).2 ⟨2, by rw [s1]; simp, s21⟩, (h 2 (by decide)).2 ⟨1, by rw [s2]; simp, s12⟩, ?_, (h 4 (by decide)).2 ⟨4, by rw [s4]; simp, .refl _⟩⟩
  · cases e : b 0 with
    | false => rfl
    | true =>
      obtain ⟨t, ht, hr⟩ := (h 0 (by decide)).1 e
      rw [s0] at ht
      simp at ht
      subst ht
      have := from1 hr
      omega
  · cases e : b 3 with
    | false => rfl
    | true =>
      obtain ⟨t, ht, hr⟩ := (h 3 (by decide)).1 e
      rw [s3] at ht
      simp at ht
theorem sGood1 (p : Nat → Nat) (b f : Nat → Bool) (hp : IsPart 5 (edgeE 5 sL) p) (hb : ∀ i, i < 5 → (b i = true ↔ Lds (edgeE 5 sL) i i)) (hf : ∀ v, f v = true ↔ ∃ j, j < 1 ∧ Rch (edgeE 5 sL) j v) : goodL p b sR f 5 = [1] := by
  obtain ⟨p0, p1, p2, p3, p4⟩ := sParts hp
  obtain ⟨b0, b1, b2, b3, b4⟩ := sBack hb
  have f2 : f 2 = true := (hf 2).2 ⟨0, by decide, (Rch.one (by rw [s0]; simp)).trans s12⟩
  have f4 : f 4 = false := by
    cases e : f 4 with
    | false => rfl
    | true =>
      obtain ⟨j, hj, hr⟩ := (hf 4).1 e
      obtain rfl : j = 0 := by omega
      have := from0 hr
      omega
  simp [goodL, List.range, List.range.loop, List.filter, sR, b0, b1, b2, b3, b4, f2, f4, p2]
theorem sGood2 (p : Nat → Nat) (b f : Nat → Bool) (hp : IsPart 5 (edgeE 5 sL) p) (hb : ∀ i, i < 5 → (b i = true ↔ Lds (edgeE 5 sL) i i)) (hf : ∀ v, f v = true ↔ ∃ j, j < 5 ∧ Rch (edgeE 5 sL) j v) : goodL p b sR f 5 = [1, 4] := by
  obtain ⟨p0, p1, p2, p3, p4⟩ := sParts hp
  obtain ⟨b0, b1, b2, b3, b4⟩ := sBack hb
  have f2 : f 2 = true := (hf 2).2 ⟨2, by decide, .refl _⟩
  have f4 : f 4 = true := (hf 4).2 ⟨4, by decide, .refl _⟩
  simp [goodL, List.range, List.range.loop, List.filter, sR, b0, b1, b2, b3, b4, f2, f4, p2, p4]
theorem sGood0 (p : Nat → Nat) (b f : Nat → Bool) (hf : ∀ v, f v = true ↔ ∃ j, j < 0 ∧ Rch (edgeE 5 sL) j v) : goodL p b sR f 5 = [] := by
  have h : ∀ v, f v = false := fun v => by
    cases e : f v with
    | false => rfl
    | true => obtain ⟨j, hj, _⟩ := (hf v).1 e; omega
  simp [goodL, h]

theorem goodLen_any (ea : Option Addr) (n ec : Nat) (a : Option Addr) (m c : Nat) (first : Int) (h : n ≠ m) (w : World) : Calls Try.prog 14 #[.slice ea n ec, .slice a m c, .int .i64 first] w fun e w' => e = .returned (.slice none 0 0) ∧ w = w' := by
  have hne : ((m : Int) == (n : Int)) = false := by simp; omega
  go_enter Try.func14, Try.ntmps14
  go_wp2_with fail
  go_ret
  exact ⟨rfl, rfl⟩
theorem edges_nil (w : World) : EdgesAt w none 0 (fun _ => []) := ⟨fun h => by omega, fun v hv => by omega⟩

set_option maxRecDepth 100000 in
set_option maxHeartbeats 4000000 in
theorem sccKnown_walk (w : World) : Calls Try.prog 5 #[] w fun e w' => e = .returned (.bool true) ∧ Below w.heap.size w w' := by
  go_enter Try.func5, Try.ntmps5
  go_wp2_with fail
  refine (known20_any w).mono ?_
  rintro e w1 ⟨rfl, B1⟩
  obtain ⟨W, hW⟩ : ∃ W, (((((w1.alloc (.cells #[.int .i64 1] 3)).alloc (.cells #[.int .i64 2, .int .i64 9] 3)).alloc (.cells #[.int .i64 1, .int .i64 3] 3)).alloc (.cells #[] 3)).alloc (.cells #[.int .i64 4, .int .i64 (-1)] 3)).alloc
    (.cells #[.slice (some ⟨w1.heap.size, 0, none⟩) 1 1, .slice (some ⟨w1.heap.size + 1, 0, none⟩) 2 2, .slice (some ⟨w1.heap.size + 1 + 1, 0, none⟩) 2 2, .slice (some ⟨w1.heap.size + 1 + 1 + 1, 0, none⟩) 0 0, .slice (some ⟨w1.heap.size + 1 + 1 + 1 + 1, 0, none⟩) 2 2] 25) = W := ⟨_, rfl⟩
  have b0 : W.heap[w1.heap.size]? = some (.cells (I8 [1]).toArray 3 (0, 0)) := hW ▸ blk_old _ (blk_old _ (blk_old _ (blk_old _ (blk_old _ (blk_new w1 _)))))
  have b1 : W.heap[w1.heap.size + 1]? = some (.cells (I8 [2, 9]).toArray 3 (0, 0)) := hW ▸ blk_old _ (blk_old _ (blk_old _ (blk_old _ (blk_at _ (by simp)))))
  have b2 : W.heap[w1.heap.size + 1 + 1]? = some (.cells (I8 [1, 3]).toArray 3 (0, 0)) := hW ▸ blk_old _ (blk_old _ (blk_old _ (blk_at _ (by simp))))
  have b3 : W.heap[w1.heap.size + 1 + 1 + 1]? = some (.cells (I8 []).toArray 3 (0, 0)) := hW ▸ blk_old _ (blk_old _ (blk_at _ (by simp)))
  have b4 : W.heap[w1.heap.size + 1 + 1 + 1 + 1]? = some (.cells (I8 [4, -1]).toArray 3 (0, 0)) := hW ▸ blk_old _ (blk_at _ (by simp))
  have b5 : W.heap[w1.heap.size + 1 + 1 + 1 + 1 + 1]? = some (.cells #[.slice (some ⟨w1.heap.size, 0, none⟩) 1 1, .slice (some ⟨w1.heap.size + 1, 0, none⟩) 2 2, .slice (some ⟨w1.heap.size + 1 + 1, 0, none⟩) 2 2, .slice (some ⟨w1.heap.size + 1 + 1 + 1, 0, none⟩) 0 0, .slice (some ⟨w1.heap.size + 1 + 1 + 1 + 1, 0, none⟩) 2 2] 25 (0, 0)) := hW ▸ blk_at _ (by simp)
  have hB : Below w1.heap.size w1 W := hW ▸ ((((((Below.refl _ w1).alloc (Nat.le_refl _) _).alloc (by simp only [size_alloc]; omega) _).alloc (by simp only [size_alloc]; omega) _).alloc (by simp only [size_alloc]; omega) _).alloc (by simp only [size_alloc]; omega) _).alloc (by simp only [size_alloc]; omega) _
  have ED : EdgesAt W (some ⟨w1.heap.size + 1 + 1 + 1 + 1 + 1, 0, none⟩) 5 sL := by
    refine ⟨fun _ => rfl, fun v hv => ?_⟩
    rcases v with _ | _ | _ | _ | _ | v
    · exact ⟨_, _, _, blk_cell b5 rfl, ints_of_blk b0 (by decide), by decide⟩
    · exact ⟨_, _, _, blk_cell b5 rfl, ints_of_blk b1 (by decide), by decide⟩
    · exact ⟨_, _, _, blk_cell b5 rfl, ints_of_blk b2 (by decide), by decide⟩
    · exact ⟨_, _, _, blk_cell b5 rfl, ints_of_blk b3 (by decide), by decide⟩
    · exact ⟨_, _, _, blk_cell b5 rfl, ints_of_blk b4 (by decide), by decide⟩
    · omega
  have s1 := B1.size
  have BW : Below w.heap.size w W := B1.trans (hB.mono (by omega))
  clear b0 b1 b2 b3 b4 b5 hB B1
  go_wp2_with fail
  refine (back_any _ 5 5 sL W ED (by decide)).mono ?_
  rintro e w2 ⟨gb, o, rfl, hb, HO, hgb, B2⟩
  have lb := lt_of_blk hb
  obtain ⟨o0, o1, o2, o3, o4⟩ := sBack HO
  go_wp2_with fail
  refine (known20_any w2).mono ?_
  rintro e w3 ⟨rfl, B3⟩
  have hb3 := (B3.block gb lb).trans hb
  have BB : Below W.heap.size W w3 := B2.trans (B3.mono B2.size)
  have s3 : W.heap.size ≤ w3.heap.size := BB.size
  have lb3 := lt_of_blk hb3
  go_wp2_with fail
  obtain ⟨W4, hW4⟩ : ∃ W4, w3.alloc (.cells #[.bool true, .bool false, .bool true, .bool true, .bool true] 4) = W4 := ⟨_, rfl⟩
  have hrd : W4.heap[w3.heap.size]? = some (.cells #[.bool true, .bool false, .bool true, .bool true, .bool true] 4 (0, 0)) := hW4 ▸ blk_new w3 _
  have hb4 : W4.heap[gb]? = some (.cells (tabB 5 o).toArray 4 (0, 0)) := hW4 ▸ blk_old _ hb3
  have B4 : Below W.heap.size W W4 := hW4 ▸ BB.alloc s3 _
  rw [hW4]
  obtain ⟨rb, hrb⟩ : ∃ rb, w3.heap.size = rb := ⟨_, rfl⟩
  rw [hrb] at hrd ⊢
  have lr := lt_of_blk hrd
  have lb4 := lt_of_blk hb4
  have s4 : W.heap.size ≤ W4.heap.size := B4.size
  have ED4 := ED.below B4 (Nat.le_refl _)
  have hED : ∀ w', Below W4.heap.size W4 w' → EdgesAt w' (some ⟨w1.heap.size + 1 + 1 + 1 + 1 + 1, 0, none⟩) 5 sL := fun w' h => ED4.below h (Nat.le_refl _)
  have hRR : ∀ w', Below W4.heap.size W4 w' → ∀ i, i < 5 → w'.cell? ⟨rb, i, none⟩ = some (.bool (sR i)) := fun w' h i hi => by
    have hr' := (h.block rb lr).trans hrd
    rcases i with _ | _ | _ | _ | _ | i
    · exact blk_cell hr' rfl
    · exact blk_cell hr' rfl
    · exact blk_cell hr' rfl
    · exact blk_cell hr' rfl
    · exact blk_cell hr' rfl
    · omega
  clear hW4 hrb hb hb3 B2 B3 HO ED hrd
  refine (parts_any _ 5 5 sL W4 ED4 (by decide)).mono ?_
  rintro e w5 ⟨gp, p, rfl, hp, IP, hgp, B5⟩
  have hrow := tab_row hp
  have hpl : (List.range 5).map (fun v => (p v : Int)) = [0, 1, 1, 3, 4] := by
    obtain ⟨p0, p1, p2, p3, p4⟩ := sParts IP
    simp [List.range, List.range.loop, p0, p1, p2, p3, p4]
  rw [hpl] at hrow
  have s5 : W4.heap.size ≤ w5.heap.size := B5.size
  clear hpl hp IP
  go_wp2_with fail
  refine (sameInts_any _ 5 5 [0, 1, 1, 3, 4] _ 5 5 [0, 1, 1, 3, 4] _ (hrow.alloc _) (row_new _ _ _) rfl rfl (by decide)).mono ?_
  rintro e w6 ⟨r, rfl, hr, B6⟩
  obtain rfl : r = true := hr.2 rfl
  have B46 : Below W4.heap.size W4 w6 := (B5.alloc s5 _).trans (B6.mono (by simp only [size_alloc]; omega))
  have s6 : W4.heap.size ≤ w6.heap.size := B46.size
  have hb6 := (B46.block gb lb4).trans hb4
  have c0 : w6.cell? ⟨gb, 0, none⟩ = some (.bool false) := by have := blk_cell hb6 (tabB_get (show 0 < 5 by decide)); rw [o0] at this; exact this
  have c1 : w6.cell? ⟨gb, 1, none⟩ = some (.bool true) := by have := blk_cell hb6 (tabB_get (show 1 < 5 by decide)); rw [o1] at this; exact this
  have c2 : w6.cell? ⟨gb, 2, none⟩ = some (.bool true) := by have := blk_cell hb6 (tabB_get (show 2 < 5 by decide)); rw [o2] at this; exact this
  have c3 : w6.cell? ⟨gb, 3, none⟩ = some (.bool false) := by have := blk_cell hb6 (tabB_get (show 3 < 5 by decide)); rw [o3] at this; exact this
  have c4 : w6.cell? ⟨gb, 4, none⟩ = some (.bool true) := by have := blk_cell hb6 (tabB_get (show 4 < 5 by decide)); rw [o4] at this; exact this
  have G1 := good_any _ 5 5 sL rb 5 sR 1 1 1 [1] w6 (hED w6 B46) (by decide) (by decide) (hRR w6 B46) (by decide) (by decide) (by decide) (by decide) (fun i hi => by simp at hi) sGood1
  clear B5 B6 hr hrow hb6 o0 o1 o2 o3 o4 hb4
  go_wp2_with fail
  refine G1.mono ?_
  rintro e w7 ⟨a1, q1, rfl, I1, B7⟩
  have B47 : Below W4.heap.size W4 w7 := B46.trans (B7.mono s6)
  have s7 : W4.heap.size ≤ w7.heap.size := B47.size
  simp only [List.length_cons, List.length_nil, Nat.zero_add] at I1 ⊢
  go_wp2_with fail
  refine (sameInts_any a1 1 q1 [1] _ 1 1 [1] _ (I1.row.alloc _) (row_new _ _ _) rfl rfl (by decide)).mono ?_
  rintro e w8 ⟨r, rfl, hr, B8⟩
  obtain rfl : r = true := hr.2 rfl
  have B48 : Below W4.heap.size W4 w8 := (B47.alloc s7 _).trans (B8.mono (by simp only [size_alloc]; omega))
  have s8 : W4.heap.size ≤ w8.heap.size := B48.size
  have G2 := good_any _ 5 5 sL rb 5 sR 9 5 5 [1, 4] w8 (hED w8 B48) (by decide) (by decide) (hRR w8 B48) (by decide) (by decide) (by decide) (by decide) (fun i hi => by obtain rfl : i = 0 := (by have : i + 1 < 2 := hi; omega); decide) sGood2
  clear B7 B8 hr I1 c0 c1 c2 c3 c4 B46 B47
  go_wp2_with fail
  refine G2.mono ?_
  rintro e w9 ⟨a2, q2, rfl, I2, B9⟩
  have B49 : Below W4.heap.size W4 w9 := B48.trans (B9.mono s8)
  have s9 : W4.heap.size ≤ w9.heap.size := B49.size
  simp only [List.length_cons, List.length_nil, Nat.zero_add, Nat.reduceAdd] at I2 ⊢
  go_wp2_with fail
  refine (sameInts_any a2 2 q2 [1, 4] _ 2 2 [1, 4] _ (I2.row.alloc _) (row_new _ _ _) rfl rfl (by decide)).mono ?_
  rintro e w10 ⟨r, rfl, hr, B10⟩
  obtain rfl : r = true := hr.2 rfl
  have B410 : Below W4.heap.size W4 w10 := (B49.alloc s9 _).trans (B10.mono (by simp only [size_alloc]; omega))
  have s10 : W4.heap.size ≤ w10.heap.size := B410.size
  have G3 := good_any _ 5 5 sL rb 5 sR (-1) (-1) 0 [] w10 (hED w10 B410) (by decide) (by decide) (hRR w10 B410) (by decide) (by decide) (by decide) (by decide) (fun i hi => by simp at hi) (fun p b f _ _ hf => sGood0 p b f hf)
  clear B9 B10 hr I2
  go_wp2_with fail
  refine G3.mono ?_
  rintro e w11 ⟨a3, q3, rfl, I3, B11⟩
  have B411 : Below W4.heap.size W4 w11 := B410.trans (B11.mono s10)
  have s11 : W4.heap.size ≤ w11.heap.size := B411.size
  simp only [List.length_nil] at I3 ⊢
  go_wp2_with fail
  refine (goodLen_any _ 5 5 _ 4 4 5 (by decide) w11).mono ?_
  rintro e w12 ⟨rfl, rfl⟩
  go_wp2_with fail
  refine (parts_any none 0 0 (fun _ => []) w11 (edges_nil _) (by decide)).mono ?_
  rintro e w13 ⟨g5, p5, rfl, hp5, IP5, hg5, B13⟩
  go_wp2_with fail
  go_ret
  refine ⟨rfl, ?_⟩
  have hW4 : Below w.heap.size w W4 := BW.trans (B4.mono BW.size)
  have hs := hW4.size
  exact (hW4.trans (B411.mono hs)).trans (B13.mono (by omega))

end Go.Proofs.Ytfkooghdfidnpaa
