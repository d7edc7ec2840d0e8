/- the laws of chapter 2: known -/
import Derived.Test.YthonfecjjjpnmaaCountObj
import Derived.Test.YthonfecjjjpnmaaArgs
open Go Go.RowKit
namespace Go.Proofs.Ythonfecjjjpnmaa

theorem known2_any (w : World) : Calls Try.prog 7 #[] w fun e w' => e = .returned (.bool true) ∧ Below w.heap.size w w' := by
  go_enter Try.func7, Try.ntmps7
  go_wp2_with fail
  refine (newBudget_o 3 w).mono ?_
  rintro e w1 ⟨rfl, h1, x1⟩
  go_wp2_with fail
  refine (take_o h1 (by decide) (by decide) 2).mono ?_
  rintro e w2 ⟨rfl, h2, x2⟩
  go_wp2_with fail
  refine (take_o h2 (by decide) (by decide) 2).mono ?_
  rintro e w3 ⟨rfl, h3, x3⟩
  go_wp2_with fail
  refine (left_o h3).mono ?_
  rintro e w4 ⟨rfl, rfl⟩
  go_wp2_with fail
  go_ret
  refine ⟨rfl, ?_⟩
  have b1 : Below w.heap.size w w1 := Below.of_ext x1 (fun _ h => h.elim)
  have b2 := Below.ext b1 x2 (by rintro i rfl; exact Nat.le_refl _) b1.size
  exact Below.ext b2 x3 (by rintro i rfl; exact Nat.le_refl _) b2.size

/-- the greatest of some numbers, and 0 -/
def top (l : List Int) : Int := l.foldr max 0
theorem top_snoc (l : List Int) (x : Int) : top (l ++ [x]) = max (top l) x := by
  induction l with
  | nil => simp [top]; omega
  | cons y l ih => unfold top at *; simp only [List.cons_append, List.foldr_cons, ih]; omega
theorem top_nonneg (l : List Int) : 0 ≤ top l := by
  induction l with
  | nil => simp [top]
  | cons y l ih => unfold top at *; simp only [List.foldr_cons]; omega
theorem top_take (z : List Int) (k : Nat) (h : k < z.length) : top (z.take (k + 1)) = max (top (z.take k)) (z[k]?.getD 0) := by
  rw [List.take_succ_eq_append_getElem h, top_snoc, List.getElem?_eq_getElem h]; rfl
theorem top_drop (z : List Int) (k : Nat) (h : k < z.length) : top (z.drop k) = max (z[k]?.getD 0) (top (z.drop (k + 1))) := by
  rw [List.drop_eq_getElem_cons h, List.getElem?_eq_getElem h]; rfl


theorem sz3 : (Try.prog.info? 3).map (·.size) = some 1 := by kernel_rfl

set_option maxRecDepth 100000 in
theorem peaks_walk (a : Option Addr) (len cap : Nat) (z : List Int) (w : World) (w0 : Ints w a len z) :
    Calls Try.prog 4 #[.slice a len cap] w fun e w' => e = .returned (.bool true) ∧ Below w.heap.size w w' := by
  have hm := w0.bound
  have HZ := hid w0.length
  have hix := fun k (hk : k < len) => idx_at1 (P := Try.prog) (T := 22) Try.underlying22 sz3 (cap := cap) w0.nn hk
  go_enter Try.func4, Try.ntmps4
  go_wp2_with fail
  refine (known2_any w).mono ?_
  rintro e w1 ⟨rfl, b1⟩
  have hs1 := b1.size
  go_wp2_with fail
  go_loopw [6, 7] (fun h i wr => ∃ k : Nat, k ≤ len ∧ k ≤ 40 ∧ i = .int .i64 k ∧ h = .int .i64 (top (z.take k)) ∧
      isInt wr w1.heap.size 37 (top (z.take k)) ∧ isInt wr (w1.heap.size + 1) 37 0 ∧ Below w.heap.size w wr) (fun _ i _ => len - (intOf i).toNat)
  case atStart =>
    exact ⟨0, by omega, by omega, rfl, by simp [top], blk_old _ (blk_new _ _), blk_at _ (by simp), (b1.alloc b1.size _).alloc (by simpa using Nat.le_succ_of_le b1.size) _⟩
  case round =>
    obtain ⟨k, hk, hk40, rfl, rfl, hp, hq, hb⟩ := hrel
    by_cases hlt : k < len ∧ k < 40
    · have hix := hix k hlt.1
      have hc := (w0.below hb (Nat.le_refl _)).cell k hlt.1
      have hsb : sB a < w.heap.size := w0.lt (by omega)
      obtain ⟨hlt, hlt40⟩ := hlt
      go_wp2_with fail
      go_region_held3 (fun w' => w'.cell? ⟨sB a, sO a + k, none⟩ = some (.int .i64 (z[k]?.getD 0))) (first | exact hc | exact hc2)
        (first | (go_at_call 13; refine (note_o (w := wr.drew) hp (z[k]?.getD 0)).mono ?_; rintro e w2 ⟨rfl, hp2, x2⟩; have hc2 := Ext.cell x2 (by omega) hc))
      go_wp2_with fail
      go_roundw
      case rel => exact ⟨k + 1, by omega, by omega, by go_num, by rw [top_take z k (by rw [HZ.out]; omega)], by rw [top_take z k (by rw [HZ.out]; omega)]; exact hp2, x2.blk (by omega) hq, Below.ext hb.drew x2 (by rintro i rfl; exact hs1) hb.size⟩
      case measure => simp [intOf]; omega
    · have hkn : min (len : Int) 40 = k := by omega
      have HK := hid hkn
      clear hkn
      go_wp2_with fail
      go_loopw [8] (fun i wr => ∃ (j : Nat) (x : Int), j ≤ k ∧ x = j - 1 ∧ i = .int .i64 x ∧
        isInt wr w1.heap.size 37 (top (z.take k)) ∧ isInt wr (w1.heap.size + 1) 37 (top ((z.take k).drop j)) ∧ Below w.heap.size w wr) (fun i _ => (intOf i + 1).toNat)
      case atStart =>
        exact ⟨k, _, by omega, by rw [HK.out], rfl, hp, by rw [List.drop_eq_nil_of_le (by simp; omega)]; exact hq, hb⟩
      case round =>
        obtain ⟨j, x, hj, hx, rfl, hp2, hq2, hb2⟩ := hrel
        cases j with
        | zero =>
          obtain rfl : x = -1 := by omega
          clear hx
          simp only [List.drop_zero] at hq2
          go_wp2_with fail
          refine (known2_any wr).mono ?_
          rintro e w3 ⟨rfl, b3⟩
          have hp3 : isInt w3 w1.heap.size 37 (top (z.take k)) := (b3.block _ (lt_of_blk hp2)).trans hp2
          have hq3 : isInt w3 (w1.heap.size + 1) 37 (top (z.take k)) := (b3.block _ (lt_of_blk hq2)).trans hq2
          go_wp2_with fail
          refine (pload_o hp3).mono ?_
          rintro e w4 ⟨rfl, rfl⟩
          go_wp2_with fail
          refine (pload_o hq3).mono ?_
          rintro e w4 ⟨rfl, rfl⟩
          go_wp2_with fail
          refine (note_o hp3 (top (z.take k))).mono ?_
          rintro e w4 ⟨rfl, hp4, x4⟩
          rw [Int.max_self] at hp4
          go_wp2_with fail
          refine (pload_o hp4).mono ?_
          rintro e w5 ⟨rfl, rfl⟩
          go_wp2_with fail
          go_ret
          have hs3 := b3.size
          exact ⟨rfl, Below.ext (hb2.trans (b3.mono hb2.size)) x4 (by rintro i rfl; exact hs1) (by have := hb2.size; omega)⟩
        | succ j =>
          obtain rfl : x = (j : Int) := by omega
          clear hx
          have hix := hix j (by omega)
          have hc := (w0.below hb2 (Nat.le_refl _)).cell j (by omega)
          have hsb : sB a < w.heap.size := w0.lt (by omega)
          go_wp2_with fail
          refine (note_o hq2 (z[j]?.getD 0)).mono ?_
          rintro e w4 ⟨rfl, hq4, x4⟩
          have hgo : j < (z.take k).length := by simp [HZ.out]; omega
          have htop := top_drop (z.take k) j hgo
          rw [List.getElem?_take, if_pos (by omega), Int.max_comm] at htop
          rw [← htop] at hq4
          clear htop hgo
          go_wp2_with fail
          go_roundw
          case rel => exact ⟨j, _, by omega, rfl, by go_num, x4.blk (by omega) hp2, hq4, Below.ext hb2 x4 (by rintro i rfl; omega) hb2.size⟩
          case measure => simp [intOf]

end Go.Proofs.Ythonfecjjjpnmaa
