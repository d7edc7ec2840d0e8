/- chapter 3: a closed track of which up to four bytes, one behind the other, were turned opens just where none was -/
import Derived.Test.YtjoghgnkdegeoaaSealSum
import Derived.Test.YtjoghgnkdegeoaaSealLaw
open Go Go.RowKit
namespace Go.Proofs.Ytjoghgnkdegeoaa

theorem wd_bytes {x y : List Int} (hx : IsBytes x) (hy : IsBytes y) {k : Nat} (h : wd x k = wd y k) : ∀ i, i < 4 → zb x (4 * k + i) = zb y (4 * k + i) := by
  have a0 := zb_bd hx (4 * k + 0); have a1 := zb_bd hx (4 * k + 1); have a2 := zb_bd hx (4 * k + 2); have a3 := zb_bd hx (4 * k + 3)
  have b0 := zb_bd hy (4 * k + 0); have b1 := zb_bd hy (4 * k + 1); have b2 := zb_bd hy (4 * k + 2); have b3 := zb_bd hy (4 * k + 3)
  simp only [wd, pw] at h
  intro i hi
  rcases (by omega : i = 0 ∨ i = 1 ∨ i = 2 ∨ i = 3) with rfl | rfl | rfl | rfl <;> omega

/-- sums of two that differ in two words alone, one behind the other -/
theorem sums_two {x y : List Int} {j : Nat} (h : ∀ k, k ≠ j → k ≠ j + 1 → wd x k = wd y k) (n : Nat) :
    fs x n = fs y n + (if j < n then wd x j - wd y j else 0) + (if j + 1 < n then wd x (j + 1) - wd y (j + 1) else 0) ∧
    ss x n = ss y n + (if j < n then (wd x j - wd y j) * ((j : Int) + 1) else 0) + (if j + 1 < n then (wd x (j + 1) - wd y (j + 1)) * ((j : Int) + 2) else 0) := by
  induction n with
  | zero => simp [fs, ss]
  | succ n ih =>
    obtain ⟨ih1, ih2⟩ := ih
    simp only [fs, ss]
    rw [ih1, ih2]
    by_cases h1 : n = j
    · subst h1
      rw [if_neg (by omega), if_neg (by omega), if_pos (by omega), if_neg (by omega), if_neg (by omega), if_neg (by omega), if_pos (by omega), if_neg (by omega), Int.sub_mul]
      omega
    · by_cases h2 : n = j + 1
      · subst h2
        have e : ((j + 1 : Nat) : Int) + 1 = (j : Int) + 2 := by omega
        rw [if_pos (by omega), if_neg (by omega), if_pos (by omega), if_pos (by omega), if_pos (by omega), if_neg (by omega), if_pos (by omega), if_pos (by omega), e, Int.sub_mul (wd x (j + 1))]
        omega
      · rw [h n h1 h2]
        by_cases h3 : j < n
        · have h4 : j + 1 < n := by omega
          rw [if_pos h3, if_pos h4, if_pos (by omega), if_pos (by omega), if_pos h3, if_pos h4, if_pos (by omega), if_pos (by omega)]
          omega
        · rw [if_neg h3, if_neg (by omega), if_neg (by omega), if_neg (by omega), if_neg h3, if_neg (by omega), if_neg (by omega), if_neg (by omega)]
          omega

theorem lay6_inj {m n : Int} (hm : 0 ≤ m ∧ m < 281474976710656) (hn : 0 ≤ n ∧ n < 281474976710656) (h : lay6 m = lay6 n) : m = n := by
  simp only [lay6, List.cons.injEq, and_true] at h
  omega

theorem zb_ext {x y : List Int} (hl : x.length = y.length) (h : ∀ i, i < x.length → zb x i = zb y i) : x = y := by
  apply List.ext_getElem hl
  intro i h1 h2
  have := h i h1
  simpa [zb, List.getElem?_eq_getElem h1, List.getElem?_eq_getElem h2] using this
theorem zb_take {x : List Int} {n i : Nat} (h : i < n) : zb (x.take n) i = zb x i := by
  unfold zb; rw [List.getElem?_take, if_pos h]

theorem closed84 {p : List Int} (hp : p.length = 84) : closed p = p ++ lay6 (sums p).1 ++ lay6 (sums p).2 := by
  unfold closed padded
  simp [hp]
theorem closed_zb1 {p : List Int} (hp : p.length = 84) {i : Nat} (hi : i < 6) : zb (closed p) (84 + i) = zb (lay6 (sums p).1) i := by
  rw [closed84 hp, zb_app_l (by simp [hp, lay6_length]; try omega), zb_app_r (by omega), hp]
  congr 1 <;> omega
theorem closed_zb2 {p : List Int} (hp : p.length = 84) {i : Nat} (hi : i < 6) : zb (closed p) (90 + i) = zb (lay6 (sums p).2) i := by
  rw [closed84 hp, zb_app_r (by simp [hp, lay6_length]; try omega)]
  congr 1 <;> (simp [hp, lay6_length] <;> try omega)
theorem closed_zb0 {p : List Int} (hp : p.length = 84) {i : Nat} (hi : i < 84) : zb (closed p) i = zb p i := by
  rw [closed84 hp, List.append_assoc, zb_app_l (by omega)]

/-- bodies of which the second sums are one, and the first ones, if the window is not at the end -/
theorem bodies_one {x y : List Int} (hx : IsBytes x) (hy : IsBytes y) (hxl : x.length = 84) (hyl : y.length = 84) {off : Nat} (ho : off < 84)
    (hsame : ∀ i, i < 84 → (i < off ∨ off + 4 ≤ i) → zb x i = zb y i) (h2 : (sums x).2 = (sums y).2) (h1 : off ≤ 80 → (sums x).1 = (sums y).1) : x = y := by
  have hw : ∀ k, k ≠ off / 4 → k ≠ off / 4 + 1 → wd x k = wd y k := by
    intro k k1 k2
    have hb : ∀ i, i < 4 → zb x (4 * k + i) = zb y (4 * k + i) := by
      intro i hi
      by_cases hk : k < 21
      · exact hsame _ (by omega) (by omega)
      · unfold zb; rw [List.getElem?_eq_none (by omega), List.getElem?_eq_none (by omega)]
    simp only [wd, pw]
    rw [hb 0 (by omega), hb 1 (by omega), hb 2 (by omega), hb 3 (by omega)]
  obtain ⟨j, hj⟩ : ∃ j, off / 4 = j := ⟨_, rfl⟩
  rw [hj] at hw
  have e := sums_two hw 21
  have q1 : sums x = (fs x 21, ss x 21) := by unfold sums; rw [hxl]; exact sm_plain hx 21 (by decide)
  have q2 : sums y = (fs y 21, ss y 21) := by unfold sums; rw [hyl]; exact sm_plain hy 21 (by decide)
  rw [q1, q2] at h1 h2
  simp only at h1 h2
  have key : wd x j = wd y j ∧ (j + 1 < 21 → wd x (j + 1) = wd y (j + 1)) := by
    by_cases hj2 : j + 1 < 21
    · rw [if_pos (by omega), if_pos hj2, if_pos (by omega), if_pos hj2] at e
      have h1 := h1 (by omega)
      obtain ⟨d, hd⟩ : ∃ d, wd x j - wd y j = d := ⟨_, rfl⟩
      obtain ⟨d', hd'⟩ : ∃ d, wd x (j + 1) - wd y (j + 1) = d := ⟨_, rfl⟩
      rw [hd, hd'] at e
      have m1 : d' * ((j : Int) + 2) = d' * ((j : Int) + 1) + d' := by rw [show ((j : Int) + 2) = ((j : Int) + 1) + 1 by omega, Int.mul_add d' ((j : Int) + 1) 1, Int.mul_one]
      have m2 : d = -d' := by omega
      have m3 : d * ((j : Int) + 1) = -(d' * ((j : Int) + 1)) := by rw [m2, Int.neg_mul]
      exact ⟨by omega, fun _ => by omega⟩
    · have hj3 : j = 20 := by omega
      subst hj3
      rw [if_pos (by omega), if_neg (by omega), if_pos (by omega), if_neg (by omega)] at e
      exact ⟨by omega, fun h => by omega⟩
  refine zb_ext (by omega) fun i hi => ?_
  have hall : wd x (i / 4) = wd y (i / 4) := by
    by_cases h3 : i / 4 = j
    · rw [h3]; exact key.1
    · by_cases h4 : i / 4 = j + 1
      · rw [h4]; exact key.2 (by omega)
      · exact hw _ h3 h4
  have := wd_bytes hx hy hall (i % 4) (by omega)
  rwa [show 4 * (i / 4) + i % 4 = i by omega] at this

theorem turned_opens {x t : List Int} (hx : IsBytes x) (hxl : x.length ≤ 84) (ht : IsBytes t) (htl : t.length = 96) {off : Nat}
    (hsame : ∀ i, i < 96 → (i < off ∨ off + 4 ≤ i) → zb t i = zb (closed x) i) (ho : closed (t.take 84) = t) : t = closed x := by
  have hp := padded_length hxl
  have hpb := padded_bytes hx
  have hc : closed x = closed (padded x) := (closed_padded hxl).symm
  rw [hc] at hsame ⊢
  generalize padded x = p at *
  have hq : (t.take 84).length = 84 := by simp; omega
  have hqb := ht.take 84
  have hzt : ∀ i, i < 84 → zb (t.take 84) i = zb t i := fun i hi => zb_take hi
  generalize t.take 84 = q at *
  subst ho
  suffices h : q = p by rw [h]
  by_cases h84 : 84 ≤ off
  · refine zb_ext (by omega) fun i hi => ?_
    rw [hzt i (by omega), hsame i (by omega) (by omega), closed_zb0 hp (by omega)]
  · have b1 := sums_bd hqb (by omega)
    have b2 := sums_bd hpb (by omega)
    refine bodies_one hqb hpb hq hp (off := off) (by omega) ?_ ?_ ?_
    · intro i hi h
      rw [hzt i hi, hsame i (by omega) h, closed_zb0 hp hi]
    · refine lay6_inj b1.2 b2.2 (zb_ext rfl fun i hi => ?_)
      rw [lay6_length] at hi
      rw [← closed_zb2 hq hi, ← closed_zb2 hp hi]
      exact hsame _ (by omega) (by omega)
    · intro h80
      refine lay6_inj b1.1 b2.1 (zb_ext rfl fun i hi => ?_)
      rw [lay6_length] at hi
      rw [← closed_zb1 hq hi, ← closed_zb1 hp hi]
      exact hsame _ (by omega) (by omega)

end Go.Proofs.Ytjoghgnkdegeoaa
