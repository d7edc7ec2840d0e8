/- chapter 3's sums, without the remainder, of two rows one behind the other -/
import Derived.Test.YtjoghgnkdegeoaaSealClose
open Go Go.RowKit
namespace Go.Proofs.Ytjoghgnkdegeoaa

def fs (zs : List Int) : Nat → Int
  | 0 => 0
  | n + 1 => fs zs n + wd zs n
def ss (zs : List Int) : Nat → Int
  | 0 => 0
  | n + 1 => ss zs n + wd zs n * (n + 1)

theorem fs_bd {zs : List Int} (h : IsBytes zs) (n : Nat) : 0 ≤ fs zs n ∧ fs zs n ≤ n * 4294967295 := by
  induction n with
  | zero => simp [fs]
  | succ n ih =>
    have := wd_bd h n
    simp only [fs]
    omega
theorem ss_bd {zs : List Int} (h : IsBytes zs) (n : Nat) (hn : n ≤ 32) : 0 ≤ ss zs n ∧ ss zs n ≤ n * 137438953440 := by
  induction n with
  | zero => simp [ss]
  | succ n ih =>
    have := wd_bd h n
    have := ih (by omega)
    have e : 0 ≤ wd zs n * ((n : Int) + 1) := Int.mul_nonneg (by omega) (by omega)
    have e2 : wd zs n * ((n : Int) + 1) ≤ 4294967295 * 32 := Int.mul_le_mul (by omega) (by omega) (by omega) (by decide)
    simp only [ss]
    omega
theorem wrap64_id {n : Int} (h1 : -9223372036854775808 ≤ n) (h2 : n < 9223372036854775808) : wrap64 n = n := by unfold wrap64; omega
theorem sm_plain {zs : List Int} (h : IsBytes zs) (n : Nat) (hn : n ≤ 32) : sm zs n = (fs zs n, ss zs n) := by
  induction n with
  | zero => simp [sm, fs, ss]
  | succ n ih =>
    have h1 := fs_bd h (n + 1)
    have h2 := ss_bd h (n + 1) hn
    have h0 := ss_bd h n (by omega)
    have hw := wd_bd h n
    have e : 0 ≤ wd zs n * ((n : Int) + 1) := Int.mul_nonneg (by omega) (by omega)
    have e2 : wd zs n * ((n : Int) + 1) ≤ 4294967295 * 32 := Int.mul_le_mul (by omega) (by omega) (by omega) (by decide)
    simp only [sm, ih (by omega)]
    simp only [fs, ss] at h1 h2 ⊢
    rw [wrap64_id (n := wd zs n * ((n : Int) + 1)) (by omega) (by omega), wrap64_id (by omega) (by omega), Int.tmod_eq_emod_of_nonneg (by omega)]
    refine Prod.ext ?_ ?_ <;> show _ % 281474976710656 = _ <;> omega

theorem zb_app_l {x y : List Int} {i : Nat} (h : i < x.length) : zb (x ++ y) i = zb x i := by
  unfold zb; rw [List.getElem?_append_left h]
theorem zb_app_r {x y : List Int} {i : Nat} (h : x.length ≤ i) : zb (x ++ y) i = zb y (i - x.length) := by
  unfold zb; rw [List.getElem?_append_right h]
theorem wd_app_l {x y : List Int} {p j : Nat} (hx : x.length = 4 * p) (h : j < p) : wd (x ++ y) j = wd x j := by
  simp only [wd, pw]
  rw [zb_app_l (by omega), zb_app_l (by omega), zb_app_l (by omega), zb_app_l (by omega)]
theorem wd_app_r {x y : List Int} {p j : Nat} (hx : x.length = 4 * p) : wd (x ++ y) (p + j) = wd y j := by
  simp only [wd, pw]
  rw [zb_app_r (by omega), zb_app_r (by omega), zb_app_r (by omega), zb_app_r (by omega), hx]
  rw [show 4 * (p + j) + 0 - 4 * p = 4 * j + 0 by omega, show 4 * (p + j) + 1 - 4 * p = 4 * j + 1 by omega, show 4 * (p + j) + 2 - 4 * p = 4 * j + 2 by omega, show 4 * (p + j) + 3 - 4 * p = 4 * j + 3 by omega]

theorem sums_app_l {x y : List Int} {p : Nat} (hx : x.length = 4 * p) (n : Nat) (hn : n ≤ p) : fs (x ++ y) n = fs x n ∧ ss (x ++ y) n = ss x n := by
  induction n with
  | zero => simp [fs, ss]
  | succ n ih =>
    have := ih (by omega)
    simp only [fs, ss]
    rw [this.1, this.2, wd_app_l hx (by omega)]
    exact ⟨rfl, rfl⟩
theorem sums_app_r {x y : List Int} {p : Nat} (hx : x.length = 4 * p) (n : Nat) : fs (x ++ y) (p + n) = fs x p + fs y n ∧ ss (x ++ y) (p + n) = ss x p + ss y n + p * fs y n := by
  induction n with
  | zero => simpa [fs, ss] using sums_app_l hx p (Nat.le_refl _)
  | succ n ih =>
    rw [← Nat.add_assoc]
    simp only [fs, ss]
    rw [ih.1, ih.2, wd_app_r hx]
    refine ⟨by omega, ?_⟩
    have h2 : (p : Int) * (fs y n + wd y n) = p * fs y n + p * wd y n := Int.mul_add ..
    have : wd y n * (((p + n : Nat) : Int) + 1) = wd y n * ((n : Int) + 1) + p * wd y n := by
      rw [show (((p + n : Nat) : Int) + 1) = ((n : Int) + 1) + p by omega, Int.mul_add, Int.mul_comm (p : Int)]
    omega

/-- what the law asks -/
theorem sums_adds {x y : List Int} {p : Nat} (hx : IsBytes x) (hy : IsBytes y) (hp : x.length = 4 * p) (hp2 : p ≤ 10) (hq : y.length ≤ 40) :
    (sums (x ++ y)).1 = (sums x).1 + (sums y).1 ∧ (sums (x ++ y)).2 = (sums x).2 + (sums y).2 + p * (sums y).1 ∧
    (0 ≤ (sums x).1 ∧ (sums x).1 < 281474976710656) ∧ (0 ≤ (sums y).1 ∧ (sums y).1 < 281474976710656) ∧ (0 ≤ (sums x).2 ∧ (sums x).2 < 281474976710656) ∧ (0 ≤ (sums y).2 ∧ (sums y).2 < 281474976710656) ∧
    (0 ≤ p * (sums y).1 ∧ p * (sums y).1 < 4503599627370496) := by
  have e1 : (x.length + 3) / 4 = p := by omega
  have e2 : ((x ++ y).length + 3) / 4 = p + (y.length + 3) / 4 := by rw [List.length_append]; omega
  have b1 := sums_bd hx (by omega)
  have b2 := sums_bd hy (by omega)
  have a := sums_app_r (y := y) hp ((y.length + 3) / 4)
  have b3 : 0 ≤ (p : Int) * (sums y).1 := Int.mul_nonneg (by omega) (by omega)
  have b4 : (p : Int) * (sums y).1 ≤ 10 * 281474976710656 := Int.mul_le_mul (by omega) (by omega) (by omega) (by decide)
  refine ⟨?_, ?_, b1.1, b2.1, b1.2, b2.2, b3, by omega⟩
  · unfold sums
    rw [e1, e2, sm_plain (hx.append hy) _ (by omega), sm_plain hx _ (by omega), sm_plain hy _ (by omega)]
    exact a.1
  · unfold sums
    rw [e1, e2, sm_plain (hx.append hy) _ (by omega), sm_plain hx _ (by omega), sm_plain hy _ (by omega)]
    exact a.2

end Go.Proofs.Ytjoghgnkdegeoaa
