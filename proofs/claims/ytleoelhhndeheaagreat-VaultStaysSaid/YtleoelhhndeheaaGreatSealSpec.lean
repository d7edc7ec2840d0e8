/- chapter 3, said of lists of numbers -/
import Derived.Test.YtleoelhhndeheaaGreatRow
import Derived.Laws.BitsLemmas
open Go Go.RowKit
namespace Go.Proofs.YtleoelhhndeheaaGreat

def zb (zs : List Int) (i : Nat) : Int := zs[i]?.getD 0
/-- the number of i bytes from a place on, the highest first -/
def pw (zs : List Int) (at_ : Nat) : Nat → Int
  | 0 => 0
  | i + 1 => pw zs at_ i * 256 + zb zs (at_ + i)
def wd (zs : List Int) (j : Nat) : Int := pw zs (4 * j) 4
/-- the two sums of the first n words, as the code reckons them -/
def sm (zs : List Int) : Nat → Int × Int
  | 0 => (0, 0)
  | n + 1 => (((sm zs n).1 + wd zs n) % 281474976710656, (wrap64 ((sm zs n).2 + wrap64 (wd zs n * (n + 1)))).tmod 281474976710656)
def sums (zs : List Int) : Int × Int := sm zs ((zs.length + 3) / 4)

theorem zb_bd {zs : List Int} (h : IsBytes zs) (i : Nat) : 0 ≤ zb zs i ∧ zb zs i ≤ 255 := h.get i
theorem pw_bd {zs : List Int} (h : IsBytes zs) (a i : Nat) : 0 ≤ pw zs a i ∧ pw zs a i < 256 ^ i := by
  induction i with
  | zero => simp [pw]
  | succ i ih =>
    have := zb_bd h (a + i)
    simp only [pw, Int.pow_succ]
    omega
theorem pw_bd4 {zs : List Int} (h : IsBytes zs) (a i : Nat) (hi : i ≤ 4) : 0 ≤ pw zs a i ∧ pw zs a i < 4294967296 := by
  have := pw_bd h a i
  have h2 : (256 : Int) ^ i ≤ 4294967296 := by
    rcases (by omega : i = 0 ∨ i = 1 ∨ i = 2 ∨ i = 3 ∨ i = 4) with rfl | rfl | rfl | rfl | rfl <;> decide
  omega
theorem wd_bd {zs : List Int} (h : IsBytes zs) (j : Nat) : 0 ≤ wd zs j ∧ wd zs j < 4294967296 := pw_bd4 h _ 4 (Nat.le_refl _)
theorem sm_bd (zs : List Int) (n : Nat) : (0 ≤ (sm zs n).1 ∧ (sm zs n).1 < 281474976710656) ∧ (-281474976710656 < (sm zs n).2 ∧ (sm zs n).2 < 281474976710656) := by
  cases n with
  | zero => simp [sm]
  | succ n =>
    simp only [sm]
    refine ⟨by omega, ?_⟩
    have h1 := Int.tmod_lt_of_pos (wrap64 ((sm zs n).2 + wrap64 (wd zs n * (n + 1)))) (by decide : (0 : Int) < 281474976710656)
    have h2 := Int.lt_tmod_of_pos (wrap64 ((sm zs n).2 + wrap64 (wd zs n * (n + 1)))) (by decide : (0 : Int) < 281474976710656)
    omega

theorem wraps_i64 (n : Int) (h₀ : 0 ≤ n) (h₁ : n < 2 ^ 63) : IntKind.i64.wrap n = n := by rw [IntKind.wrap_i64]; omega
theorem i64_or8 (x y : Int) (hx₀ : 0 ≤ x) (hx : x % 256 = 0) (hx₁ : x < 9223372036854775808) (h₀ : 0 ≤ y) (h₁ : y < 256) : bits .or .i64 x y = x + y :=
  bits_join .i64 63 (by decide) wraps_i64 8 x y hx₀ hx hx₁ h₀ h₁ (by omega)

/-- six bytes of a number, the highest first -/
def lay6 (n : Int) : List Int := [n / 1099511627776 % 256, n / 4294967296 % 256, n / 16777216 % 256, n / 65536 % 256, n / 256 % 256, n % 256]
def padded (zs : List Int) : List Int := zs ++ List.replicate (84 - zs.length) 0
/-- a closed track -/
def closed (zs : List Int) : List Int := padded zs ++ lay6 (sums (padded zs)).1 ++ lay6 (sums (padded zs)).2

end Go.Proofs.YtleoelhhndeheaaGreat
