/- lariathand.Few -/
import Derived.Test.YtjoghgnkdegeoaaProg
import Derived.Test.YtjoghgnkdegeoaaSlB
import Derived.Test.YtjoghgnkdegeoaaHand
open Go Go.RowKit
namespace Go.Proofs.Ytjoghgnkdegeoaa

set_option maxHeartbeats 1000000 in
theorem few_any (a : Option Addr) (len cap n : Nat) (zs : List Int) (w : World) (h : Row w a (B8 zs)) (hl : zs.length = len) (hn : a = none → len = 0 ∧ cap = 0) (hlc : len ≤ cap) (hcm : cap ≤ 9223372036854775807) (hb : len ≤ 140737488355328) (hn2 : n ≤ 140737488355328) :
    Calls Try.prog 14 #[.slice a len cap, .int .i64 n] w fun e w' => ∃ v, e = .returned v ∧ w'.ownsRow w.heap.size 5 1 v (min len n) (B8 (zs.take n)) ∧ Below w.heap.size w w' := by
  obtain ⟨i0, hi, hz0, hz1, hz2⟩ := info_parts iB
  have hown : (w.alloc (.cells #[] 5)).ownsRow w.heap.size 5 1 (.slice (some ⟨w.heap.size, 0, none⟩) 0 0) 0 [] := World.ownsRow_lit w #[] 0 (Nat.le_refl _) (by simp [maxLen]) rfl
  cases a with
  | none =>
    obtain ⟨rfl, rfl⟩ := hn rfl
    have : zs = [] := List.eq_nil_of_length_eq_zero hl
    subst this
    clear hl
    go_enter Try.func14, Try.ntmps14
    go_wp2_with (at_builtin; refine wpList_append_own_none rfl _ _ 25 rfl w.heap.size 5 i0 1 Try.underlying25 hi _ _ _ rfl hown rfl ?_)
    go_ret
    exact ⟨_, rfl, by simpa using hown, (Below.refl _ _).alloc (Nat.le_refl _) _⟩
  | some x =>
    obtain ⟨m, hm, hm1, hm2⟩ : ∃ m, min len n = m ∧ m ≤ len ∧ m ≤ n := ⟨_, rfl, by omega, by omega⟩
    have hmi : min (len : Int) (n : Int) = (m : Int) := by omega
    have hrow : Row w (some x) (B8 (zs.take n)) := by rw [B8, List.map_take]; exact h.take n
    have hnews := fun o => (hrow.alloc o).news
    have hlen : (B8 (zs.take n)).length = m * 1 := by simp; omega
    rw [hm]
    clear hm hl
    go_enter Try.func14, Try.ntmps14
    go_wp2_with (at_builtin; refine wpList_append_own _ rfl _ _ 25 rfl w.heap.size 5 i0 (.int .u8 0) 1 1 Try.underlying25 hi hz0 hz1 hz2 rfl (by decide) _ 0 [] rfl hown x m cap (B8 (zs.take n)) rfl hlen (hnews _) (B8_one _) ?c3 ?c4 ?c5 ?_)
    case c3 => simp only [maxLen]; omega
    case c4 => omega
    case c5 => simp
    intro v' w1 ho hg _
    have hB : Below w.heap.size w w1 := ((Below.refl _ _).alloc (Nat.le_refl _) _).grown hg (by simp) (by rintro k hk; cases hk; exact Nat.le_refl _)
    clear hg
    go_wp2_with fail
    go_ret
    exact ⟨_, rfl, by rw [B8, List.map_take]; exact ho, hB⟩

end Go.Proofs.Ytjoghgnkdegeoaa
