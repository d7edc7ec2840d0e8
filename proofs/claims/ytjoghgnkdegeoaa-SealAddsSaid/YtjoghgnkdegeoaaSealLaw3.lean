/- the walk of SealAdds -/
import Derived.Test.YtjoghgnkdegeoaaSealLaw
import Derived.Test.YtjoghgnkdegeoaaFew
import Derived.Test.YtjoghgnkdegeoaaAppRow
import Derived.Test.YtjoghgnkdegeoaaSealSum
import Derived.Deep.RegionHeld3
open Go Go.RowKit
namespace Go.Proofs.Ytjoghgnkdegeoaa

set_option maxRecDepth 100000 in
set_option maxHeartbeats 4000000 in
theorem adds_walk (a : Option Addr) (la ca : Nat) (xs : List Int) (b : Option Addr) (lb cb : Nat) (ys : List Int) (w : World) (ha : ByteArg w a la ca xs) (hb : ByteArg w b lb cb ys) :
    Calls Try.prog 7 #[.slice a la ca, .slice b lb cb] w fun e w' => e = .returned (.bool true) ∧ Below w.heap.size w w' := by
  obtain ⟨i0, hi, hz0, hz1, hz2⟩ := info_parts iB
  go_enter Try.func7, Try.ntmps7
  go_wp2_with fail
  refine (known3_any w).mono ?_
  rintro e w1 ⟨rfl, B1⟩
  have s1 := B1.size
  go_wp2_with fail
  refine (few_any a la ca 40 xs w1 (ha.hrow.below B1 (Nat.le_refl _)) ha.hlen ha.hnil ha.hcap ha.hcapm ha.hreach (by decide)).mono ?_
  rintro e w2 ⟨v2, rfl, o2, B2⟩
  obtain ⟨a2, c2, rfl, hl2, hc2, hm2, r2, d2, n2⟩ := row_of_owns o2
  have B2' : Below w.heap.size w w2 := B1.trans (B2.mono s1)
  have s2 := B2'.size
  have q2 := owns_cap o2
  have hx : IsBytes (xs.take 40) := ha.hbytes.take 40
  generalize xs.take 40 = x2 at *
  generalize hma : min la 40 = ma at *
  have hxm : x2.length = ma := by simpa using hl2
  have hma2 : ma ≤ 40 := by omega
  clear o2 hl2 hma B2
  obtain ⟨p, hp1, hp2, hp3⟩ : ∃ p : Nat, 4 * p ≤ ma ∧ (ma : Int).tmod 4 = (ma : Int) - 4 * (p : Int) ∧ p ≤ 10 := ⟨ma / 4, by omega, by rw [Int.tmod_eq_emod_of_nonneg (by omega)]; omega, by omega⟩
  have hws : IntKind.i64.wrap ((ma : Int) - ((ma : Int) - 4 * (p : Int))) = ((4 * p : Nat) : Int) := by rw [IntKind.wrap_i64]; omega
  have hxt : IsBytes (x2.take (4 * p)) := hx.take _
  have hrt : Row w2 a2 (B8 (x2.take (4 * p))) := by rw [B8, List.map_take]; exact r2.take _
  have hlt : (x2.take (4 * p)).length = 4 * p := by simp; omega
  have hnt : a2 = none → 4 * p = 0 ∧ c2 = 0 := fun h => by
    have := q2 h; omega
  obtain ⟨q, hq⟩ : ∃ q, q = 4 * p := ⟨_, rfl⟩
  rw [← hq] at hws hnt hlt hrt hxt hp1
  generalize x2.take q = x at *
  have hqc : q ≤ c2 := by omega
  have hqc1 : (0 : Int) ≤ (q : Int) := by omega
  have hqc2 : (q : Int) ≤ (c2 : Int) := by omega
  have HQ := hid hq
  clear hq
  go_wp2_with fail
  refine (few_any b lb cb 40 ys w2 (hb.hrow.below B2' (Nat.le_refl _)) hb.hlen hb.hnil hb.hcap hb.hcapm hb.hreach (by decide)).mono ?_
  rintro e w3 ⟨v3, rfl, o3, B3⟩
  obtain ⟨a3, c3, rfl, hl3, hc3, hm3, r3, d3, n3⟩ := row_of_owns o3
  have q3 := owns_cap o3
  have B3' : Below w.heap.size w w3 := B2'.trans (B3.mono s2)
  have s3 := B3'.size
  have hy : IsBytes (ys.take 40) := hb.hbytes.take 40
  generalize ys.take 40 = y at *
  generalize hmb : min lb 40 = mb at *
  have hym : y.length = mb := by simpa using hl3
  have hmb2 : mb ≤ 40 := by omega
  have rx3 := hrt.below B3 (Nat.le_refl _)
  have hadd := sums_adds hxt hy (by rw [hlt, HQ.out]) hp3 (by omega)
  have hxl : x.length = q := hlt
  have HXL := hid hxl
  have HYM := hid hym
  clear o3 hl3 hmb B3 hrt r2 hlt hxl hym n2 n3 hxm
  go_wp2_with fail
  refine (sums_any a2 q c2 x w3 rx3 HXL.out (by omega) hxt).mono ?_
  rintro e w3' ⟨rfl, rfl⟩
  go_wp2_with fail
  refine (sums_any a3 mb c3 y w3 r3 HYM.out (by omega) hy).mono ?_
  rintro e w3' ⟨rfl, rfl⟩
  have hown : (w3.alloc (.cells #[] 5)).ownsRow w3.heap.size 5 1 (.slice (some ⟨w3.heap.size, 0, none⟩) 0 0) 0 [] := World.ownsRow_lit w3 #[] 0 (Nat.le_refl _) (by simp [maxLen]) rfl
  have HADD := hid hadd
  clear hadd
  go_wp2_with (at_builtin; refine wpList_append_row rfl _ _ 25 rfl w3.heap.size 5 i0 (.int .u8 0) Try.underlying25 hi hz0 hz1 (by omega) rfl _ 0 [] rfl hown a2 q c2 (B8 x) rfl (rx3.alloc _) (by simp; exact HXL.out) hnt (B8_one _) ?c4 ?c5 ?_)
  case c4 => omega
  case c5 => simp
  intro v4 w4 o4 g4 _
  have B4 : Below w3.heap.size w3 w4 := ((Below.refl _ w3).alloc (Nat.le_refl _) _).trans g4
  have s4 := B4.size
  try simp only [Nat.zero_add, List.nil_append] at o4
  clear g4 hown
  go_wp2_with (at_builtin; refine wpList_append_row rfl _ _ 25 rfl w3.heap.size 5 i0 (.int .u8 0) Try.underlying25 hi hz0 hz1 (by omega) rfl _ q (B8 x) rfl o4 a3 mb c3 (B8 y) rfl (r3.below B4 (Nat.le_refl _)) (by simp; exact HYM.out) q3 (B8_one _) ?c4 ?c5 ?_)
  case c4 => omega
  case c5 => exact s4
  intro v5 w5 o5 g5 _
  have B5 : Below w3.heap.size w3 w5 := B4.trans g5
  have s5 := B5.size
  obtain ⟨a5, c5, rfl, hl5, hc5, hm5, r5, d5, n5⟩ := row_of_owns o5
  have e5 : B8 x ++ B8 y = B8 (x ++ y) := by rw [B8, B8, B8, List.map_append]
  rw [e5] at r5
  have e6 : (x ++ y).length = q + mb := by rw [List.length_append, HXL.out, HYM.out]
  have E6 := hid e6
  clear g5 o4 o5 e5 hl5 hc5 hm5 d5 n5 e6
  go_wp2_with fail
  refine (sums_any a5 (q + mb) c5 (x ++ y) w5 r5 E6.out (by omega) (hxt.append hy)).mono ?_
  rw [HADD.out.1, HADD.out.2.1]
  rintro e w5' ⟨rfl, rfl⟩
  have had := HADD.out.2.2
  clear HADD
  have B6 := B3'.trans (B5.mono s3)
  generalize (sums x).1 = F0 at *
  generalize (sums x).2 = S0 at *
  generalize (sums y).1 = F1 at *
  generalize (sums y).2 = S1 at *
  have hdiv : (q : Int).tdiv 4 = (p : Int) := by rw [HQ.out, Int.tdiv_eq_ediv_of_nonneg (by omega)]; omega
  obtain ⟨M, hM⟩ : ∃ M, (p : Int) * F1 = M := ⟨_, rfl⟩
  rw [hM] at had
  have hw1 : IntKind.i64.wrap (F0 + F1) = F0 + F1 := by rw [IntKind.wrap_i64]; omega
  have hw2 : IntKind.i64.wrap (S0 + S1) = S0 + S1 := by rw [IntKind.wrap_i64]; omega
  have hw3 : IntKind.i64.wrap ((p : Int) * F1) = M := by rw [hM, IntKind.wrap_i64]; omega
  have hw4 : IntKind.i64.wrap (S0 + S1 + M) = S0 + S1 + M := by rw [IntKind.wrap_i64]; omega
  have HM := hid hM
  rw [HM.out]
  clear hM had
  go_wp2_with fail
  refine (known3_any w5).mono ?_
  rintro e w6 ⟨rfl, B7⟩
  go_wp2_with fail
  go_ret
  exact ⟨rfl, B6.trans (B7.mono B6.size)⟩

end Go.Proofs.Ytjoghgnkdegeoaa
