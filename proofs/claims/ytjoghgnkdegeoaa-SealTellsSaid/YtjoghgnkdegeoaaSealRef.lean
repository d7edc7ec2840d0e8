/- chapter 3, said plainly: the reference's functions -/
import Derived.Test.YtjoghgnkdegeoaaSlB
import Derived.Test.YtjoghgnkdegeoaaAppendZ
import Derived.Test.YtjoghgnkdegeoaaSealClose
import Derived.Test.YtjoghgnkdegeoaaAppRow
open Go Go.RowKit
namespace Go.Proofs.Ytjoghgnkdegeoaa

set_option maxRecDepth 100000 in
set_option maxHeartbeats 2000000 in
theorem high_any (n : Int) (w : World) (hn : 0 ≤ n ∧ n < 281474976710656) :
    Calls Try.prog 23 #[.int .i64 n, .int .i64 6] w fun e w' => ∃ v, e = .returned v ∧ w'.ownsRow w.heap.size 5 1 v 6 (B8 (lay6 n)) ∧ Below w.heap.size w w' := by
  obtain ⟨i0, hi, hz0, hz1, hz2⟩ := info_parts iB
  have o0 : w.ownsRow w.heap.size 5 1 (.slice none 0 0) 0 [] := World.ownsRow_nil _ _ _ _
  go_enter Try.func23, Try.ntmps23
  go_wp2_with fail
  refine wp_loop_rounds 7 ?_
  rw [rounds_succ]
  go_wp2_with (at_builtin; refine wpList_append_own _ rfl _ _ 25 rfl w.heap.size 5 i0 (.int .u8 0) 1 1 Try.underlying25 hi hz0 hz1 hz2 rfl (by decide) _ 0 _ rfl (o0.alloc _) ⟨w.heap.size, 0, none⟩ 1 1 [_] rfl rfl (cell_one_new _ _ _) ?c2 ?c3 ?c4 ?c5 ?_)
  case c2 => simp [Value.oneCell']
  case c3 => simp [maxLen]
  case c4 => omega
  case c5 => simp <;> omega
  intro v1 w1 o1 g1 _
  have B1 : Below w.heap.size w w1 := ((Below.refl _ w).alloc (by omega) _).grown g1 (by simp <;> omega) (by intro q hq; cases hq)
  have s1 := B1.size
  clear g1
  go_wp2_with fail
  rw [rounds_succ]
  go_wp2_with (at_builtin; refine wpList_append_own _ rfl _ _ 25 rfl w.heap.size 5 i0 (.int .u8 0) 1 1 Try.underlying25 hi hz0 hz1 hz2 rfl (by decide) _ 1 _ rfl (o1.alloc _) ⟨w1.heap.size, 0, none⟩ 1 1 [_] rfl rfl (cell_one_new _ _ _) ?c2 ?c3 ?c4 ?c5 ?_)
  case c2 => simp [Value.oneCell']
  case c3 => simp [maxLen]
  case c4 => omega
  case c5 => simp <;> omega
  intro v2 w2 o2 g2 _
  have B2 : Below w.heap.size w w2 := ((B1).alloc (by omega) _).grown g2 (by simp <;> omega) (by intro q hq; exact (o1.lt _ hq).1)
  have s2 := B2.size
  clear g2
  go_wp2_with fail
  rw [rounds_succ]
  go_wp2_with (at_builtin; refine wpList_append_own _ rfl _ _ 25 rfl w.heap.size 5 i0 (.int .u8 0) 1 1 Try.underlying25 hi hz0 hz1 hz2 rfl (by decide) _ 2 _ rfl (o2.alloc _) ⟨w2.heap.size, 0, none⟩ 1 1 [_] rfl rfl (cell_one_new _ _ _) ?c2 ?c3 ?c4 ?c5 ?_)
  case c2 => simp [Value.oneCell']
  case c3 => simp [maxLen]
  case c4 => omega
  case c5 => simp <;> omega
  intro v3 w3 o3 g3 _
  have B3 : Below w.heap.size w w3 := ((B2).alloc (by omega) _).grown g3 (by simp <;> omega) (by intro q hq; exact (o2.lt _ hq).1)
  have s3 := B3.size
  clear g3
  go_wp2_with fail
  rw [rounds_succ]
  go_wp2_with (at_builtin; refine wpList_append_own _ rfl _ _ 25 rfl w.heap.size 5 i0 (.int .u8 0) 1 1 Try.underlying25 hi hz0 hz1 hz2 rfl (by decide) _ 3 _ rfl (o3.alloc _) ⟨w3.heap.size, 0, none⟩ 1 1 [_] rfl rfl (cell_one_new _ _ _) ?c2 ?c3 ?c4 ?c5 ?_)
  case c2 => simp [Value.oneCell']
  case c3 => simp [maxLen]
  case c4 => omega
  case c5 => simp <;> omega
  intro v4 w4 o4 g4 _
  have B4 : Below w.heap.size w w4 := ((B3).alloc (by omega) _).grown g4 (by simp <;> omega) (by intro q hq; exact (o3.lt _ hq).1)
  have s4 := B4.size
  clear g4
  go_wp2_with fail
  rw [rounds_succ]
  go_wp2_with (at_builtin; refine wpList_append_own _ rfl _ _ 25 rfl w.heap.size 5 i0 (.int .u8 0) 1 1 Try.underlying25 hi hz0 hz1 hz2 rfl (by decide) _ 4 _ rfl (o4.alloc _) ⟨w4.heap.size, 0, none⟩ 1 1 [_] rfl rfl (cell_one_new _ _ _) ?c2 ?c3 ?c4 ?c5 ?_)
  case c2 => simp [Value.oneCell']
  case c3 => simp [maxLen]
  case c4 => omega
  case c5 => simp <;> omega
  intro v5 w5 o5 g5 _
  have B5 : Below w.heap.size w w5 := ((B4).alloc (by omega) _).grown g5 (by simp <;> omega) (by intro q hq; exact (o4.lt _ hq).1)
  have s5 := B5.size
  clear g5
  go_wp2_with fail
  rw [rounds_succ]
  go_wp2_with (at_builtin; refine wpList_append_own _ rfl _ _ 25 rfl w.heap.size 5 i0 (.int .u8 0) 1 1 Try.underlying25 hi hz0 hz1 hz2 rfl (by decide) _ 5 _ rfl (o5.alloc _) ⟨w5.heap.size, 0, none⟩ 1 1 [_] rfl rfl (cell_one_new _ _ _) ?c2 ?c3 ?c4 ?c5 ?_)
  case c2 => simp [Value.oneCell']
  case c3 => simp [maxLen]
  case c4 => omega
  case c5 => simp <;> omega
  intro v6 w6 o6 g6 _
  have B6 : Below w.heap.size w w6 := ((B5).alloc (by omega) _).grown g6 (by simp <;> omega) (by intro q hq; exact (o5.lt _ hq).1)
  have s6 := B6.size
  clear g6
  go_wp2_with fail
  rw [rounds_succ]
  go_wp2_with fail
  go_ret
  simp only [B8, lay6, List.map_cons, List.map_nil]
  rw [show n / 1099511627776 % 256 = n / 1099511627776 by omega]
  exact ⟨_, rfl, o6, B6⟩

set_option maxRecDepth 100000 in
set_option maxHeartbeats 1000000 in
theorem number_any (a : Option Addr) (len cap : Nat) (zs : List Int) (w : World) (h : Row w a (B8 zs)) (hl : zs.length = len) (hb : len ≤ 4) (hz : IsBytes zs) :
    Calls Try.prog 22 #[.slice a len cap] w fun e w' => e = .returned (.int .i64 (pw zs 0 len)) ∧ w = w' := by
  have hix := fun k (hk : k < len) => idx_at1 (P := Try.prog) (T := 25) Try.underlying25 szB (cap := cap) (fun _ => h.nn (by simp; omega)) hk
  have HL := hid hl
  clear hl
  go_enter Try.func22, Try.ntmps22
  go_wp2_with fail
  go_loop [3, 4] (fun v i => ∃ k : Nat, k ≤ len ∧ i = .int .i64 k ∧ v = .int .i64 (pw zs 0 k)) (fun _ i => len - (intOf i).toNat)
  case atStart => exact ⟨0, by omega, rfl, rfl⟩
  case round =>
    obtain ⟨k, hk, rfl, rfl⟩ := hrel
    have hp := pw_bd4 hz 0 k (by omega)
    by_cases hin : k < len
    · have hix := hix k hin
      have hc := h.byte (i := k) (by rw [HL.out]; exact hin)
      have hzb := hz.get k
      have hp2 := pw_bd4 hz 0 (k + 1) (by omega)
      have e : pw zs 0 (k + 1) = pw zs 0 k * 256 + zs[k]?.getD 0 := by simp only [pw, zb, Nat.zero_add]
      have HE := hid e
      clear e hp2
      go_wp2_with fail
      go_round
      case rel => exact ⟨k + 1, by omega, by go_num, by rw [HE.out, Int.mul_comm]⟩
      case measure => simp [intOf]; omega
    · obtain rfl : k = len := by omega
      go_wp2_with fail
      go_ret
      exact ⟨rfl, rfl⟩

set_option maxRecDepth 100000 in
set_option maxHeartbeats 1000000 in
theorem zeros_any (n : Int) (m : Nat) (w : World) (hn : max 0 n = (m : Int)) (hm : m ≤ 84) :
    Calls Try.prog 21 #[.int .i64 n] w fun e w' => ∃ v, e = .returned v ∧ w'.ownsRow w.heap.size 5 1 v m (B8 (List.replicate m 0)) ∧ Below w.heap.size w w' := by
  obtain ⟨i0, hi, hz0, hz1, hz2⟩ := info_parts iB
  go_enter Try.func21, Try.ntmps21
  go_wp2_with (at_make; refine wpList_make_full _ rfl _ _ 25 rfl w.heap.size 5 i0 (.int .u8 0) 1 Try.underlying25 hi hz0 hz1 .i64 .i64 _ _ m rfl rfl (by first | rfl | exact hn) (by first | rfl | exact hn) (by rw [hz2]; omega) (by simp only [maxLen]; omega) (Nat.le_refl _) ?_; intro w3 o3 g3)
  have B3 : Below w.heap.size w w3 := (Below.refl _ w).grown g3 (Nat.le_refl _) (by rintro k hk; cases hk)
  go_wp2_with fail
  go_ret
  rw [Nat.mul_one] at o3
  exact ⟨_, rfl, by rw [B8, List.map_replicate, ← toList_madeCells_one]; exact o3, B3⟩

set_option maxRecDepth 100000 in
set_option maxHeartbeats 4000000 in
theorem rsums_any (a : Option Addr) (len cap : Nat) (zs : List Int) (w : World) (h : Row w a (B8 zs)) (hl : zs.length = len) (hlc : len ≤ cap) (hcm : cap ≤ 9223372036854775807) (hb : len ≤ 140737488355328) (hz : IsBytes zs) :
    Calls Try.prog 12 #[.slice a len cap] w fun e w' => e = .returned (.tuple #[.int .i64 (sums zs).1, .int .i64 (sums zs).2]) ∧ Below w.heap.size w w' := by
  obtain ⟨i0, hi, hz0, hz1, hz2⟩ := info_parts iB
  have HL := hid hl
  have hsum : sums zs = sm zs ((len + 3) / 4) := by unfold sums; rw [hl]
  have HS := hid hsum
  clear hl hsum
  go_enter Try.func12, Try.ntmps12
  go_wp2_with fail
  go_loopw [4, 5, 6, 7] (fun f s p i wr => ∃ n t : Nat, t = 4 * n ∧ n ≤ (len + 3) / 4 ∧ i = .int .i64 (t : Int) ∧ f = .int .i64 (sm zs n).1 ∧ s = .int .i64 (sm zs n).2 ∧ p = .int .i64 (n : Int) ∧ Below w.heap.size w wr) (fun _ _ _ i _ => len + 4 - (intOf i).toNat)
  case atStart => exact ⟨0, 0, rfl, by omega, rfl, rfl, rfl, rfl, Below.refl _ _⟩
  case round =>
    obtain ⟨n, t, ht, hn, rfl, rfl, rfl, rfl, Bw⟩ := hrel
    have HT := hid ht
    have hn0 : n ≤ len := by omega
    have hbd := sm_bd zs n
    have hn2' : ¬ t < len → n = (len + 3) / 4 := by omega
    clear ht
    by_cases hlt : t < len
    · clear hn2'
      have hpos : 0 < zs.length := by rw [HL.out]; omega
      obtain ⟨b, o, hx⟩ : ∃ b o, a = some ⟨b, o, none⟩ := ⟨_, _, h.nn (by simpa using hpos)⟩
      subst hx
      obtain ⟨E, hE, hE1, hE2, hE3, hE4⟩ : ∃ E : Nat, min (len : Int) ((t : Int) + 4) = (E : Int) ∧ t < E ∧ E ≤ len ∧ E ≤ t + 4 ∧ (E < t + 4 → E = len) := ⟨min len (t + 4), by omega, by omega, by omega, by omega, by omega⟩
      have hown : (wr.alloc (.cells #[] 5)).ownsRow wr.heap.size 5 1 (.slice (some ⟨wr.heap.size, 0, none⟩) 0 0) 0 [] := World.ownsRow_lit wr #[] 0 (Nat.le_refl _) (by simp [maxLen]) rfl
      have hc1 : (t : Int) ≤ (E : Int) := by omega
      have hc2 : (E : Int) ≤ (cap : Int) := by omega
      have hc3 : (0 : Int) ≤ (t : Int) := by omega
      obtain ⟨u, hu⟩ : ∃ u, u = E - t := ⟨_, rfl⟩
      obtain ⟨pt, hpt⟩ : ∃ pt, pt = (zs.drop t).take u := ⟨_, rfl⟩
      have hul : pt.length = u := by rw [hpt, List.length_take, List.length_drop, HL.out]; omega
      have hul2 : (B8 pt).length = E - t := by rw [B8_length, hul, hu]
      have hu4 : u ≤ 4 := by omega
      have hrow : Row wr (some ⟨b, o + t, none⟩) (B8 pt) := by
        rw [hpt, B8, List.map_take, List.map_drop]
        exact ((h.below Bw (Nat.le_refl _)).drop t).take u
      have hm : max 0 ((t : Int) + 4 - (len : Int)) = ((4 - u : Nat) : Int) := by omega
      have hub : IsBytes pt := hpt ▸ (hz.drop t).take u
      have HU := hid hu
      have HPT := hid hpt
      clear hpt hu
      go_wp2_with (at_builtin; refine wpList_append_row rfl _ _ 25 rfl wr.heap.size 5 i0 (.int .u8 0) Try.underlying25 hi hz0 hz1 (by omega) rfl _ 0 [] rfl hown (some ⟨b, o + t, none⟩) (E - t) (cap - t) (B8 pt) rfl (hrow.alloc _) hul2 (fun h => by cases h) (B8_one _) ?c4 ?c5 ?_)
      case c4 => omega
      case c5 => simp
      intro v1 w1 o1 g1 _
      have B1 : Below wr.heap.size wr w1 := ((Below.refl _ wr).alloc (Nat.le_refl _) _).trans g1
      have s1 := B1.size
      try simp only [Nat.zero_add, List.nil_append] at o1
      rw [← HU.out] at o1
      have sr := Bw.size
      clear g1 hown
      go_wp2_with fail
      refine (zeros_any _ (4 - u) w1 hm (by omega)).mono ?_
      rintro e w2 ⟨v2, rfl, o2, B2⟩
      obtain ⟨a2, c2, rfl, hl2, hc2, hm2, r2, d2, n2⟩ := row_of_owns o2
      have q2 := owns_cap o2
      have s2 := B2.size
      have o1' := Below.owns B2 (Nat.le_refl _) o1
      clear o1 o2
      go_wp2_with (at_builtin; refine wpList_append_row rfl _ _ 25 rfl wr.heap.size 5 i0 (.int .u8 0) Try.underlying25 hi hz0 hz1 (by omega) rfl _ u (B8 pt) rfl o1' a2 (4 - u) c2 (B8 (List.replicate (4 - u) 0)) rfl r2 (by simp) q2 (B8_one _) ?c4 ?c5 ?_)
      case c4 => omega
      case c5 => omega
      intro v3 w3 o3 g3 _
      have B3 : Below wr.heap.size wr w3 := (B1.trans (B2.mono s1)).trans g3
      obtain ⟨wo, hwo⟩ : ∃ wo : List Int, wo = pt ++ List.replicate (4 - u) 0 := ⟨_, rfl⟩
      have e3 : B8 wo = B8 pt ++ List.replicate (4 - u) (.int .u8 0) := by rw [hwo]; simp [B8]
      have o3' : w3.ownsRow wr.heap.size 5 1 v3 4 (B8 wo) := by rw [e3]; simpa using o3
      obtain ⟨a3, c3, rfl, hl3, hc3, hm3, r3, d3, n3⟩ := row_of_owns o3'
      have hwl : wo.length = 4 := by rw [hwo, List.length_append, hul, List.length_replicate]; omega
      have hwb : IsBytes wo := by rw [hwo]; exact hub.append (fun x hx => by rw [List.eq_of_mem_replicate hx]; decide)
      have hpw : pw wo 0 4 = wd zs n := by
        have hz1 : ∀ k, k < 4 → zb wo (0 + k) = zb zs (4 * n + k) := by
          intro k hk
          rw [hwo, ← HT.out, Nat.zero_add]
          by_cases hku : k < u
          · unfold zb
            rw [List.getElem?_append_left (by rw [hul]; exact hku), HPT.out, List.getElem?_take, if_pos hku, List.getElem?_drop]
          · unfold zb
            rw [List.getElem?_append_right (by rw [hul]; omega), List.getElem?_replicate, List.getElem?_eq_none (show zs.length ≤ t + k by rw [HL.out]; omega)]
            split <;> rfl
        unfold wd
        simp only [pw]
        rw [hz1 0 (by omega), hz1 1 (by omega), hz1 2 (by omega), hz1 3 (by omega)]
      have HPW := hid hpw
      have hwd := wd_bd hz n
      have HN1 : Hid (n + 1 ≤ (len + 3) / 4) := hid (by have := HT.out; omega)
      clear hwo e3 o3 o3' hpw B1 B2 o1' g3 r2
      go_wp2_with fail
      refine (number_any a3 4 c3 wo w3 r3 hwl (by decide) hwb).mono ?_
      rw [HPW.out]
      rintro e w4 ⟨rfl, rfl⟩
      go_wp2_with fail
      refine (number_any a3 4 c3 wo w3 r3 hwl (by decide) hwb).mono ?_
      rw [HPW.out]
      rintro e w4 ⟨rfl, rfl⟩
      go_wp2_with fail
      go_roundw
      case rel => exact ⟨n + 1, t + 4, by rw [HT.out]; omega, HN1.out, by go_num, rfl, rfl, by go_num, Bw.trans (B3.mono sr)⟩
      case measure => simp [intOf]; omega
    · have HN := hid (hn2' hlt)
      go_wp2_with fail
      go_ret2
      exact ⟨by rw [HS.out, ← HN.out]; rfl, Bw⟩

theorem rclose_long (a : Option Addr) (len cap : Nat) (w : World) (hb : 84 < len) (hm : len ≤ 9223372036854775807) :
    Calls Try.prog 13 #[.slice a len cap] w fun e w' => e = .returned (.tuple #[.slice none 0 0, .bool false]) ∧ w = w' := by
  go_enter Try.func13, Try.ntmps13
  go_wp2_with fail
  go_ret2
  exact ⟨rfl, rfl⟩

set_option maxRecDepth 100000 in
set_option maxHeartbeats 2000000 in
theorem rclose_any (a : Option Addr) (len cap : Nat) (zs : List Int) (w : World) (h : Row w a (B8 zs)) (hl : zs.length = len) (hn : a = none → len = 0 ∧ cap = 0) (hb : len ≤ 84) (hz : IsBytes zs) :
    Calls Try.prog 13 #[.slice a len cap] w fun e w' => ∃ v, e = .returned (.tuple #[v, .bool true]) ∧ w'.ownsRow w.heap.size 5 1 v 96 (B8 (closed zs)) ∧ Below w.heap.size w w' := by
  obtain ⟨i0, hi, hz0, hz1, hz2⟩ := info_parts iB
  have HPL := hid (padded_length (zs := zs) (by omega))
  have hpb := padded_bytes hz
  have hsb := sums_bd hpb (by rw [HPL.out]; decide)
  have hown : (w.alloc (.cells #[] 5)).ownsRow w.heap.size 5 1 (.slice (some ⟨w.heap.size, 0, none⟩) 0 0) 0 [] := World.ownsRow_lit w #[] 0 (Nat.le_refl _) (by simp [maxLen]) rfl
  have HL := hid hl
  clear hl
  go_enter Try.func13, Try.ntmps13
  go_wp2_with (at_builtin; refine wpList_append_row rfl _ _ 25 rfl w.heap.size 5 i0 (.int .u8 0) Try.underlying25 hi hz0 hz1 (by omega) rfl _ 0 [] rfl hown a len cap (B8 zs) rfl (h.alloc _) (by simp; exact HL.out) hn (B8_one _) ?c4 ?c5 ?_)
  case c4 => omega
  case c5 => simp
  intro v1 w1 o1 g1 _
  have B1 : Below w.heap.size w w1 := ((Below.refl _ w).alloc (Nat.le_refl _) _).trans g1
  have s1 := B1.size
  try simp only [Nat.zero_add, List.nil_append] at o1
  clear g1 hown
  obtain ⟨m, hm⟩ : ∃ m : Nat, m + len = 84 := ⟨84 - len, by omega⟩
  have hmx : max 0 (84 - (len : Int)) = (m : Int) := by omega
  have HM := hid hm
  have hm84 : m ≤ 84 := by omega
  clear hm
  go_wp2_with fail
  refine (zeros_any _ m w1 hmx hm84).mono ?_
  rintro e w2 ⟨v2, rfl, o2, B2⟩
  obtain ⟨a2, c2, rfl, hl2, hc2, hm2, r2, d2, n2⟩ := row_of_owns o2
  have q2 := owns_cap o2
  have B2' := B1.trans (B2.mono s1)
  have s2 := B2'.size
  have o1' := Below.owns B2 (Nat.le_refl _) o1
  clear o1 o2
  go_wp2_with (at_builtin; refine wpList_append_row rfl _ _ 25 rfl w.heap.size 5 i0 (.int .u8 0) Try.underlying25 hi hz0 hz1 (by omega) rfl _ len (B8 zs) rfl o1' a2 m c2 (B8 (List.replicate m 0)) rfl r2 (by simp) q2 (B8_one _) ?c4 ?c5 ?_)
  case c4 => omega
  case c5 => omega
  intro v3 w3 o3 g3 _
  have B3 := B2'.trans g3
  have s3 := B3.size
  have e3 : B8 (padded zs) = B8 zs ++ List.replicate m (.int .u8 0) := by
    unfold padded
    rw [show 84 - zs.length = m by rw [HL.out]; have := HM.out; omega]
    simp [B8]
  have o3' : w3.ownsRow w.heap.size 5 1 v3 84 (B8 (padded zs)) := by
    rw [e3]
    have h84 : len + m = 84 := by have := HM.out; omega
    rw [h84] at o3
    simpa using o3
  obtain ⟨a3, c3, rfl, hl3, hc3, hm3, r3, d3, n3⟩ := row_of_owns o3'
  unfold maxLen at hm3
  clear o3 e3 g3 o1' B2 r2
  go_wp2_with fail
  refine (rsums_any a3 84 c3 (padded zs) w3 r3 HPL.out hc3 (by omega) (by decide) hpb).mono ?_
  rintro e w4 ⟨rfl, B4⟩
  have B4' := B3.trans (B4.mono s3)
  have s4 := B4'.size
  have o4 := Below.owns B4 (Nat.le_refl _) o3'
  clear o3' r3 B4
  go_wp2_with fail
  refine (high_any (sums (padded zs)).1 w4 hsb.1).mono ?_
  rintro e w5 ⟨v5, rfl, o5, B5⟩
  obtain ⟨a5, c5, rfl, hl5, hc5, hm5, r5, d5, n5⟩ := row_of_owns o5
  have q5 := owns_cap o5
  have B5' := B4'.trans (B5.mono s4)
  have s5 := B5'.size
  have o4' := Below.owns B5 (Nat.le_refl _) o4
  clear o5 o4 B5
  go_wp2_with (at_builtin; refine wpList_append_row rfl _ _ 25 rfl w.heap.size 5 i0 (.int .u8 0) Try.underlying25 hi hz0 hz1 (by omega) rfl _ 84 (B8 (padded zs)) rfl o4' a5 6 c5 (B8 (lay6 (sums (padded zs)).1)) rfl r5 rfl q5 (B8_one _) ?c4 ?c5 ?_)
  case c4 => omega
  case c5 => exact s5
  intro v6 w6 o6 g6 _
  have B6 := B5'.trans g6
  have s6 := B6.size
  clear g6 o4' r5
  go_wp2_with fail
  refine (high_any (sums (padded zs)).2 w6 hsb.2).mono ?_
  rintro e w7 ⟨v7, rfl, o7, B7⟩
  obtain ⟨a7, c7, rfl, hl7, hc7, hm7, r7, d7, n7⟩ := row_of_owns o7
  have q7 := owns_cap o7
  have B7' := B6.trans (B7.mono s6)
  have s7 := B7'.size
  have o6' := Below.owns B7 (Nat.le_refl _) o6
  clear o7 o6 B7
  go_wp2_with (at_builtin; refine wpList_append_row rfl _ _ 25 rfl w.heap.size 5 i0 (.int .u8 0) Try.underlying25 hi hz0 hz1 (by omega) rfl _ 90 _ rfl o6' a7 6 c7 (B8 (lay6 (sums (padded zs)).2)) rfl r7 rfl q7 (B8_one _) ?c4 ?c5 ?_)
  case c4 => omega
  case c5 => exact s7
  intro v8 w8 o8 g8 _
  have B8' := B7'.trans g8
  have e8 : B8 (closed zs) = B8 (padded zs) ++ B8 (lay6 (sums (padded zs)).1) ++ B8 (lay6 (sums (padded zs)).2) := by
    simp [closed, B8]
  have o8' : w8.ownsRow w.heap.size 5 1 v8 96 (B8 (closed zs)) := by rw [e8, List.append_assoc]; exact o8
  go_wp2_with fail
  go_ret2
  exact ⟨v8, rfl, o8', B8'⟩

end Go.Proofs.Ytjoghgnkdegeoaa
