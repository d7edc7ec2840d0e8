/- the contracts of package seal -/
import Derived.Test.YtleoelhhndeheaaGreatProg
import Derived.Test.YtleoelhhndeheaaGreatSealSpec
import Derived.Test.YtleoelhhndeheaaGreatSlB
import Derived.Test.YtleoelhhndeheaaGreatAppendZ
open Go Go.RowKit
namespace Go.Proofs.YtleoelhhndeheaaGreat

set_option maxRecDepth 100000 in
set_option maxHeartbeats 1000000 in
theorem sums_any (a : Option Addr) (len cap : Nat) (zs : List Int) (w : World) (h : Row w a (B8 zs)) (hl : zs.length = len) (hb : len ≤ 140737488355328) (hz : IsBytes zs) :
    Calls Tryz.prog 117 #[.slice a len cap] w fun e w' => e = .returned (.tuple #[.int .i64 (sums zs).1, .int .i64 (sums zs).2]) ∧ w = w' := by
  have hix := fun k (hk : k < len) => idx_at1 (P := Tryz.prog) (T := 27) Tryz.underlying27 szB (cap := cap) (fun _ => h.nn (by simp; omega)) hk
  have HL := hid hl
  clear hl
  go_enter Tryz.func117, Tryz.ntmps117
  go_wp2_with fail
  go_loop [4, 5, 6] (fun f s t => ∃ n : Nat, n ≤ (len + 3) / 4 ∧ t = .int .i64 (4 * (n : Int)) ∧ f = .int .i64 (sm zs n).1 ∧ s = .int .i64 (sm zs n).2) (fun _ _ t => len + 4 - (intOf t).toNat)
  case atStart => exact ⟨0, by omega, rfl, rfl, rfl⟩
  case round =>
    obtain ⟨n, hn, rfl, rfl, rfl⟩ := hrel
    have hbd := sm_bd zs n
    by_cases hlt : 4 * n < len
    · go_wp2_with fail
      go_loop [7, 15] (fun v i => ∃ k : Nat, k ≤ 4 ∧ i = .int .i64 k ∧ v = .int .i64 (pw zs (4 * n) k)) (fun _ i => 4 - (intOf i).toNat)
      case atStart => exact ⟨0, by omega, rfl, rfl⟩
      case round =>
        obtain ⟨k, hk, rfl, rfl⟩ := hrel
        have hp := pw_bd4 hz (4 * n) k hk
        by_cases hk4 : k < 4
        · by_cases hin : 4 * n + k < len
          · have hix := hix (4 * n + k) hin
            have e : ((4 * n + k : Nat) : Int) = 4 * (n : Int) + (k : Int) := by omega
            rw [e] at hix
            clear e
            have hc := h.byte (i := 4 * n + k) (by rw [HL.out]; exact hin)
            have hzb := hz.get (4 * n + k)
            have hor := i64_or8 (pw zs (4 * n) k * 256) (zs[4 * n + k]?.getD 0) (by omega) (by omega) (by omega) hzb.1 (by omega)
            go_wp2_with fail
            go_round
            case rel => exact ⟨k + 1, by omega, by go_num, rfl⟩
            case measure => simp [intOf]; omega
          · have hz0 : zb zs (4 * n + k) = 0 := by unfold zb; rw [List.getElem?_eq_none (by rw [HL.out]; omega)]; rfl
            have HZ0 := hid hz0
            clear hz0
            go_wp2_with fail
            go_round
            case rel => exact ⟨k + 1, by omega, by go_num, by rw [show pw zs (4 * n) (k + 1) = pw zs (4 * n) k * 256 + zb zs (4 * n + k) from rfl, HZ0.out, Int.add_zero]⟩
            case measure => simp [intOf]; omega
        · obtain rfl : k = 4 := by omega
          go_wp2_with fail
          go_round
          case rel => exact ⟨n + 1, by omega, by go_num, rfl, rfl⟩
          case measure => simp [intOf]; omega
    · have hn2 : n = (len + 3) / 4 := by omega
      have HN := hid hn2
      clear hn2
      go_wp2_with fail
      go_ret2
      refine ⟨?_, rfl⟩
      unfold sums
      rw [HL.out, ← HN.out]
      rfl


set_option maxRecDepth 100000 in
set_option maxHeartbeats 2000000 in
theorem slay_any (n : Int) (w : World) (hn : 0 ≤ n ∧ n < 281474976710656) :
    Calls Tryz.prog 118 #[.int .i64 n] w fun e w' => ∃ v, e = .returned v ∧ w'.ownsRow w.heap.size 5 1 v 6 (B8 (lay6 n)) ∧ Below w.heap.size w w' := by
  obtain ⟨i0, hi, hz0, hz1, hz2⟩ := info_parts iB
  have o0 : w.ownsRow w.heap.size 5 1 (.slice none 0 0) 0 [] := World.ownsRow_nil _ _ _ _
  go_enter Tryz.func118, Tryz.ntmps118
  go_wp2_with fail
  refine wp_loop_rounds 7 ?_
  rw [rounds_succ]
  go_wp2_with (at_builtin; refine wpList_append_own _ rfl _ _ 27 rfl w.heap.size 5 i0 (.int .u8 0) 1 1 Tryz.underlying27 hi hz0 hz1 hz2 rfl (by decide) _ 0 _ rfl (o0.alloc _) ⟨w.heap.size, 0, none⟩ 1 1 [_] rfl rfl (cell_one_new _ _ _) ?c2 ?c3 ?c4 ?c5 ?_)
  case c2 => simp [Value.oneCell']
  case c3 => simp [maxLen]
  case c4 => omega
  case c5 => simp <;> omega
  intro v1 w1 o1 g1 _
  have B1 : Below w.heap.size w w1 := ((Below.refl _ w).alloc (by omega) _).grown g1 (by simp <;> omega) (by intro q hq; cases hq)
  have s1 := B1.size
  clear g1
  go_wp2_with fail
  rw [rounds_succ]
  go_wp2_with (at_builtin; refine wpList_append_own _ rfl _ _ 27 rfl w.heap.size 5 i0 (.int .u8 0) 1 1 Tryz.underlying27 hi hz0 hz1 hz2 rfl (by decide) _ 1 _ rfl (o1.alloc _) ⟨w1.heap.size, 0, none⟩ 1 1 [_] rfl rfl (cell_one_new _ _ _) ?c2 ?c3 ?c4 ?c5 ?_)
  case c2 => simp [Value.oneCell']
  case c3 => simp [maxLen]
  case c4 => omega
  case c5 => simp <;> omega
  intro v2 w2 o2 g2 _
  have B2 : Below w.heap.size w w2 := ((B1).alloc (by omega) _).grown g2 (by simp <;> omega) (by intro q hq; exact (o1.lt _ hq).1)
  have s2 := B2.size
  clear g2
  go_wp2_with fail
  rw [rounds_succ]
  go_wp2_with (at_builtin; refine wpList_append_own _ rfl _ _ 27 rfl w.heap.size 5 i0 (.int .u8 0) 1 1 Tryz.underlying27 hi hz0 hz1 hz2 rfl (by decide) _ 2 _ rfl (o2.alloc _) ⟨w2.heap.size, 0, none⟩ 1 1 [_] rfl rfl (cell_one_new _ _ _) ?c2 ?c3 ?c4 ?c5 ?_)
  case c2 => simp [Value.oneCell']
  case c3 => simp [maxLen]
  case c4 => omega
  case c5 => simp <;> omega
  intro v3 w3 o3 g3 _
  have B3 : Below w.heap.size w w3 := ((B2).alloc (by omega) _).grown g3 (by simp <;> omega) (by intro q hq; exact (o2.lt _ hq).1)
  have s3 := B3.size
  clear g3
  go_wp2_with fail
  rw [rounds_succ]
  go_wp2_with (at_builtin; refine wpList_append_own _ rfl _ _ 27 rfl w.heap.size 5 i0 (.int .u8 0) 1 1 Tryz.underlying27 hi hz0 hz1 hz2 rfl (by decide) _ 3 _ rfl (o3.alloc _) ⟨w3.heap.size, 0, none⟩ 1 1 [_] rfl rfl (cell_one_new _ _ _) ?c2 ?c3 ?c4 ?c5 ?_)
  case c2 => simp [Value.oneCell']
  case c3 => simp [maxLen]
  case c4 => omega
  case c5 => simp <;> omega
  intro v4 w4 o4 g4 _
  have B4 : Below w.heap.size w w4 := ((B3).alloc (by omega) _).grown g4 (by simp <;> omega) (by intro q hq; exact (o3.lt _ hq).1)
  have s4 := B4.size
  clear g4
  go_wp2_with fail
  rw [rounds_succ]
  go_wp2_with (at_builtin; refine wpList_append_own _ rfl _ _ 27 rfl w.heap.size 5 i0 (.int .u8 0) 1 1 Tryz.underlying27 hi hz0 hz1 hz2 rfl (by decide) _ 4 _ rfl (o4.alloc _) ⟨w4.heap.size, 0, none⟩ 1 1 [_] rfl rfl (cell_one_new _ _ _) ?c2 ?c3 ?c4 ?c5 ?_)
  case c2 => simp [Value.oneCell']
  case c3 => simp [maxLen]
  case c4 => omega
  case c5 => simp <;> omega
  intro v5 w5 o5 g5 _
  have B5 : Below w.heap.size w w5 := ((B4).alloc (by omega) _).grown g5 (by simp <;> omega) (by intro q hq; exact (o4.lt _ hq).1)
  have s5 := B5.size
  clear g5
  go_wp2_with fail
  rw [rounds_succ]
  go_wp2_with (at_builtin; refine wpList_append_own _ rfl _ _ 27 rfl w.heap.size 5 i0 (.int .u8 0) 1 1 Tryz.underlying27 hi hz0 hz1 hz2 rfl (by decide) _ 5 _ rfl (o5.alloc _) ⟨w5.heap.size, 0, none⟩ 1 1 [_] rfl rfl (cell_one_new _ _ _) ?c2 ?c3 ?c4 ?c5 ?_)
  case c2 => simp [Value.oneCell']
  case c3 => simp [maxLen]
  case c4 => omega
  case c5 => simp <;> omega
  intro v6 w6 o6 g6 _
  have B6 : Below w.heap.size w w6 := ((B5).alloc (by omega) _).grown g6 (by simp <;> omega) (by intro q hq; exact (o5.lt _ hq).1)
  have s6 := B6.size
  clear g6
  go_wp2_with fail
  rw [rounds_succ]
  go_wp2_with fail
  go_ret
  simp only [B8, lay6, List.map_cons, List.map_nil]
  rw [show n / 1099511627776 % 256 = n / 1099511627776 by omega]
  exact ⟨_, rfl, o6, B6⟩

end Go.Proofs.YtleoelhhndeheaaGreat
