import Derived.Test.YtleoelhhndeheaaGreatLedP
import Derived.Test.YtleoelhhndeheaaGreatSeal
import Derived.Test.YtleoelhhndeheaaGreatAppRow
import Derived.Test.YtleoelhhndeheaaGreatDrum2
import Derived.Test.YtleoelhhndeheaaGreatConcat
/- package ledger: the small functions -/
open Go Go.RowKit
namespace Go.Proofs.YtleoelhhndeheaaGreat

theorem lay2_bytes (n : Int) : IsBytes (lay2 n) := by
  intro x hx
  simp only [lay2, List.mem_cons, List.mem_nil_iff, or_false] at hx
  rcases hx with rfl | rfl <;> omega
theorem lay4_bytes (n : Int) : IsBytes (lay4 n) := by
  intro x hx
  simp only [lay4, List.mem_cons, List.mem_nil_iff, or_false] at hx
  rcases hx with rfl | rfl | rfl | rfl <;> omega
theorem lay2_length (n : Int) : (lay2 n).length = 2 := rfl
theorem lay4_length (n : Int) : (lay4 n).length = 4 := rfl

set_option maxRecDepth 100000 in
set_option maxHeartbeats 1000000 in
theorem lnumber_any (a : Option Addr) (len cap : Nat) (zs : List Int) (w : World) (h : Row w a (B8 zs)) (hl : zs.length = len) (hb : len ≤ 4) (hz : IsBytes zs) :
    Calls Tryz.prog 99 #[.slice a len cap] w fun e w' => e = .returned (.int .i64 (num zs)) ∧ w = w' := by
  have hix := fun k (hk : k < len) => idx_at1 (P := Tryz.prog) (T := 27) Tryz.underlying27 szB (cap := cap) (fun _ => h.nn (by simp; omega)) hk
  have hnum : num zs = pw zs 0 len := by unfold num; rw [hl]
  rw [hnum]
  have HL := hid hl
  clear hl hnum
  go_enter Tryz.func99, Tryz.ntmps99
  go_wp2_with fail
  go_loop [3, 8] (fun v i => ∃ k : Nat, k ≤ len ∧ i = .int .i64 k ∧ v = .int .i64 (pw zs 0 k)) (fun _ i => len - (intOf i).toNat)
  case atStart => exact ⟨0, by omega, rfl, rfl⟩
  case round =>
    obtain ⟨k, hk, rfl, rfl⟩ := hrel
    have hp := pw_bd4 hz 0 k (by omega)
    by_cases hin : k < len
    · have hix := hix k hin
      have hc := h.byte (i := k) (by rw [HL.out]; exact hin)
      have hzb := hz.get k
      have hp2 := pw_bd4 hz 0 (k + 1) (by omega)
      have hor := i64_or8 (pw zs 0 k * 256) (zs[k]?.getD 0) (by omega) (by omega) (by omega) hzb.1 (by omega)
      have e : pw zs 0 (k + 1) = pw zs 0 k * 256 + zs[k]?.getD 0 := by simp only [pw, zb, Nat.zero_add]
      have HE := hid e
      clear e hp2
      go_wp2_with fail
      go_round
      case rel => exact ⟨k + 1, by omega, by go_num, by rw [HE.out]⟩
      case measure => simp [intOf]; omega
    · obtain rfl : k = len := by omega
      go_wp2_with fail
      go_ret
      exact ⟨rfl, rfl⟩

set_option maxRecDepth 100000 in
set_option maxHeartbeats 2000000 in
theorem laid2_any (n : Int) (w : World) (hn : 0 ≤ n ∧ n < 281474976710656) :
    Calls Tryz.prog 113 #[.int .i64 n, .int .i64 2] w fun e w' => ∃ v, e = .returned v ∧ w'.ownsRow w.heap.size 5 1 v 2 (B8 (lay2 n)) ∧ Below w.heap.size w w' := by
  obtain ⟨i0, hi, hz0, hz1, hz2⟩ := info_parts iB
  have o0 : w.ownsRow w.heap.size 5 1 (.slice none 0 0) 0 [] := World.ownsRow_nil _ _ _ _
  go_enter Tryz.func113, Tryz.ntmps113
  go_wp2_with fail
  refine wp_loop_rounds 3 ?_
  rw [rounds_succ]
  go_wp2_with (at_builtin; refine wpList_append_own _ rfl _ _ 27 rfl w.heap.size 5 i0 (.int .u8 0) 1 1 Tryz.underlying27 hi hz0 hz1 hz2 rfl (by decide) _ 0 _ rfl (o0.alloc _) ⟨w.heap.size, 0, none⟩ 1 1 [_] rfl rfl (cell_one_new _ _ _) ?c2 ?c3 ?c4 ?c5 ?_)
  case c2 => simp [Value.oneCell']
  case c3 => simp [maxLen]
  case c4 => omega
  case c5 => simp <;> omega
  intro v1 w1 o1 g1 _
  have B1 : Below w.heap.size w w1 := ((Below.refl _ w).alloc (by omega) _).grown g1 (by simp <;> omega) (by intro q hq; cases hq)
  have s1 := B1.size
  clear g1
  go_wp2_with fail
  rw [rounds_succ]
  go_wp2_with (at_builtin; refine wpList_append_own _ rfl _ _ 27 rfl w.heap.size 5 i0 (.int .u8 0) 1 1 Tryz.underlying27 hi hz0 hz1 hz2 rfl (by decide) _ 1 _ rfl (o1.alloc _) ⟨w1.heap.size, 0, none⟩ 1 1 [_] rfl rfl (cell_one_new _ _ _) ?c2 ?c3 ?c4 ?c5 ?_)
  case c2 => simp [Value.oneCell']
  case c3 => simp [maxLen]
  case c4 => omega
  case c5 => simp <;> omega
  intro v2 w2 o2 g2 _
  have B2 : Below w.heap.size w w2 := ((B1).alloc (by omega) _).grown g2 (by simp <;> omega) (by intro q hq; exact (o1.lt _ hq).1)
  have s2 := B2.size
  clear g2
  go_wp2_with fail
  rw [rounds_succ]
  go_wp2_with fail
  go_ret
  simp only [B8, lay2, List.map_cons, List.map_nil]
  exact ⟨_, rfl, o2, B2⟩

set_option maxRecDepth 100000 in
set_option maxHeartbeats 2000000 in
theorem laid4_any (n : Int) (w : World) (hn : 0 ≤ n ∧ n < 281474976710656) :
    Calls Tryz.prog 113 #[.int .i64 n, .int .i64 4] w fun e w' => ∃ v, e = .returned v ∧ w'.ownsRow w.heap.size 5 1 v 4 (B8 (lay4 n)) ∧ Below w.heap.size w w' := by
  obtain ⟨i0, hi, hz0, hz1, hz2⟩ := info_parts iB
  have o0 : w.ownsRow w.heap.size 5 1 (.slice none 0 0) 0 [] := World.ownsRow_nil _ _ _ _
  go_enter Tryz.func113, Tryz.ntmps113
  go_wp2_with fail
  refine wp_loop_rounds 5 ?_
  rw [rounds_succ]
  go_wp2_with (at_builtin; refine wpList_append_own _ rfl _ _ 27 rfl w.heap.size 5 i0 (.int .u8 0) 1 1 Tryz.underlying27 hi hz0 hz1 hz2 rfl (by decide) _ 0 _ rfl (o0.alloc _) ⟨w.heap.size, 0, none⟩ 1 1 [_] rfl rfl (cell_one_new _ _ _) ?c2 ?c3 ?c4 ?c5 ?_)
  case c2 => simp [Value.oneCell']
  case c3 => simp [maxLen]
  case c4 => omega
  case c5 => simp <;> omega
  intro v1 w1 o1 g1 _
  have B1 : Below w.heap.size w w1 := ((Below.refl _ w).alloc (by omega) _).grown g1 (by simp <;> omega) (by intro q hq; cases hq)
  have s1 := B1.size
  clear g1
  go_wp2_with fail
  rw [rounds_succ]
  go_wp2_with (at_builtin; refine wpList_append_own _ rfl _ _ 27 rfl w.heap.size 5 i0 (.int .u8 0) 1 1 Tryz.underlying27 hi hz0 hz1 hz2 rfl (by decide) _ 1 _ rfl (o1.alloc _) ⟨w1.heap.size, 0, none⟩ 1 1 [_] rfl rfl (cell_one_new _ _ _) ?c2 ?c3 ?c4 ?c5 ?_)
  case c2 => simp [Value.oneCell']
  case c3 => simp [maxLen]
  case c4 => omega
  case c5 => simp <;> omega
  intro v2 w2 o2 g2 _
  have B2 : Below w.heap.size w w2 := ((B1).alloc (by omega) _).grown g2 (by simp <;> omega) (by intro q hq; exact (o1.lt _ hq).1)
  have s2 := B2.size
  clear g2
  go_wp2_with fail
  rw [rounds_succ]
  go_wp2_with (at_builtin; refine wpList_append_own _ rfl _ _ 27 rfl w.heap.size 5 i0 (.int .u8 0) 1 1 Tryz.underlying27 hi hz0 hz1 hz2 rfl (by decide) _ 2 _ rfl (o2.alloc _) ⟨w2.heap.size, 0, none⟩ 1 1 [_] rfl rfl (cell_one_new _ _ _) ?c2 ?c3 ?c4 ?c5 ?_)
  case c2 => simp [Value.oneCell']
  case c3 => simp [maxLen]
  case c4 => omega
  case c5 => simp <;> omega
  intro v3 w3 o3 g3 _
  have B3 : Below w.heap.size w w3 := ((B2).alloc (by omega) _).grown g3 (by simp <;> omega) (by intro q hq; exact (o2.lt _ hq).1)
  have s3 := B3.size
  clear g3
  go_wp2_with fail
  rw [rounds_succ]
  go_wp2_with (at_builtin; refine wpList_append_own _ rfl _ _ 27 rfl w.heap.size 5 i0 (.int .u8 0) 1 1 Tryz.underlying27 hi hz0 hz1 hz2 rfl (by decide) _ 3 _ rfl (o3.alloc _) ⟨w3.heap.size, 0, none⟩ 1 1 [_] rfl rfl (cell_one_new _ _ _) ?c2 ?c3 ?c4 ?c5 ?_)
  case c2 => simp [Value.oneCell']
  case c3 => simp [maxLen]
  case c4 => omega
  case c5 => simp <;> omega
  intro v4 w4 o4 g4 _
  have B4 : Below w.heap.size w w4 := ((B3).alloc (by omega) _).grown g4 (by simp <;> omega) (by intro q hq; exact (o3.lt _ hq).1)
  have s4 := B4.size
  clear g4
  go_wp2_with fail
  rw [rounds_succ]
  go_wp2_with fail
  go_ret
  simp only [B8, lay4, List.map_cons, List.map_nil]
  exact ⟨_, rfl, o4, B4⟩

theorem num_bd {zs : List Int} (h : IsBytes zs) (hl : zs.length ≤ 4) : 0 ≤ num zs ∧ num zs < 4294967296 := pw_bd4 h 0 _ hl
theorem num_bd2 {zs : List Int} (h : IsBytes zs) (hl : zs.length ≤ 2) : 0 ≤ num zs ∧ num zs < 65536 := by
  have := pw_bd h 0 zs.length
  have h2 : (256 : Int) ^ zs.length ≤ 65536 := by
    rcases (by omega : zs.length = 0 ∨ zs.length = 1 ∨ zs.length = 2) with e | e | e <;> rw [e] <;> decide
  unfold num
  omega

theorem leaves_any (n : Int) (w : World) (hn : -1000000000 ≤ n ∧ n ≤ 1000000000) :
    Calls Tryz.prog 69 #[.int .i64 n] w fun e w' => e = .returned (.int .i64 (leavesN n)) ∧ w = w' := by
  by_cases h1 : n < 1
  · have e : leavesN n = 0 := by unfold leavesN; rw [if_pos h1]
    rw [e]
    clear e
    go_enter Tryz.func69, Tryz.ntmps69
    go_wp2_with fail
    go_ret
    exact ⟨rfl, rfl⟩
  · have e : leavesN n = (2 + n * 98 + 63) / 64 := by unfold leavesN; rw [if_neg h1]
    have e2 : (2 + n * 98 + 64 - 1) / 64 = (2 + n * 98 + 63) / 64 := by omega
    rw [e]
    have E2 := hid e2
    clear e e2
    go_enter Tryz.func69, Tryz.ntmps69
    go_wp2_with fail
    go_ret
    exact ⟨ret_int E2.out, rfl⟩

theorem mayC_any (r l t : Int) (w : World) (hr : 0 ≤ r ∧ r < 4294967296) (hl : -1000000000 ≤ l ∧ l < 4294967296) (ht : 0 ≤ t ∧ t ≤ 1000000) :
    Calls Tryz.prog 89 #[.agg #[.int .i64 r, .int .i64 l], .int .i64 t] w fun e w' => e = .returned (.bool (mayC r l t)) ∧ Below w.heap.size w w' := by
  have HM := hid (show mayC r l t = (decide (0 < r) && (decide (5 ≤ l) && decide (l ≤ t - 4))) from rfl)
  by_cases h1 : 0 < r
  · by_cases h2 : 5 ≤ l
    · by_cases h3 : l ≤ t - 4
      all_goals
        go_enter Tryz.func89, Tryz.ntmps89
        go_wp2_with fail
        go_ret
        exact ⟨ret_bool (by rw [HM.out, decide_eq_true h1, decide_eq_true h2, Bool.true_and, Bool.true_and, decide_eq_decide]; omega), (Below.refl _ _).alloc (Nat.le_refl _) _⟩
    · go_enter Tryz.func89, Tryz.ntmps89
      go_wp2_with fail
      go_ret
      exact ⟨ret_bool (by rw [HM.out]; simp; omega), (Below.refl _ _).alloc (Nat.le_refl _) _⟩
  · go_enter Tryz.func89, Tryz.ntmps89
    go_wp2_with fail
    go_ret
    exact ⟨ret_bool (by rw [HM.out]; simp; omega), (Below.refl _ _).alloc (Nat.le_refl _) _⟩

theorem lclosed_any (a : Option Addr) (len cap : Nat) (zs : List Int) (w : World) (h : Row w a (B8 zs)) (hl : zs.length = len) (hn : a = none → len = 0) (hb : len ≤ 84) (hz : IsBytes zs) :
    Calls Tryz.prog 114 #[.slice a len cap] w fun e w' => ∃ v, e = .returned v ∧ w'.ownsRow w.heap.size 5 1 v 96 (B8 (closed zs)) ∧ Below w.heap.size w w' := by
  have CL := close_any a len cap zs w h hl hn hb hz
  go_enter Tryz.func114, Tryz.ntmps114
  go_wp2_with fail
  refine CL.mono ?_
  rintro e w1 ⟨v, rfl, o, B⟩
  go_wp2_with fail
  go_ret
  exact ⟨_, rfl, o, B⟩

end Go.Proofs.YtleoelhhndeheaaGreat

/- package ledger: a cover's track -/
open Go Go.RowKit
namespace Go.Proofs.YtleoelhhndeheaaGreat

theorem coverB_length (r l : Int) : (lay4 r ++ lay2 l ++ List.replicate 74 0 ++ lay4 r).length = 84 := by simp [lay4_length, lay2_length]
theorem coverB_bytes (r l : Int) : IsBytes (lay4 r ++ lay2 l ++ List.replicate 74 0 ++ lay4 r) :=
  (((lay4_bytes r).append (lay2_bytes l)).append (fun x hx => by rw [List.eq_of_mem_replicate hx]; decide)).append (lay4_bytes r)
theorem coverT_length (r l : Int) : (coverT r l).length = 96 := closed_length (by rw [coverB_length]; decide)
theorem coverT_bytes (r l : Int) : IsBytes (coverT r l) := closed_bytes (coverB_bytes r l)
/-- the parts of a joint are in order -/
theorem pt_ok {w : World} {a : Option Addr} {c : Nat} {zs : List Int} {n : Nat} (h : Row w a (B8 zs)) (hl : zs.length = n) (h0 : 0 < n) (hn : a = none → n = 0) : Pt.Ok w ⟨a, c, zs⟩ := ⟨h, fun e => by have := hn e; omega⟩
theorem pt_some {w : World} {a : Addr} {c : Nat} {zs : List Int} (h : Row w (some a) (B8 zs)) : Pt.Ok w ⟨some a, c, zs⟩ := ⟨h, fun e => by cases e⟩

set_option maxRecDepth 100000 in
set_option maxHeartbeats 4000000 in
theorem track_any (r l : Int) (w : World) (hr : 0 ≤ r ∧ r < 281474976710656) (hl : 0 ≤ l ∧ l < 281474976710656) :
    Calls Tryz.prog 100 #[.agg #[.int .i64 r, .int .i64 l]] w fun e w' => ∃ v, e = .returned v ∧ w'.ownsRow w.heap.size 5 1 v 96 (B8 (coverT r l)) ∧ Below w.heap.size w w' := by
  have m74 := fun W => mkU (n := 74) (by omega) W
  simp only [show ((74 : Nat) : Int) = 74 from rfl] at m74
  obtain ⟨z74, hz74⟩ : ∃ z, (B8 (List.replicate 74 0)).toArray = z := ⟨_, rfl⟩
  rw [hz74] at m74
  have RZ : ∀ W : World, Row (W.alloc (.cells z74 5)) (some ⟨W.heap.size, 0, none⟩) (B8 (List.replicate 74 0)) := fun W => by
    have := row_at W z74 5 rfl
    rw [← hz74] at this ⊢
    exact this
  clear hz74
  obtain ⟨W0, hW0⟩ : ∃ W0, w.alloc (.cells #[.int .i64 r, .int .i64 l] 120) = W0 := ⟨_, rfl⟩
  have BW0 : Below w.heap.size w W0 := by rw [← hW0]; exact (Below.refl _ _).alloc (Nat.le_refl _) _
  have x1 : W0.heap[w.heap.size]? = some (.cells #[.int .i64 r, .int .i64 l] 120 (0, 0)) := by rw [← hW0]; exact blk_new _ _
  obtain ⟨xb, hxb⟩ : ∃ xb, w.heap.size = xb := ⟨_, rfl⟩
  rw [hxb] at x1
  have lxb : xb < W0.heap.size := lt_of_blk x1
  have y0 : W0.cell? ⟨xb, 0, none⟩ = some (.int .i64 r) := blk_cell x1 rfl
  have y1 : W0.cell? ⟨xb, 1, none⟩ = some (.int .i64 l) := blk_cell x1 rfl
  clear x1
  have HXB := hid hxb
  have SB : ∀ W, Below W0.heap.size W0 W → Below W0.heap.size W0 W ∧ W.cell? ⟨xb, 0, none⟩ = some (.int .i64 r) ∧ W.cell? ⟨xb, 1, none⟩ = some (.int .i64 l) := fun W h => ⟨h, Below.cellAt h lxb y0, Below.cellAt h lxb y1⟩
  go_enter Tryz.func100, Tryz.ntmps100
  go_wp2_with fail
  refine wp_region_held_drew (S := fun w' => Below W0.heap.size W0 w' ∧ w'.cell? ⟨xb, 0, none⟩ = some (.int .i64 r) ∧ w'.cell? ⟨xb, 1, none⟩ = some (.int .i64 l)) (by kernel_rfl) (SB _ ((Below.refl W0.heap.size W0).drew)) (fun hHeld => ?_)
  refine wpAnyH_take (i := 0) (v := ?v1) (by simp only [List.getElem?_toArray, List.getElem?_cons_zero]; rfl) (by kernel_rfl) (by kernel_rfl) (by kernel_rfl) (by exact fun _ _ _ h => h) (Or.inl ⟨by rfl, ?h1⟩) (by assumption) ?r1
  case h1 => (intro w hSw; (try dsimp only at hSw); go_simp; try with_reducible rfl)
  try simp only [Act.put, List.setIfInBounds_toArray, List.set_cons_zero, List.set_cons_succ]
  refine wpAnyH_take (i := 1) (v := ?v2) (by simp only [List.getElem?_toArray, List.getElem?_cons_zero, List.getElem?_cons_succ]; rfl) (by kernel_rfl) (by kernel_rfl) (by kernel_rfl) (by exact fun _ _ _ h => h) (Or.inl ⟨by rfl, ?h2⟩) (by assumption) ?r2
  case h2 => (intro w hSw; (try dsimp only at hSw); go_simp; try with_reducible rfl)
  try simp only [Act.put, List.setIfInBounds_toArray, List.set_cons_zero, List.set_cons_succ]
  refine wpAnyH_take (i := 3) (v := ?v3) (by simp only [List.getElem?_toArray, List.getElem?_cons_zero, List.getElem?_cons_succ]; rfl) (by kernel_rfl) (by kernel_rfl) (by kernel_rfl) (by exact fun _ _ _ h => h) (Or.inl ⟨by rfl, ?h3⟩) (by assumption) ?r3
  case h3 => (intro w hSw; (try dsimp only at hSw); go_simp; try with_reducible rfl)
  try simp only [Act.put, List.setIfInBounds_toArray, List.set_cons_zero, List.set_cons_succ]
  refine wpAnyH_take (i := 4) (v := ?v4) (by simp only [List.getElem?_toArray, List.getElem?_cons_zero, List.getElem?_cons_succ]; rfl) (by kernel_rfl) (by kernel_rfl) (by kernel_rfl) (by exact fun _ _ _ h => h) (Or.inl ⟨by rfl, ?h4⟩) (by assumption) ?r4
  case h4 => (intro w hSw; (try dsimp only at hSw); go_simp; try with_reducible rfl)
  try simp only [Act.put, List.setIfInBounds_toArray, List.set_cons_zero, List.set_cons_succ]
  refine wpAnyH_take (i := 7) (v := ?v5) (by simp only [List.getElem?_toArray, List.getElem?_cons_zero, List.getElem?_cons_succ]; rfl) (by kernel_rfl) (by kernel_rfl) (by kernel_rfl) (by exact fun _ _ _ h => h) (Or.inl ⟨by rfl, ?h5⟩) (by assumption) ?r5
  case h5 => (intro w hSw; (try dsimp only at hSw); go_simp; try with_reducible rfl)
  try simp only [Act.put, List.setIfInBounds_toArray, List.set_cons_zero, List.set_cons_succ]
  refine wpAnyH_take (i := 8) (v := ?v6) (by simp only [List.getElem?_toArray, List.getElem?_cons_zero, List.getElem?_cons_succ]; rfl) (by kernel_rfl) (by kernel_rfl) (by kernel_rfl) (by exact fun _ _ _ h => h) (Or.inl ⟨by rfl, ?h6⟩) (by assumption) ?r6
  case h6 => (intro w hSw; (try dsimp only at hSw); go_simp; try with_reducible rfl)
  try simp only [Act.put, List.setIfInBounds_toArray, List.set_cons_zero, List.set_cons_succ]
  refine wpAnyH_ready (rs := [2, 6]) (by kernel_rfl) (by simp) ?_
  refine (AllReadyH.cons (by simp only [List.getElem?_toArray, List.getElem?_cons_zero, List.getElem?_cons_succ]; rfl) (fun K hK => ?_) (AllReadyH.cons (by simp only [List.getElem?_toArray, List.getElem?_cons_zero, List.getElem?_cons_succ]; rfl) (fun K hK => ?_) AllReadyH.nil))
  · go_simp
    go_at_call 113
    refine (laid4_any r _ hr).mono ?_
    rintro e wq7 ⟨v7, rfl, o7, C7⟩
    obtain ⟨a7, c7, rfl, -, -, -, r7, -, n7⟩ := row_of_owns o7
    have BB7 := ((Below.refl W0.heap.size W0).drew).trans (C7.mono (Below.size ((Below.refl W0.heap.size W0).drew)))
    refine hK.out _ _ (SB _ BB7) (fun hH8 => ?_)
    clear hK
    try simp only [Act.put, List.setIfInBounds_toArray, List.set_cons_zero, List.set_cons_succ]
    refine wpAnyH_ready (rs := [5, 6]) (by kernel_rfl) (by simp) ?_
    refine (AllReadyH.cons (by simp only [List.getElem?_toArray, List.getElem?_cons_zero, List.getElem?_cons_succ]; rfl) (fun K hK => ?_) (AllReadyH.cons (by simp only [List.getElem?_toArray, List.getElem?_cons_zero, List.getElem?_cons_succ]; rfl) (fun K hK => ?_) AllReadyH.nil))
    · go_simp
      go_at_call 113
      refine (laid2_any l _ hl).mono ?_
      rintro e wq9 ⟨v9, rfl, o9, C9⟩
      obtain ⟨a9, c9, rfl, -, -, -, r9, -, n9⟩ := row_of_owns o9
      have BB9 := (BB7).trans (C9.mono (Below.size (BB7)))
      refine hK.out _ _ (SB _ BB9) (fun hH10 => ?_)
      clear hK
      try simp only [Act.put, List.setIfInBounds_toArray, List.set_cons_zero, List.set_cons_succ]
      refine wpAnyH_ready (rs := [6, 9]) (by kernel_rfl) (by simp) ?_
      refine (AllReadyH.cons (by simp only [List.getElem?_toArray, List.getElem?_cons_zero, List.getElem?_cons_succ]; rfl) (fun K hK => ?_) (AllReadyH.cons (by simp only [List.getElem?_toArray, List.getElem?_cons_zero, List.getElem?_cons_succ]; rfl) (fun K hK => ?_) AllReadyH.nil))
      · go_simp
        have BB11 := (BB9).alloc (Below.size (BB9)) (.cells z74 5)
        refine hK.out _ _ (SB _ BB11) (fun hH12 => ?_)
        clear hK
        try simp only [Act.put, List.setIfInBounds_toArray, List.set_cons_zero, List.set_cons_succ]
        refine wpAnyH_ready (rs := [9]) (by kernel_rfl) (by simp) ?_
        refine (AllReadyH.cons (by simp only [List.getElem?_toArray, List.getElem?_cons_zero, List.getElem?_cons_succ]; rfl) (fun K hK => ?_) AllReadyH.nil)
        go_simp
        go_at_call 113
        refine (laid4_any r _ hr).mono ?_
        rintro e wq13 ⟨v13, rfl, o13, C13⟩
        obtain ⟨a13, c13, rfl, -, -, -, r13, -, n13⟩ := row_of_owns o13
        have BB13 := (BB11).trans (C13.mono (Below.size (BB11)))
        refine hK.out _ _ (SB _ BB13) (fun hH14 => ?_)
        clear hK
        try simp only [Act.put, List.setIfInBounds_toArray, List.set_cons_zero, List.set_cons_succ]
        refine wpAnyH_ready (rs := [10]) (by kernel_rfl) (by simp) ?_
        refine (AllReadyH.cons (by simp only [List.getElem?_toArray, List.getElem?_cons_zero, List.getElem?_cons_succ]; rfl) (fun K hK => ?_) AllReadyH.nil)
        go_simp
        have BB15 := (BB13).alloc (Below.size (BB13)) (.cells #[.slice a7 4 c7, .slice a9 2 c9, .slice (some ⟨wq9.heap.size, 0, none⟩) 74 74, .slice a13 4 c13] 27)
        refine hK.out _ _ (SB _ BB15) (fun hH16 => ?_)
        clear hK
        try simp only [Act.put, List.setIfInBounds_toArray, List.set_cons_zero, List.set_cons_succ]
        refine wpAnyH_ready (rs := [11]) (by kernel_rfl) (by simp) ?_
        refine (AllReadyH.cons (by simp only [List.getElem?_toArray, List.getElem?_cons_zero, List.getElem?_cons_succ]; rfl) (fun K hK => ?_) AllReadyH.nil)
        have HR : Row (wq13.alloc (.cells #[.slice a7 4 c7, .slice a9 2 c9, .slice (some ⟨wq9.heap.size, 0, none⟩) 74 74, .slice a13 4 c13] 27)) (some ⟨wq13.heap.size, 0, none⟩) (#[.slice a7 4 c7, .slice a9 2 c9, .slice (some ⟨wq9.heap.size, 0, none⟩) 74 74, .slice a13 4 c13] : Array Value).toList := row_at wq13 #[.slice a7 4 c7, .slice a9 2 c9, .slice (some ⟨wq9.heap.size, 0, none⟩) 74 74, .slice a13 4 c13] 27 (by simp)
        have CC := concat_any (some ⟨wq13.heap.size, 0, none⟩) 4 4 [⟨a7, c7, lay4 r⟩, ⟨a9, c9, lay2 l⟩, ⟨some ⟨wq9.heap.size, 0, none⟩, 74, List.replicate 74 0⟩, ⟨a13, c13, lay4 r⟩] (wq13.alloc (.cells #[.slice a7 4 c7, .slice a9 2 c9, .slice (some ⟨wq9.heap.size, 0, none⟩) 74 74, .slice a13 4 c13] 27)) (by rw [show List.map Pt.val [⟨a7, c7, lay4 r⟩, ⟨a9, c9, lay2 l⟩, ⟨some ⟨wq9.heap.size, 0, none⟩, 74, List.replicate 74 0⟩, ⟨a13, c13, lay4 r⟩] = (#[.slice a7 4 c7, .slice a9 2 c9, .slice (some ⟨wq9.heap.size, 0, none⟩) 74 74, .slice a13 4 c13] : Array Value).toList by simp [Pt.val, lay4_length, lay2_length]]; exact HR) rfl (by decide) (by
            intro p hp
            simp only [List.mem_cons, List.mem_nil_iff, or_false] at hp
            rcases hp with rfl | rfl | rfl | rfl
            · exact pt_ok (((((r7).below C9 (Nat.le_refl _)).alloc (.cells z74 5)).below C13 (Nat.le_refl _)).alloc (.cells #[.slice a7 4 c7, .slice a9 2 c9, .slice (some ⟨wq9.heap.size, 0, none⟩) 74 74, .slice a13 4 c13] 27)) rfl (by first | decide | exact Nat.succ_pos _) n7
            · exact pt_ok ((((r9).alloc (.cells z74 5)).below C13 (Nat.le_refl _)).alloc (.cells #[.slice a7 4 c7, .slice a9 2 c9, .slice (some ⟨wq9.heap.size, 0, none⟩) 74 74, .slice a13 4 c13] 27)) rfl (by first | decide | exact Nat.succ_pos _) n9
            · exact pt_some (((RZ wq9).below C13 (Nat.le_refl _)).alloc (.cells #[.slice a7 4 c7, .slice a9 2 c9, .slice (some ⟨wq9.heap.size, 0, none⟩) 74 74, .slice a13 4 c13] 27))
            · exact pt_ok ((r13).alloc (.cells #[.slice a7 4 c7, .slice a9 2 c9, .slice (some ⟨wq9.heap.size, 0, none⟩) 74 74, .slice a13 4 c13] 27)) rfl (by first | decide | exact Nat.succ_pos _) n13) (by simp [flat, lay4_length, lay2_length])
        rw [show flat [⟨a7, c7, lay4 r⟩, ⟨a9, c9, lay2 l⟩, ⟨some ⟨wq9.heap.size, 0, none⟩, 74, List.replicate 74 0⟩, ⟨a13, c13, lay4 r⟩] = lay4 r ++ lay2 l ++ List.replicate 74 0 ++ lay4 r by simp [flat], coverB_length] at CC
        clear HR
        go_simp
        go_at_call 66
        refine (CC).mono ?_
        rintro e wq17 ⟨v17, rfl, o17, C17⟩
        obtain ⟨a17, c17, rfl, -, -, -, r17, -, n17⟩ := row_of_owns o17
        clear CC
        have BB17 := (BB15).trans (C17.mono (Below.size (BB15)))
        refine hK.out _ _ (SB _ BB17) (fun hH18 => ?_)
        clear hK
        try simp only [Act.put, List.setIfInBounds_toArray, List.set_cons_zero, List.set_cons_succ]
        refine wpAnyH_take (i := 12) (v := ?v19) (by simp only [List.getElem?_toArray, List.getElem?_cons_zero, List.getElem?_cons_succ]; rfl) (by kernel_rfl) (by kernel_rfl) (by kernel_rfl) (by exact fun _ _ _ h => h) (Or.inl ⟨by rfl, ?h19⟩) (by assumption) ?r19
        case h19 => (intro w hSw; (try dsimp only at hSw); go_simp; try with_reducible rfl)
        try simp only [Act.put, List.setIfInBounds_toArray, List.set_cons_zero, List.set_cons_succ]
        refine wpAnyH_done (by kernel_rfl) ?_ _
        have BE := BW0.trans (BB17.mono BW0.size)
        have CL := lclosed_any a17 84 c17 _ wq17 r17 (coverB_length r l) n17 (by decide) (coverB_bytes r l)
        have SE := BE.size
        rw [HXB.out] at BE SE
        go_wp2_with fail
        refine CL.mono ?_
        rintro e we ⟨ve, rfl, oe, Be⟩
        go_wp2_with fail
        go_ret
        exact ⟨ve, rfl, by rw [HXB.out]; exact owns_mono oe SE, by rw [HXB.out]; exact BE.trans (Be.mono SE)⟩
      · go_simp
        go_at_call 113
        refine (laid4_any r _ hr).mono ?_
        rintro e wq20 ⟨v20, rfl, o20, C20⟩
        obtain ⟨a20, c20, rfl, -, -, -, r20, -, n20⟩ := row_of_owns o20
        have BB20 := (BB9).trans (C20.mono (Below.size (BB9)))
        refine hK.out _ _ (SB _ BB20) (fun hH21 => ?_)
        clear hK
        try simp only [Act.put, List.setIfInBounds_toArray, List.set_cons_zero, List.set_cons_succ]
        refine wpAnyH_ready (rs := [6]) (by kernel_rfl) (by simp) ?_
        refine (AllReadyH.cons (by simp only [List.getElem?_toArray, List.getElem?_cons_zero, List.getElem?_cons_succ]; rfl) (fun K hK => ?_) AllReadyH.nil)
        go_simp
        have BB22 := (BB20).alloc (Below.size (BB20)) (.cells z74 5)
        refine hK.out _ _ (SB _ BB22) (fun hH23 => ?_)
        clear hK
        try simp only [Act.put, List.setIfInBounds_toArray, List.set_cons_zero, List.set_cons_succ]
        refine wpAnyH_ready (rs := [10]) (by kernel_rfl) (by simp) ?_
        refine (AllReadyH.cons (by simp only [List.getElem?_toArray, List.getElem?_cons_zero, List.getElem?_cons_succ]; rfl) (fun K hK => ?_) AllReadyH.nil)
        go_simp
        have BB24 := (BB22).alloc (Below.size (BB22)) (.cells #[.slice a7 4 c7, .slice a9 2 c9, .slice (some ⟨wq20.heap.size, 0, none⟩) 74 74, .slice a20 4 c20] 27)
        refine hK.out _ _ (SB _ BB24) (fun hH25 => ?_)
        clear hK
        try simp only [Act.put, List.setIfInBounds_toArray, List.set_cons_zero, List.set_cons_succ]
        refine wpAnyH_ready (rs := [11]) (by kernel_rfl) (by simp) ?_
        refine (AllReadyH.cons (by simp only [List.getElem?_toArray, List.getElem?_cons_zero, List.getElem?_cons_succ]; rfl) (fun K hK => ?_) AllReadyH.nil)
        have HR : Row ((wq20.alloc (.cells z74 5)).alloc (.cells #[.slice a7 4 c7, .slice a9 2 c9, .slice (some ⟨wq20.heap.size, 0, none⟩) 74 74, .slice a20 4 c20] 27)) (some ⟨wq20.heap.size + 1, 0, none⟩) (#[.slice a7 4 c7, .slice a9 2 c9, .slice (some ⟨wq20.heap.size, 0, none⟩) 74 74, .slice a20 4 c20] : Array Value).toList := row_at (wq20.alloc (.cells z74 5)) #[.slice a7 4 c7, .slice a9 2 c9, .slice (some ⟨wq20.heap.size, 0, none⟩) 74 74, .slice a20 4 c20] 27 (by simp)
        have CC := concat_any (some ⟨wq20.heap.size + 1, 0, none⟩) 4 4 [⟨a7, c7, lay4 r⟩, ⟨a9, c9, lay2 l⟩, ⟨some ⟨wq20.heap.size, 0, none⟩, 74, List.replicate 74 0⟩, ⟨a20, c20, lay4 r⟩] ((wq20.alloc (.cells z74 5)).alloc (.cells #[.slice a7 4 c7, .slice a9 2 c9, .slice (some ⟨wq20.heap.size, 0, none⟩) 74 74, .slice a20 4 c20] 27)) (by rw [show List.map Pt.val [⟨a7, c7, lay4 r⟩, ⟨a9, c9, lay2 l⟩, ⟨some ⟨wq20.heap.size, 0, none⟩, 74, List.replicate 74 0⟩, ⟨a20, c20, lay4 r⟩] = (#[.slice a7 4 c7, .slice a9 2 c9, .slice (some ⟨wq20.heap.size, 0, none⟩) 74 74, .slice a20 4 c20] : Array Value).toList by simp [Pt.val, lay4_length, lay2_length]]; exact HR) rfl (by decide) (by
            intro p hp
            simp only [List.mem_cons, List.mem_nil_iff, or_false] at hp
            rcases hp with rfl | rfl | rfl | rfl
            · exact pt_ok (((((r7).below C9 (Nat.le_refl _)).below C20 (Nat.le_refl _)).alloc (.cells z74 5)).alloc (.cells #[.slice a7 4 c7, .slice a9 2 c9, .slice (some ⟨wq20.heap.size, 0, none⟩) 74 74, .slice a20 4 c20] 27)) rfl (by first | decide | exact Nat.succ_pos _) n7
            · exact pt_ok ((((r9).below C20 (Nat.le_refl _)).alloc (.cells z74 5)).alloc (.cells #[.slice a7 4 c7, .slice a9 2 c9, .slice (some ⟨wq20.heap.size, 0, none⟩) 74 74, .slice a20 4 c20] 27)) rfl (by first | decide | exact Nat.succ_pos _) n9
            · exact pt_some ((RZ wq20).alloc (.cells #[.slice a7 4 c7, .slice a9 2 c9, .slice (some ⟨wq20.heap.size, 0, none⟩) 74 74, .slice a20 4 c20] 27))
            · exact pt_ok (((r20).alloc (.cells z74 5)).alloc (.cells #[.slice a7 4 c7, .slice a9 2 c9, .slice (some ⟨wq20.heap.size, 0, none⟩) 74 74, .slice a20 4 c20] 27)) rfl (by first | decide | exact Nat.succ_pos _) n20) (by simp [flat, lay4_length, lay2_length])
        rw [show flat [⟨a7, c7, lay4 r⟩, ⟨a9, c9, lay2 l⟩, ⟨some ⟨wq20.heap.size, 0, none⟩, 74, List.replicate 74 0⟩, ⟨a20, c20, lay4 r⟩] = lay4 r ++ lay2 l ++ List.replicate 74 0 ++ lay4 r by simp [flat], coverB_length] at CC
        clear HR
        go_simp
        go_at_call 66
        refine (CC).mono ?_
        rintro e wq26 ⟨v26, rfl, o26, C26⟩
        obtain ⟨a26, c26, rfl, -, -, -, r26, -, n26⟩ := row_of_owns o26
        clear CC
        have BB26 := (BB24).trans (C26.mono (Below.size (BB24)))
        refine hK.out _ _ (SB _ BB26) (fun hH27 => ?_)
        clear hK
        try simp only [Act.put, List.setIfInBounds_toArray, List.set_cons_zero, List.set_cons_succ]
        refine wpAnyH_take (i := 12) (v := ?v28) (by simp only [List.getElem?_toArray, List.getElem?_cons_zero, List.getElem?_cons_succ]; rfl) (by kernel_rfl) (by kernel_rfl) (by kernel_rfl) (by exact fun _ _ _ h => h) (Or.inl ⟨by rfl, ?h28⟩) (by assumption) ?r28
        case h28 => (intro w hSw; (try dsimp only at hSw); go_simp; try with_reducible rfl)
        try simp only [Act.put, List.setIfInBounds_toArray, List.set_cons_zero, List.set_cons_succ]
        refine wpAnyH_done (by kernel_rfl) ?_ _
        have BE := BW0.trans (BB26.mono BW0.size)
        have CL := lclosed_any a26 84 c26 _ wq26 r26 (coverB_length r l) n26 (by decide) (coverB_bytes r l)
        have SE := BE.size
        rw [HXB.out] at BE SE
        go_wp2_with fail
        refine CL.mono ?_
        rintro e we ⟨ve, rfl, oe, Be⟩
        go_wp2_with fail
        go_ret
        exact ⟨ve, rfl, by rw [HXB.out]; exact owns_mono oe SE, by rw [HXB.out]; exact BE.trans (Be.mono SE)⟩
    · go_simp
      have BB29 := (BB7).alloc (Below.size (BB7)) (.cells z74 5)
      refine hK.out _ _ (SB _ BB29) (fun hH30 => ?_)
      clear hK
      try simp only [Act.put, List.setIfInBounds_toArray, List.set_cons_zero, List.set_cons_succ]
      refine wpAnyH_ready (rs := [5]) (by kernel_rfl) (by simp) ?_
      refine (AllReadyH.cons (by simp only [List.getElem?_toArray, List.getElem?_cons_zero, List.getElem?_cons_succ]; rfl) (fun K hK => ?_) AllReadyH.nil)
      go_simp
      go_at_call 113
      refine (laid2_any l _ hl).mono ?_
      rintro e wq31 ⟨v31, rfl, o31, C31⟩
      obtain ⟨a31, c31, rfl, -, -, -, r31, -, n31⟩ := row_of_owns o31
      have BB31 := (BB29).trans (C31.mono (Below.size (BB29)))
      refine hK.out _ _ (SB _ BB31) (fun hH32 => ?_)
      clear hK
      try simp only [Act.put, List.setIfInBounds_toArray, List.set_cons_zero, List.set_cons_succ]
      refine wpAnyH_ready (rs := [9]) (by kernel_rfl) (by simp) ?_
      refine (AllReadyH.cons (by simp only [List.getElem?_toArray, List.getElem?_cons_zero, List.getElem?_cons_succ]; rfl) (fun K hK => ?_) AllReadyH.nil)
      go_simp
      go_at_call 113
      refine (laid4_any r _ hr).mono ?_
      rintro e wq33 ⟨v33, rfl, o33, C33⟩
      obtain ⟨a33, c33, rfl, -, -, -, r33, -, n33⟩ := row_of_owns o33
      have BB33 := (BB31).trans (C33.mono (Below.size (BB31)))
      refine hK.out _ _ (SB _ BB33) (fun hH34 => ?_)
      clear hK
      try simp only [Act.put, List.setIfInBounds_toArray, List.set_cons_zero, List.set_cons_succ]
      refine wpAnyH_ready (rs := [10]) (by kernel_rfl) (by simp) ?_
      refine (AllReadyH.cons (by simp only [List.getElem?_toArray, List.getElem?_cons_zero, List.getElem?_cons_succ]; rfl) (fun K hK => ?_) AllReadyH.nil)
      go_simp
      have BB35 := (BB33).alloc (Below.size (BB33)) (.cells #[.slice a7 4 c7, .slice a31 2 c31, .slice (some ⟨wq7.heap.size, 0, none⟩) 74 74, .slice a33 4 c33] 27)
      refine hK.out _ _ (SB _ BB35) (fun hH36 => ?_)
      clear hK
      try simp only [Act.put, List.setIfInBounds_toArray, List.set_cons_zero, List.set_cons_succ]
      refine wpAnyH_ready (rs := [11]) (by kernel_rfl) (by simp) ?_
      refine (AllReadyH.cons (by simp only [List.getElem?_toArray, List.getElem?_cons_zero, List.getElem?_cons_succ]; rfl) (fun K hK => ?_) AllReadyH.nil)
      have HR : Row (wq33.alloc (.cells #[.slice a7 4 c7, .slice a31 2 c31, .slice (some ⟨wq7.heap.size, 0, none⟩) 74 74, .slice a33 4 c33] 27)) (some ⟨wq33.heap.size, 0, none⟩) (#[.slice a7 4 c7, .slice a31 2 c31, .slice (some ⟨wq7.heap.size, 0, none⟩) 74 74, .slice a33 4 c33] : Array Value).toList := row_at wq33 #[.slice a7 4 c7, .slice a31 2 c31, .slice (some ⟨wq7.heap.size, 0, none⟩) 74 74, .slice a33 4 c33] 27 (by simp)
      have CC := concat_any (some ⟨wq33.heap.size, 0, none⟩) 4 4 [⟨a7, c7, lay4 r⟩, ⟨a31, c31, lay2 l⟩, ⟨some ⟨wq7.heap.size, 0, none⟩, 74, List.replicate 74 0⟩, ⟨a33, c33, lay4 r⟩] (wq33.alloc (.cells #[.slice a7 4 c7, .slice a31 2 c31, .slice (some ⟨wq7.heap.size, 0, none⟩) 74 74, .slice a33 4 c33] 27)) (by rw [show List.map Pt.val [⟨a7, c7, lay4 r⟩, ⟨a31, c31, lay2 l⟩, ⟨some ⟨wq7.heap.size, 0, none⟩, 74, List.replicate 74 0⟩, ⟨a33, c33, lay4 r⟩] = (#[.slice a7 4 c7, .slice a31 2 c31, .slice (some ⟨wq7.heap.size, 0, none⟩) 74 74, .slice a33 4 c33] : Array Value).toList by simp [Pt.val, lay4_length, lay2_length]]; exact HR) rfl (by decide) (by
          intro p hp
          simp only [List.mem_cons, List.mem_nil_iff, or_false] at hp
          rcases hp with rfl | rfl | rfl | rfl
          · exact pt_ok (((((r7).alloc (.cells z74 5)).below C31 (Nat.le_refl _)).below C33 (Nat.le_refl _)).alloc (.cells #[.slice a7 4 c7, .slice a31 2 c31, .slice (some ⟨wq7.heap.size, 0, none⟩) 74 74, .slice a33 4 c33] 27)) rfl (by first | decide | exact Nat.succ_pos _) n7
          · exact pt_ok (((r31).below C33 (Nat.le_refl _)).alloc (.cells #[.slice a7 4 c7, .slice a31 2 c31, .slice (some ⟨wq7.heap.size, 0, none⟩) 74 74, .slice a33 4 c33] 27)) rfl (by first | decide | exact Nat.succ_pos _) n31
          · exact pt_some ((((RZ wq7).below C31 (Nat.le_refl _)).below C33 (Nat.le_refl _)).alloc (.cells #[.slice a7 4 c7, .slice a31 2 c31, .slice (some ⟨wq7.heap.size, 0, none⟩) 74 74, .slice a33 4 c33] 27))
          · exact pt_ok ((r33).alloc (.cells #[.slice a7 4 c7, .slice a31 2 c31, .slice (some ⟨wq7.heap.size, 0, none⟩) 74 74, .slice a33 4 c33] 27)) rfl (by first | decide | exact Nat.succ_pos _) n33) (by simp [flat, lay4_length, lay2_length])
      rw [show flat [⟨a7, c7, lay4 r⟩, ⟨a31, c31, lay2 l⟩, ⟨some ⟨wq7.heap.size, 0, none⟩, 74, List.replicate 74 0⟩, ⟨a33, c33, lay4 r⟩] = lay4 r ++ lay2 l ++ List.replicate 74 0 ++ lay4 r by simp [flat], coverB_length] at CC
      clear HR
      go_simp
      go_at_call 66
      refine (CC).mono ?_
      rintro e wq37 ⟨v37, rfl, o37, C37⟩
      obtain ⟨a37, c37, rfl, -, -, -, r37, -, n37⟩ := row_of_owns o37
      clear CC
      have BB37 := (BB35).trans (C37.mono (Below.size (BB35)))
      refine hK.out _ _ (SB _ BB37) (fun hH38 => ?_)
      clear hK
      try simp only [Act.put, List.setIfInBounds_toArray, List.set_cons_zero, List.set_cons_succ]
      refine wpAnyH_take (i := 12) (v := ?v39) (by simp only [List.getElem?_toArray, List.getElem?_cons_zero, List.getElem?_cons_succ]; rfl) (by kernel_rfl) (by kernel_rfl) (by kernel_rfl) (by exact fun _ _ _ h => h) (Or.inl ⟨by rfl, ?h39⟩) (by assumption) ?r39
      case h39 => (intro w hSw; (try dsimp only at hSw); go_simp; try with_reducible rfl)
      try simp only [Act.put, List.setIfInBounds_toArray, List.set_cons_zero, List.set_cons_succ]
      refine wpAnyH_done (by kernel_rfl) ?_ _
      have BE := BW0.trans (BB37.mono BW0.size)
      have CL := lclosed_any a37 84 c37 _ wq37 r37 (coverB_length r l) n37 (by decide) (coverB_bytes r l)
      have SE := BE.size
      rw [HXB.out] at BE SE
      go_wp2_with fail
      refine CL.mono ?_
      rintro e we ⟨ve, rfl, oe, Be⟩
      go_wp2_with fail
      go_ret
      exact ⟨ve, rfl, by rw [HXB.out]; exact owns_mono oe SE, by rw [HXB.out]; exact BE.trans (Be.mono SE)⟩
  · go_simp
    have BB40 := ((Below.refl W0.heap.size W0).drew).alloc (Below.size ((Below.refl W0.heap.size W0).drew)) (.cells z74 5)
    refine hK.out _ _ (SB _ BB40) (fun hH41 => ?_)
    clear hK
    try simp only [Act.put, List.setIfInBounds_toArray, List.set_cons_zero, List.set_cons_succ]
    refine wpAnyH_ready (rs := [2]) (by kernel_rfl) (by simp) ?_
    refine (AllReadyH.cons (by simp only [List.getElem?_toArray, List.getElem?_cons_zero, List.getElem?_cons_succ]; rfl) (fun K hK => ?_) AllReadyH.nil)
    go_simp
    go_at_call 113
    refine (laid4_any r _ hr).mono ?_
    rintro e wq42 ⟨v42, rfl, o42, C42⟩
    obtain ⟨a42, c42, rfl, -, -, -, r42, -, n42⟩ := row_of_owns o42
    have BB42 := (BB40).trans (C42.mono (Below.size (BB40)))
    refine hK.out _ _ (SB _ BB42) (fun hH43 => ?_)
    clear hK
    try simp only [Act.put, List.setIfInBounds_toArray, List.set_cons_zero, List.set_cons_succ]
    refine wpAnyH_ready (rs := [5]) (by kernel_rfl) (by simp) ?_
    refine (AllReadyH.cons (by simp only [List.getElem?_toArray, List.getElem?_cons_zero, List.getElem?_cons_succ]; rfl) (fun K hK => ?_) AllReadyH.nil)
    go_simp
    go_at_call 113
    refine (laid2_any l _ hl).mono ?_
    rintro e wq44 ⟨v44, rfl, o44, C44⟩
    obtain ⟨a44, c44, rfl, -, -, -, r44, -, n44⟩ := row_of_owns o44
    have BB44 := (BB42).trans (C44.mono (Below.size (BB42)))
    refine hK.out _ _ (SB _ BB44) (fun hH45 => ?_)
    clear hK
    try simp only [Act.put, List.setIfInBounds_toArray, List.set_cons_zero, List.set_cons_succ]
    refine wpAnyH_ready (rs := [9]) (by kernel_rfl) (by simp) ?_
    refine (AllReadyH.cons (by simp only [List.getElem?_toArray, List.getElem?_cons_zero, List.getElem?_cons_succ]; rfl) (fun K hK => ?_) AllReadyH.nil)
    go_simp
    go_at_call 113
    refine (laid4_any r _ hr).mono ?_
    rintro e wq46 ⟨v46, rfl, o46, C46⟩
    obtain ⟨a46, c46, rfl, -, -, -, r46, -, n46⟩ := row_of_owns o46
    have BB46 := (BB44).trans (C46.mono (Below.size (BB44)))
    refine hK.out _ _ (SB _ BB46) (fun hH47 => ?_)
    clear hK
    try simp only [Act.put, List.setIfInBounds_toArray, List.set_cons_zero, List.set_cons_succ]
    refine wpAnyH_ready (rs := [10]) (by kernel_rfl) (by simp) ?_
    refine (AllReadyH.cons (by simp only [List.getElem?_toArray, List.getElem?_cons_zero, List.getElem?_cons_succ]; rfl) (fun K hK => ?_) AllReadyH.nil)
    go_simp
    have BB48 := (BB46).alloc (Below.size (BB46)) (.cells #[.slice a42 4 c42, .slice a44 2 c44, .slice (some ⟨W0.heap.size, 0, none⟩) 74 74, .slice a46 4 c46] 27)
    refine hK.out _ _ (SB _ BB48) (fun hH49 => ?_)
    clear hK
    try simp only [Act.put, List.setIfInBounds_toArray, List.set_cons_zero, List.set_cons_succ]
    refine wpAnyH_ready (rs := [11]) (by kernel_rfl) (by simp) ?_
    refine (AllReadyH.cons (by simp only [List.getElem?_toArray, List.getElem?_cons_zero, List.getElem?_cons_succ]; rfl) (fun K hK => ?_) AllReadyH.nil)
    have HR : Row (wq46.alloc (.cells #[.slice a42 4 c42, .slice a44 2 c44, .slice (some ⟨W0.heap.size, 0, none⟩) 74 74, .slice a46 4 c46] 27)) (some ⟨wq46.heap.size, 0, none⟩) (#[.slice a42 4 c42, .slice a44 2 c44, .slice (some ⟨W0.heap.size, 0, none⟩) 74 74, .slice a46 4 c46] : Array Value).toList := row_at wq46 #[.slice a42 4 c42, .slice a44 2 c44, .slice (some ⟨W0.heap.size, 0, none⟩) 74 74, .slice a46 4 c46] 27 (by simp)
    have CC := concat_any (some ⟨wq46.heap.size, 0, none⟩) 4 4 [⟨a42, c42, lay4 r⟩, ⟨a44, c44, lay2 l⟩, ⟨some ⟨W0.heap.size, 0, none⟩, 74, List.replicate 74 0⟩, ⟨a46, c46, lay4 r⟩] (wq46.alloc (.cells #[.slice a42 4 c42, .slice a44 2 c44, .slice (some ⟨W0.heap.size, 0, none⟩) 74 74, .slice a46 4 c46] 27)) (by rw [show List.map Pt.val [⟨a42, c42, lay4 r⟩, ⟨a44, c44, lay2 l⟩, ⟨some ⟨W0.heap.size, 0, none⟩, 74, List.replicate 74 0⟩, ⟨a46, c46, lay4 r⟩] = (#[.slice a42 4 c42, .slice a44 2 c44, .slice (some ⟨W0.heap.size, 0, none⟩) 74 74, .slice a46 4 c46] : Array Value).toList by simp [Pt.val, lay4_length, lay2_length]]; exact HR) rfl (by decide) (by
        intro p hp
        simp only [List.mem_cons, List.mem_nil_iff, or_false] at hp
        rcases hp with rfl | rfl | rfl | rfl
        · exact pt_ok ((((r42).below C44 (Nat.le_refl _)).below C46 (Nat.le_refl _)).alloc (.cells #[.slice a42 4 c42, .slice a44 2 c44, .slice (some ⟨W0.heap.size, 0, none⟩) 74 74, .slice a46 4 c46] 27)) rfl (by first | decide | exact Nat.succ_pos _) n42
        · exact pt_ok (((r44).below C46 (Nat.le_refl _)).alloc (.cells #[.slice a42 4 c42, .slice a44 2 c44, .slice (some ⟨W0.heap.size, 0, none⟩) 74 74, .slice a46 4 c46] 27)) rfl (by first | decide | exact Nat.succ_pos _) n44
        · exact pt_some (((((RZ W0.drew).below C42 (Nat.le_refl _)).below C44 (Nat.le_refl _)).below C46 (Nat.le_refl _)).alloc (.cells #[.slice a42 4 c42, .slice a44 2 c44, .slice (some ⟨W0.heap.size, 0, none⟩) 74 74, .slice a46 4 c46] 27))
        · exact pt_ok ((r46).alloc (.cells #[.slice a42 4 c42, .slice a44 2 c44, .slice (some ⟨W0.heap.size, 0, none⟩) 74 74, .slice a46 4 c46] 27)) rfl (by first | decide | exact Nat.succ_pos _) n46) (by simp [flat, lay4_length, lay2_length])
    rw [show flat [⟨a42, c42, lay4 r⟩, ⟨a44, c44, lay2 l⟩, ⟨some ⟨W0.heap.size, 0, none⟩, 74, List.replicate 74 0⟩, ⟨a46, c46, lay4 r⟩] = lay4 r ++ lay2 l ++ List.replicate 74 0 ++ lay4 r by simp [flat], coverB_length] at CC
    clear HR
    go_simp
    go_at_call 66
    refine (CC).mono ?_
    rintro e wq50 ⟨v50, rfl, o50, C50⟩
    obtain ⟨a50, c50, rfl, -, -, -, r50, -, n50⟩ := row_of_owns o50
    clear CC
    have BB50 := (BB48).trans (C50.mono (Below.size (BB48)))
    refine hK.out _ _ (SB _ BB50) (fun hH51 => ?_)
    clear hK
    try simp only [Act.put, List.setIfInBounds_toArray, List.set_cons_zero, List.set_cons_succ]
    refine wpAnyH_take (i := 12) (v := ?v52) (by simp only [List.getElem?_toArray, List.getElem?_cons_zero, List.getElem?_cons_succ]; rfl) (by kernel_rfl) (by kernel_rfl) (by kernel_rfl) (by exact fun _ _ _ h => h) (Or.inl ⟨by rfl, ?h52⟩) (by assumption) ?r52
    case h52 => (intro w hSw; (try dsimp only at hSw); go_simp; try with_reducible rfl)
    try simp only [Act.put, List.setIfInBounds_toArray, List.set_cons_zero, List.set_cons_succ]
    refine wpAnyH_done (by kernel_rfl) ?_ _
    have BE := BW0.trans (BB50.mono BW0.size)
    have CL := lclosed_any a50 84 c50 _ wq50 r50 (coverB_length r l) n50 (by decide) (coverB_bytes r l)
    have SE := BE.size
    rw [HXB.out] at BE SE
    go_wp2_with fail
    refine CL.mono ?_
    rintro e we ⟨ve, rfl, oe, Be⟩
    go_wp2_with fail
    go_ret
    exact ⟨ve, rfl, by rw [HXB.out]; exact owns_mono oe SE, by rw [HXB.out]; exact BE.trans (Be.mono SE)⟩

end Go.Proofs.YtleoelhhndeheaaGreat
