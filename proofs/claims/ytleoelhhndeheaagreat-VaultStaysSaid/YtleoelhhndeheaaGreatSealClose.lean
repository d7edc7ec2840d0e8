/- seal.Close and seal.Open -/
import Derived.Test.YtleoelhhndeheaaGreatSeal
import Derived.Test.YtleoelhhndeheaaGreatConcat
open Go Go.RowKit
namespace Go.Proofs.YtleoelhhndeheaaGreat

theorem sm_small {zs : List Int} (h : IsBytes zs) (n : Nat) (hn : n ≤ 1048576) : 0 ≤ (sm zs n).2 ∧
    (∀ k, n = k + 1 → (sm zs n).2 = ((sm zs k).2 + wd zs k * (k + 1)) % 281474976710656) := by
  induction n with
  | zero => exact ⟨by simp [sm], fun k h => by omega⟩
  | succ n ih =>
    obtain ⟨i1, _⟩ := ih (by omega)
    have hb := sm_bd zs n
    have hw := wd_bd h n
    have hp : 0 ≤ wd zs n * (n + 1) := Int.mul_nonneg hw.1 (by omega)
    have hp2 : wd zs n * (n + 1) ≤ 4294967296 * 1048577 := Int.mul_le_mul (by omega) (by omega) (by omega) (by omega)
    have e : (sm zs (n + 1)).2 = ((sm zs n).2 + wd zs n * (n + 1)) % 281474976710656 := by
      simp only [sm]
      have e1 : wrap64 (wd zs n * (n + 1)) = wd zs n * (n + 1) := by unfold wrap64; omega
      have e2 : wrap64 ((sm zs n).2 + wd zs n * (n + 1)) = (sm zs n).2 + wd zs n * (n + 1) := by unfold wrap64; omega
      rw [e1, e2, Int.tmod_eq_emod_of_nonneg (by omega)]
    refine ⟨by rw [e]; omega, fun k hk => ?_⟩
    obtain rfl : n = k := by omega
    exact e

theorem sums_bd {zs : List Int} (h : IsBytes zs) (hl : zs.length ≤ 1048576) : (0 ≤ (sums zs).1 ∧ (sums zs).1 < 281474976710656) ∧ (0 ≤ (sums zs).2 ∧ (sums zs).2 < 281474976710656) := by
  have h1 := sm_bd zs ((zs.length + 3) / 4)
  have h2 := sm_small h ((zs.length + 3) / 4) (by omega)
  exact ⟨h1.1, h2.1, h1.2.2⟩

theorem lay6_bytes (n : Int) : IsBytes (lay6 n) := by
  intro x hx
  simp only [lay6, List.mem_cons, List.mem_nil_iff, or_false] at hx
  rcases hx with rfl | rfl | rfl | rfl | rfl | rfl <;> omega
theorem lay6_length (n : Int) : (lay6 n).length = 6 := rfl
theorem padded_bytes {zs : List Int} (h : IsBytes zs) : IsBytes (padded zs) :=
  h.append fun n hn => by rw [List.eq_of_mem_replicate hn]; decide
theorem padded_length {zs : List Int} (h : zs.length ≤ 84) : (padded zs).length = 84 := by unfold padded; simp; omega
theorem closed_length {zs : List Int} (h : zs.length ≤ 84) : (closed zs).length = 96 := by unfold closed; simp [padded_length h, lay6_length]
theorem closed_bytes {zs : List Int} (h : IsBytes zs) : IsBytes (closed zs) := ((padded_bytes h).append (lay6_bytes _)).append (lay6_bytes _)

set_option maxRecDepth 100000 in
set_option maxHeartbeats 2000000 in
theorem close_any (a : Option Addr) (len cap : Nat) (zs : List Int) (w : World) (h : Row w a (B8 zs)) (hl : zs.length = len) (hn : a = none → len = 0) (hb : len ≤ 84) (hz : IsBytes zs) :
    Calls Tryz.prog 102 #[.slice a len cap] w fun e w' => ∃ v, e = .returned (.tuple #[v, .bool true]) ∧ w'.ownsRow w.heap.size 5 1 v 96 (B8 (closed zs)) ∧ Below w.heap.size w w' := by
  obtain ⟨i0, hi, hz0, hz1, hz2⟩ := info_parts iB
  have hpl := padded_length (zs := zs) (by omega)
  have hpb := padded_bytes hz
  have HP := hid hpl
  have hpl2 : (padded zs).length ≤ 1048576 := by omega
  have hsb := sums_bd hpb hpl2
  clear hpl hpl2
  go_enter Tryz.func102, Tryz.ntmps102
  go_wp2_with fail
  refine (cloneB_any a len cap zs w h hl hn (by omega)).mono ?_
  rintro e w1 ⟨v1, rfl, o1, B1⟩
  have s1 := B1.size
  obtain ⟨m, hm⟩ : ∃ m : Nat, m + len = 84 := ⟨84 - len, by omega⟩
  obtain ⟨v2, w2, hr, o2, g2⟩ := run_appendZ (P := Tryz.prog) w1 w.heap.size 27 3 27 5 i0 (.int .u8 0) 1 Tryz.underlying27 Tryz.underlying3 hi hz0 hz1 hz2 rfl rfl (by decide) v1 len _ o1 .i64 m (by omega) s1
  have e : ((m : Nat) : Int) = 84 - (len : Int) := by omega
  rw [e] at hr
  have B2 : Below w.heap.size w w2 := B1.grown g2 s1 (by intro q hq; exact (o1.lt _ hq).1)
  have s2 := B2.size
  have o2' : w2.ownsRow w.heap.size 5 1 v2 84 (B8 (padded zs)) := by
    have e1 : B8 zs ++ List.replicate m (.int .u8 0) = B8 (padded zs) := by
      unfold padded B8
      rw [List.map_append, List.map_replicate, show 84 - zs.length = m by omega]
    have e2 : len + m = 84 := by omega
    rw [e1, e2] at o2; exact o2
  clear o2 g2 e hm
  obtain ⟨a2, c2, rfl, _, hc2, _, r2, d2, n2⟩ := row_of_owns o2'
  go_wp2_with (at_builtin; refine Lib.wpList_append_run _ rfl _ _ 27 3 rfl _ _ rfl rfl _ w2 hr ?_)
  refine (sums_any a2 84 c2 (padded zs) w2 r2 HP.out (by decide) hpb).mono ?_
  rintro e w3 ⟨rfl, rfl⟩
  go_wp2_with fail
  refine (slay_any (sums (padded zs)).1 w2 hsb.1).mono ?_
  rintro e w3 ⟨v3, rfl, o3, B3⟩
  obtain ⟨a3, c3, rfl, _, hc3, _, r3, d3, n3⟩ := row_of_owns o3
  have s3 := B3.size
  go_wp2_with fail
  refine (slay_any (sums (padded zs)).2 w3 hsb.2).mono ?_
  rintro e w4 ⟨v4, rfl, o4, B4⟩
  obtain ⟨a4, c4, rfl, _, hc4, _, r4, d4, n4⟩ := row_of_owns o4
  have s4 := B4.size
  have r2' := r2.below (B3.trans (B4.mono s3)) (Nat.le_refl _)
  have r3' := r3.below B4 (Nat.le_refl _)
  have B5 : Below w.heap.size w w4 := (B2.trans (B3.mono s2)).trans (B4.mono (by omega))
  go_wp2_with fail
  refine (concat_any _ 3 _ [⟨a2, c2, padded zs⟩, ⟨a3, c3, lay6 (sums (padded zs)).1⟩, ⟨a4, c4, lay6 (sums (padded zs)).2⟩] _ ?_ rfl (by decide) ?_ ?_).mono ?_
  · have e : List.map Pt.val [⟨a2, c2, padded zs⟩, ⟨a3, c3, lay6 (sums (padded zs)).1⟩, ⟨a4, c4, lay6 (sums (padded zs)).2⟩] = [.slice a2 84 c2, .slice a3 6 c3, .slice a4 6 c4] := by
      simp [Pt.val, HP.out, lay6_length]
    rw [e]
    exact row_new _ #[_, _, _] _
  · intro p hp
    simp only [List.mem_cons, List.mem_nil_iff, or_false] at hp
    rcases hp with rfl | rfl | rfl
    · exact ⟨r2'.alloc _, fun h0 => by have := n2 h0; omega⟩
    · exact ⟨r3'.alloc _, fun h0 => by have := n3 h0; omega⟩
    · exact ⟨r4.alloc _, fun h0 => by have := n4 h0; omega⟩
  · simp [flat, HP.out, lay6_length]
  rintro e w5 ⟨v5, rfl, o5, B6⟩
  go_wp2_with fail
  go_ret2
  have e1 : flat [⟨a2, c2, padded zs⟩, ⟨a3, c3, lay6 (sums (padded zs)).1⟩, ⟨a4, c4, lay6 (sums (padded zs)).2⟩] = closed zs := by
    simp [flat, closed]
  have e2 : (closed zs).length = 96 := closed_length (by omega)
  rw [e1, e2] at o5
  have s5 := B5.size
  exact ⟨v5, rfl, owns_mono o5 (by simp; omega), (B5.alloc s5 _).trans (B6.mono (by simp; omega))⟩

theorem close_long (a : Option Addr) (len cap : Nat) (w : World) (hb : 84 < len) (hm : len ≤ 9223372036854775807) :
    Calls Tryz.prog 102 #[.slice a len cap] w fun e w' => e = .returned (.tuple #[.slice none 0 0, .bool false]) ∧ w = w' := by
  go_enter Tryz.func102, Tryz.ntmps102
  go_wp2_with fail
  go_ret2
  exact ⟨rfl, rfl⟩

/-- does such a track open? -/
def opens (zs : List Int) : Bool := decide (zs.length = 96) && decide (closed (zs.take 84) = zs)

set_option maxRecDepth 100000 in
set_option maxHeartbeats 2000000 in
theorem open_yes (a : Option Addr) (cap : Nat) (zs : List Int) (w : World) (h : Row w a (B8 zs)) (hl : zs.length = 96) (hc : 96 ≤ cap) (hm : cap ≤ 9223372036854775807) (hz : IsBytes zs) (ho : closed (zs.take 84) = zs) :
    Calls Tryz.prog 77 #[.slice a 96 cap] w fun e w' => ∃ v, e = .returned (.tuple #[v, .bool true]) ∧ w'.ownsRow w.heap.size 5 1 v 84 (B8 (zs.take 84)) ∧ Below w.heap.size w w' := by
  have ha := h.nn (by simp; omega)
  have hrow : Row w a (B8 (zs.take 84)) := by rw [B8, List.map_take]; exact h.take 84
  have HL := hid hl
  have HO := hid ho
  have HT := hid (show (zs.take 84).length = 84 by simp; omega)
  have hbl := closed_length (zs := zs.take 84) (by simp; omega)
  have HB := hid hbl
  clear hl ho hbl
  cases a with
  | none => cases ha
  | some x =>
    clear ha
    go_enter Tryz.func77, Tryz.ntmps77
    go_wp2_with fail
    refine (close_any (some x) 84 cap (zs.take 84) w hrow HT.out (fun h => by cases h) (by decide) (hz.take 84)).mono ?_
    rintro e w1 ⟨v1, rfl, o1, B1⟩
    obtain ⟨a1, c1, rfl, _, hc1, _, r1, d1, n1⟩ := row_of_owns o1
    have s1 := B1.size
    have h1 := h.below B1 (Nat.le_refl _)
    have hrow1 := hrow.below B1 (Nat.le_refl _)
    go_wp2_with fail
    refine (equalB_any a1 (some x) 96 96 c1 cap (closed (zs.take 84)) zs w1 r1 h1 HB.out HL.out (by decide) (closed_bytes (hz.take 84)) hz).mono ?_
    rw [decide_eq_true HO.out]
    rintro e w2 ⟨rfl, q, rfl⟩
    go_wp2_with fail
    refine (cloneB_any (some x) 84 cap (zs.take 84) _ ?_ HT.out (fun h => by cases h) (by decide)).mono ?_
    · exact hrow1.keep (fun _ => rfl)
    rintro e w3 ⟨v3, rfl, o3, B3⟩
    go_wp2_with fail
    go_ret2
    exact ⟨v3, rfl, owns_mono o3 s1, (Below.drewN B1 q).trans (B3.mono s1)⟩

theorem open_len (a : Option Addr) (len cap : Nat) (w : World) (hb : len ≠ 96) (hm : len ≤ 9223372036854775807) :
    Calls Tryz.prog 77 #[.slice a len cap] w fun e w' => e = .returned (.tuple #[.slice none 0 0, .bool false]) ∧ w = w' := by
  have h1 : ((len : Int) != 96) = true := by simp; omega
  go_enter Tryz.func77, Tryz.ntmps77
  go_wp2_with fail
  go_ret2
  exact ⟨rfl, rfl⟩

set_option maxRecDepth 100000 in
set_option maxHeartbeats 2000000 in
theorem open_no (a : Option Addr) (cap : Nat) (zs : List Int) (w : World) (h : Row w a (B8 zs)) (hl : zs.length = 96) (hc : 96 ≤ cap) (hm : cap ≤ 9223372036854775807) (hz : IsBytes zs) (ho : closed (zs.take 84) ≠ zs) :
    Calls Tryz.prog 77 #[.slice a 96 cap] w fun e w' => e = .returned (.tuple #[.slice none 0 0, .bool false]) ∧ Below w.heap.size w w' := by
  have ha := h.nn (by simp; omega)
  have hrow : Row w a (B8 (zs.take 84)) := by rw [B8, List.map_take]; exact h.take 84
  have HL := hid hl
  have HO := hid ho
  have HT := hid (show (zs.take 84).length = 84 by simp; omega)
  have hbl := closed_length (zs := zs.take 84) (by simp; omega)
  have HB := hid hbl
  clear hl ho hbl
  cases a with
  | none => cases ha
  | some x =>
    clear ha
    go_enter Tryz.func77, Tryz.ntmps77
    go_wp2_with fail
    refine (close_any (some x) 84 cap (zs.take 84) w hrow HT.out (fun h => by cases h) (by decide) (hz.take 84)).mono ?_
    rintro e w1 ⟨v1, rfl, o1, B1⟩
    obtain ⟨a1, c1, rfl, _, hc1, _, r1, d1, n1⟩ := row_of_owns o1
    have s1 := B1.size
    have h1 := h.below B1 (Nat.le_refl _)
    have hrow1 := hrow.below B1 (Nat.le_refl _)
    go_wp2_with fail
    refine (equalB_any a1 (some x) 96 96 c1 cap (closed (zs.take 84)) zs w1 r1 h1 HB.out HL.out (by decide) (closed_bytes (hz.take 84)) hz).mono ?_
    rw [decide_eq_false HO.out]
    rintro e w2 ⟨rfl, q, rfl⟩
    go_wp2_with fail
    go_ret2
    exact ⟨rfl, Below.drewN B1 q⟩

end Go.Proofs.YtleoelhhndeheaaGreat
