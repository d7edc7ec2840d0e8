/- the walk of SealTurns -/
import Derived.Test.YtjoghgnkdegeoaaSealTurn
import Derived.Test.YtjoghgnkdegeoaaFew
import Derived.Test.YtjoghgnkdegeoaaHand
import Derived.Test.YtjoghgnkdegeoaaAppRow
import Derived.Deep.QuietTactic
import Derived.Deep.RegionHeld3
open Go Go.RowKit
namespace Go.Proofs.Ytjoghgnkdegeoaa

theorem owns_form {w : World} {base : Nat} {E : TypeId} {v : Value} {n : Nat} {vs : List Value} (h : w.ownsRow base E 1 v n vs) (hn : 0 < n) : ∃ g cap, v = .slice (some ⟨g, 0, none⟩) n cap := by
  obtain ⟨h1, h2⟩ := h
  rcases h2 with ⟨_, rfl⟩ | ⟨g, cap, cur, hv, _⟩
  · simp at h1; omega
  · exact ⟨g, cap, hv⟩
theorem zb_set_ne {t : List Int} {p i : Nat} {y : Int} (h : i ≠ p) : zb (t.set p y) i = zb t i := by
  unfold zb; rw [List.getElem?_set_ne (by omega)]
theorem IsBytes.set {t : List Int} (h : IsBytes t) (p : Nat) {y : Int} (hy : 0 ≤ y ∧ y ≤ 255) : IsBytes (t.set p y) := by
  intro n hn
  rcases List.mem_or_eq_of_mem_set hn with hn | rfl
  · exact h n hn
  · exact hy

set_option maxRecDepth 100000 in
set_option maxHeartbeats 4000000 in
theorem turns_walk (a : Option Addr) (la ca : Nat) (xs : List Int) (n : Int) (b : Option Addr) (lb cb : Nat) (ys : List Int) (w : World) (ha : ByteArg w a la ca xs) (hn : -9223372036854775808 ≤ n ∧ n ≤ 9223372036854775807) (hb : ByteArg w b lb cb ys) :
    Calls Try.prog 5 #[.slice a la ca, .int .i64 n, .slice b lb cb] w fun e w' => e = .returned (.bool true) ∧ Below w.heap.size w w' := by
  obtain ⟨i0, hi, hz0, hz1, hz2⟩ := info_parts iB
  go_enter Try.func5, Try.ntmps5
  go_wp2_with fail
  refine (known3_any w).mono ?_
  rintro e w1 ⟨rfl, B1⟩
  have s1 := B1.size
  go_wp2_with fail
  refine (few_any a la ca 84 xs w1 (ha.hrow.below B1 (Nat.le_refl _)) ha.hlen ha.hnil ha.hcap ha.hcapm ha.hreach (by decide)).mono ?_
  rintro e w2 ⟨v2, rfl, o2, B2⟩
  obtain ⟨a2, c2, rfl, hl2, hc2, hm2, r2, d2, n2⟩ := row_of_owns o2
  have B2' : Below w.heap.size w w2 := B1.trans (B2.mono s1)
  have s2 := B2'.size
  have hx : IsBytes (xs.take 84) := ha.hbytes.take 84
  have hxl : (xs.take 84).length ≤ 84 := by simp; omega
  generalize xs.take 84 = x at *
  generalize hma : min la 84 = ma at *
  have hxm : x.length = ma := by simpa using hl2
  have hma2 : ma ≤ 84 := by omega
  clear o2 hl2 hma B2
  have HXM := hid hxm
  clear hxm
  go_wp2_with fail
  refine (close_any a2 ma c2 x w2 r2 HXM.out n2 hma2 hx).mono ?_
  rintro e w3 ⟨v3, rfl, o3, B3⟩
  obtain ⟨a3, c3, rfl, hl3, hc3, hm3, r3, d3, n3⟩ := row_of_owns o3
  have q3 := owns_cap o3
  have B3' : Below w.heap.size w w3 := B2'.trans (B3.mono s2)
  have s3 := B3'.size
  have r2a := r2.below B3 (Nat.le_refl _)
  clear o3 B3 r2 hl3
  unfold maxLen at hm3
  go_wp2_with fail
  refine (known3_any w3).mono ?_
  rintro e w4 ⟨rfl, B4⟩
  have B4' : Below w.heap.size w w4 := B3'.trans (B4.mono s3)
  have s4 := B4'.size
  have r2b := r2a.below B4 (Nat.le_refl _)
  have r3b := r3.below B4 (Nat.le_refl _)
  clear B4 r2a r3
  have hown : (w4.alloc (.cells #[] 5)).ownsRow w4.heap.size 5 1 (.slice (some ⟨w4.heap.size, 0, none⟩) 0 0) 0 [] := World.ownsRow_lit w4 #[] 0 (Nat.le_refl _) (by simp [maxLen]) rfl
  have hcl : (closed x).length = 96 := closed_length hxl
  have hcb := closed_bytes hx
  go_wp2_with (at_builtin; refine wpList_append_row rfl _ _ 25 rfl w4.heap.size 5 i0 (.int .u8 0) Try.underlying25 hi hz0 hz1 (by omega) rfl _ 0 [] rfl hown a3 96 c3 (B8 (closed x)) rfl (r3b.alloc _) (by simp; exact hcl) (fun h => by have := n3 h; omega) (B8_one _) ?c4 ?c5 ?_)
  case c4 => omega
  case c5 => simp
  intro v5 w5 o5 g5 _
  have B5 : Below w4.heap.size w4 w5 := ((Below.refl _ w4).alloc (Nat.le_refl _) _).trans g5
  have s5 := B5.size
  try simp only [Nat.zero_add, List.nil_append] at o5
  obtain ⟨g, c5, rfl⟩ := owns_form o5 (by decide)
  clear g5 hown
  go_wp2_with fail
  obtain ⟨off, hoff, hoff2⟩ : ∃ off : Nat, n % 96 = (off : Int) ∧ off < 96 := ⟨(n % 96).toNat, by omega, by omega⟩
  have HOFF := hid hoff
  clear hoff
  have hwn := hn
  clear hn
  go_loopw [10] (fun i wr => ∃ (k : Nat) (t : List Int), i = .int .i64 (k : Int) ∧ k ≤ lb ∧ k ≤ 4 ∧ IsBytes t ∧ t.length = 96 ∧ (∀ j, j < 96 → (j < off ∨ off + 4 ≤ j) → zb t j = zb (closed x) j) ∧
    wr.ownsRow w4.heap.size 5 1 (.slice (some ⟨g, 0, none⟩) 96 c5) 96 (B8 t) ∧ Below w4.heap.size w4 wr) (fun i _ => 4 - (intOf i).toNat)
  case atStart => exact ⟨0, closed x, rfl, by omega, by omega, hcb, hcl, fun _ _ _ => rfl, o5, B5⟩
  case round =>
    obtain ⟨k, t, rfl, hk1, hk2, htb, htl, hsame, ot, Bt⟩ := hrel
    have hbn := hb.hrow.below (B4'.trans (Bt.mono s4)) (Nat.le_refl _)
    by_cases h1 : k < lb
    · by_cases h2 : k < 4
      · go_wp2_with fail
        refine (pick_any n 96 _ hwn (by decide) (by decide)).mono ?_
        rw [HOFF.out]
        rintro e w6 ⟨rfl, rfl⟩
        by_cases h3 : off + k < 96
        · have hixb := idx_at1 (P := Try.prog) (T := 25) Try.underlying25 szB (a := b) (cap := cb) (len := lb) (fun _ => hbn.nn (by simp [hb.hlen]; omega)) h1
          have hix9 := idx_at1 (P := Try.prog) (T := 25) Try.underlying25 szB (a := some ⟨g, 0, none⟩) (cap := c5) (len := 96) (fun _ => rfl) h3
          have e9 : ((off + k : Nat) : Int) = (off : Int) + (k : Int) := by omega
          rw [e9, show sB (some ⟨g, 0, none⟩) = g from rfl, show sO (some ⟨g, 0, none⟩) + (off + k) = off + k from Nat.zero_add _] at hix9
          have hcb9 := hbn.byte (i := k) (by rw [hb.hlen]; exact h1)
          have hcg := ot.cellAt (off + k) (by omega)
          have hcg2 : (B8 t)[off + k]? = some (.int .u8 (t[off + k]?.getD 0)) := by simp [B8, List.getElem?_map, List.getElem?_eq_getElem (show off + k < t.length by omega)]
          rw [hcg2] at hcg
          have hfg := ot.frozenAt (off + k)
          have hyb := hb.hbytes.get k
          have hst := ot.stored (off + k) (.int .u8 (ys[k]?.getD 0))
          have hB : Below w4.heap.size w4 (wr.setCell ⟨g, off + k, none⟩ (.int .u8 (ys[k]?.getD 0))) := Bt.grown hst.2 Bt.size (by rintro q hq; cases hq; exact (ot.lt g rfl).1)
          have hot := hst.1
          rw [show (B8 t).set (off + k) (.int .u8 (ys[k]?.getD 0)) = B8 (t.set (off + k) (ys[k]?.getD 0)) by rw [B8, B8, List.map_set]] at hot
          have HOT := hid hot
          have HB := hid hB
          clear hst hot hB hcg2 e9
          go_wp2_with fail
          go_roundw
          case rel => exact ⟨k + 1, t.set (off + k) (ys[k]?.getD 0), by go_num, by omega, by omega, htb.set _ hyb, by simp [htl], fun j hj h => by rw [zb_set_ne (by omega)]; exact hsame j hj h, HOT.out, HB.out⟩
          case measure => simp [intOf]; omega
        · go_wp2_with fail
          go_roundw
          case rel => exact ⟨k + 1, t, by go_num, by omega, by omega, htb, htl, hsame, ot, Bt⟩
          case measure => simp [intOf]; omega
      · obtain rfl : k = 4 := by omega
        have h1' : (4 : Int) < (lb : Int) := by omega
        have r2w := r2b.below Bt (Nat.le_refl _)
        have r3w := r3b.below Bt (Nat.le_refl _)
        have st := Bt.size
        obtain ⟨a', c', hv, _, hc9, hm9, rt, _, _⟩ := row_of_owns ot
        cases hv
        unfold maxLen at hm9
        have BB := B4'.trans (Bt.mono s4)
        by_cases ho : closed (t.take 84) = t
        · have ht := turned_opens hx hxl htb htl hsame ho
          have hpx : (padded x).take ma = x := by unfold padded; rw [← HXM.out, List.take_left]
          have HPX := hid hpx
          clear hpx
          subst ht
          go_wp2_with fail
          refine (open_yes _ c5 (closed x) wr rt htl hc9 (by omega) htb ho).mono ?_
          rw [closed_take hxl]
          rintro e w6 ⟨v6, rfl, o6, B6⟩
          obtain ⟨a6, c6, rfl, hl6, hc6, hm6, r6, d6, n6⟩ := row_of_owns o6
          have B6' := BB.trans (B6.mono BB.size)
          clear o6 hl6
          unfold maxLen at hm6
          have e9 := conv_row (P := Try.prog) Try.underlying25 Try.underlying5 Try.underlying9 c5 (rt.below B6 (Nat.le_refl _)) (len := 96) hcl
          have e7 := conv_row (P := Try.prog) Try.underlying25 Try.underlying5 Try.underlying9 c3 (r3w.below B6 (Nat.le_refl _)) (len := 96) hcl
          have e0 := conv_row (P := Try.prog) Try.underlying25 Try.underlying5 Try.underlying9 c2 (r2w.below B6 (Nat.le_refl _)) (len := ma) HXM.out
          have e12 := conv_row (P := Try.prog) Try.underlying25 Try.underlying5 Try.underlying9 c6 (show Row w6 a6 (B8 x) by rw [← HPX.out, B8, List.map_take]; exact r6.take ma) (len := ma) HXM.out
          cases a6 with
          | none => have := n6 rfl; omega
          | some x6 =>
            have hsl : (0 : Int) ≤ (ma : Int) := by omega
            have hsl2 : (ma : Int) ≤ (c6 : Int) := by omega
            go_wp2_with fail
            have hS : ((convert 25 9 (.slice (some x6) ma c6)).run Try.prog w6.drew = .ok (.string (strOfNums x)) w6.drew) ∧ ((convert 25 9 (.slice a2 ma c2)).run Try.prog w6.drew = .ok (.string (strOfNums x)) w6.drew) := ⟨conv_row Try.underlying25 Try.underlying5 Try.underlying9 c6 ((show Row w6 (some x6) (B8 x) by rw [← HPX.out, B8, List.map_take]; exact r6.take ma).below ((Below.refl _ w6).drew) (Nat.le_refl _)) HXM.out, conv_row Try.underlying25 Try.underlying5 Try.underlying9 c2 (r2w.below B6.drew (Nat.le_refl _)) HXM.out⟩
            go_region_held3 (fun w' => ((convert 25 9 (.slice (some x6) ma c6)).run Try.prog w' = .ok (.string (strOfNums x)) w') ∧ ((convert 25 9 (.slice a2 ma c2)).run Try.prog w' = .ok (.string (strOfNums x)) w')) (first | exact hS | assumption) (fail)
            go_wp2_with fail
            go_ret
            exact ⟨rfl, B6'.drew⟩
        · have hne : closed x ≠ t := by
            rintro rfl
            exact ho (by rw [closed_take hxl, closed_padded hxl])
          have hse : ((strOfNums t).toList == (strOfNums (closed x)).toList) = false := by
            rw [str_eq htb hcb]; exact decide_eq_false (fun h => hne h.symm)
          go_wp2_with fail
          refine (open_no _ c5 t wr rt htl hc9 (by omega) htb ho).mono ?_
          rintro e w6 ⟨rfl, B6⟩
          have B6' := BB.trans (B6.mono BB.size)
          have e9 := conv_row (P := Try.prog) Try.underlying25 Try.underlying5 Try.underlying9 c5 (rt.below B6 (Nat.le_refl _)) (len := 96) htl
          have e7 := conv_row (P := Try.prog) Try.underlying25 Try.underlying5 Try.underlying9 c3 (r3w.below B6 (Nat.le_refl _)) (len := 96) hcl
          go_wp2_with fail
          go_ret
          exact ⟨rfl, B6'⟩
    · obtain rfl : k = lb := by omega
      have r2w := r2b.below Bt (Nat.le_refl _)
      have r3w := r3b.below Bt (Nat.le_refl _)
      have st := Bt.size
      obtain ⟨a', c', hv, _, hc9, hm9, rt, _, _⟩ := row_of_owns ot
      cases hv
      unfold maxLen at hm9
      have BB := B4'.trans (Bt.mono s4)
      by_cases ho : closed (t.take 84) = t
      · have ht := turned_opens hx hxl htb htl hsame ho
        have hpx : (padded x).take ma = x := by unfold padded; rw [← HXM.out, List.take_left]
        have HPX := hid hpx
        clear hpx
        subst ht
        go_wp2_with fail
        refine (open_yes _ c5 (closed x) wr rt htl hc9 (by omega) htb ho).mono ?_
        rw [closed_take hxl]
        rintro e w6 ⟨v6, rfl, o6, B6⟩
        obtain ⟨a6, c6, rfl, hl6, hc6, hm6, r6, d6, n6⟩ := row_of_owns o6
        have B6' := BB.trans (B6.mono BB.size)
        clear o6 hl6
        unfold maxLen at hm6
        have e9 := conv_row (P := Try.prog) Try.underlying25 Try.underlying5 Try.underlying9 c5 (rt.below B6 (Nat.le_refl _)) (len := 96) hcl
        have e7 := conv_row (P := Try.prog) Try.underlying25 Try.underlying5 Try.underlying9 c3 (r3w.below B6 (Nat.le_refl _)) (len := 96) hcl
        have e0 := conv_row (P := Try.prog) Try.underlying25 Try.underlying5 Try.underlying9 c2 (r2w.below B6 (Nat.le_refl _)) (len := ma) HXM.out
        have e12 := conv_row (P := Try.prog) Try.underlying25 Try.underlying5 Try.underlying9 c6 (show Row w6 a6 (B8 x) by rw [← HPX.out, B8, List.map_take]; exact r6.take ma) (len := ma) HXM.out
        cases a6 with
        | none => have := n6 rfl; omega
        | some x6 =>
          have hsl : (0 : Int) ≤ (ma : Int) := by omega
          have hsl2 : (ma : Int) ≤ (c6 : Int) := by omega
          go_wp2_with fail
          have hS : ((convert 25 9 (.slice (some x6) ma c6)).run Try.prog w6.drew = .ok (.string (strOfNums x)) w6.drew) ∧ ((convert 25 9 (.slice a2 ma c2)).run Try.prog w6.drew = .ok (.string (strOfNums x)) w6.drew) := ⟨conv_row Try.underlying25 Try.underlying5 Try.underlying9 c6 ((show Row w6 (some x6) (B8 x) by rw [← HPX.out, B8, List.map_take]; exact r6.take ma).below ((Below.refl _ w6).drew) (Nat.le_refl _)) HXM.out, conv_row Try.underlying25 Try.underlying5 Try.underlying9 c2 (r2w.below B6.drew (Nat.le_refl _)) HXM.out⟩
          go_region_held3 (fun w' => ((convert 25 9 (.slice (some x6) ma c6)).run Try.prog w' = .ok (.string (strOfNums x)) w') ∧ ((convert 25 9 (.slice a2 ma c2)).run Try.prog w' = .ok (.string (strOfNums x)) w')) (first | exact hS | assumption) (fail)
          go_wp2_with fail
          go_ret
          exact ⟨rfl, B6'.drew⟩
      · have hne : closed x ≠ t := by
          rintro rfl
          exact ho (by rw [closed_take hxl, closed_padded hxl])
        have hse : ((strOfNums t).toList == (strOfNums (closed x)).toList) = false := by
          rw [str_eq htb hcb]; exact decide_eq_false (fun h => hne h.symm)
        go_wp2_with fail
        refine (open_no _ c5 t wr rt htl hc9 (by omega) htb ho).mono ?_
        rintro e w6 ⟨rfl, B6⟩
        have B6' := BB.trans (B6.mono BB.size)
        have e9 := conv_row (P := Try.prog) Try.underlying25 Try.underlying5 Try.underlying9 c5 (rt.below B6 (Nat.le_refl _)) (len := 96) htl
        have e7 := conv_row (P := Try.prog) Try.underlying25 Try.underlying5 Try.underlying9 c3 (r3w.below B6 (Nat.le_refl _)) (len := 96) hcl
        go_wp2_with fail
        go_ret
        exact ⟨rfl, B6'⟩

end Go.Proofs.Ytjoghgnkdegeoaa
