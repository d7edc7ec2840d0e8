/- the walk of SealTells -/
import Derived.Test.YtjoghgnkdegeoaaSealAll
import Derived.Test.YtjoghgnkdegeoaaFew
import Derived.Test.YtjoghgnkdegeoaaHand
import Derived.Laws.Closers25b
open Go Go.RowKit
namespace Go.Proofs.Ytjoghgnkdegeoaa

theorem szI : (Try.prog.info? 3).map (·.size) = some 1 := by kernel_rfl
theorem owns_form {w : World} {base : Nat} {E : TypeId} {v : Value} {n : Nat} {vs : List Value} (h : w.ownsRow base E 1 v n vs) (hn : 0 < n) : ∃ g cap, v = .slice (some ⟨g, 0, none⟩) n cap := by
  obtain ⟨h1, h2⟩ := h
  rcases h2 with ⟨_, rfl⟩ | ⟨g, cap, cur, hv, _⟩
  · simp at h1; omega
  · exact ⟨g, cap, hv⟩
theorem IsBytes.set {t : List Int} (h : IsBytes t) (p : Nat) {y : Int} (hy : 0 ≤ y ∧ y ≤ 255) : IsBytes (t.set p y) := by
  intro n hn
  rcases List.mem_or_eq_of_mem_set hn with hn | rfl
  · exact h n hn
  · exact hy

set_option maxRecDepth 100000 in
set_option maxHeartbeats 4000000 in
theorem tells_walk (a : Option Addr) (la ca : Nat) (xs : List Int) (b : Option Addr) (lb cb : Nat) (ys : List Int) (f : Bool) (d : Option Addr) (ld cd : Nat) (is : List Int) (m : Int) (w : World) (ha : ByteArg w a la ca xs) (hb : ByteArg w b lb cb ys) (hd : Ints w d ld is) (hm : 0 ≤ m ∧ m ≤ 255) :
    Calls Try.prog 4 #[.slice a la ca, .slice b lb cb, .bool f, .slice d ld cd, .int .u8 m] w fun e w' => e = .returned (.bool true) ∧ Below w.heap.size w w' := by
  go_enter Try.func4, Try.ntmps4
  go_wp2_with fail
  refine (known3_any w).mono ?_
  rintro e w1 ⟨rfl, B1⟩
  have s1 := B1.size
  have ra1 := ha.hrow.below B1 (Nat.le_refl _)
  go_wp2_with fail
  refine (sums_any a la ca xs w1 ra1 ha.hlen ha.hreach ha.hbytes).mono ?_
  rintro e w1' ⟨rfl, rfl⟩
  go_wp2_with fail
  refine (rsums_any a la ca xs w1 ra1 ha.hlen ha.hcap ha.hcapm ha.hreach ha.hbytes).mono ?_
  rintro e w2 ⟨rfl, B2⟩
  have B2' := B1.trans (B2.mono s1)
  have s2 := B2'.size
  have ra2 := ra1.below B2 (Nat.le_refl _)
  clear ra1 B2
  go_wp2_with fail
  refine (close_all a la ca xs w2 ra2 ha.hlen (fun h => (ha.hnil h).1) (by have := ha.hcap; have := ha.hcapm; omega) ha.hbytes).mono ?_
  rintro e w3 ⟨a3, n3, c3, rfl, r3, l3, B3⟩
  have B3' := B2'.trans (B3.mono s2)
  have s3 := B3'.size
  have ra3 := ra2.below B3 (Nat.le_refl _)
  clear ra2 B3
  go_wp2_with fail
  refine (rclose_all a la ca xs w3 ra3 ha.hlen ha.hnil (by have := ha.hcap; have := ha.hcapm; omega) ha.hbytes).mono ?_
  rintro e w4 ⟨a4, n4, c4, rfl, r4, l4, B4⟩
  have B4' := B3'.trans (B4.mono s3)
  have s4 := B4'.size
  have ra4 := ra3.below B4 (Nat.le_refl _)
  have e3 := conv_row (P := Try.prog) Try.underlying25 Try.underlying5 Try.underlying9 c3 (r3.below B4 (Nat.le_refl _)) l3
  have e4 := conv_row (P := Try.prog) Try.underlying25 Try.underlying5 Try.underlying9 c4 r4 l4
  clear ra3 B4
  go_wp2_with fail
  have rb4 := hb.hrow.below B4' (Nat.le_refl _)
  refine (few_any b lb cb lb ys w4 rb4 hb.hlen hb.hnil hb.hcap hb.hcapm hb.hreach hb.hreach).mono ?_
  rintro e w5 ⟨v5, rfl, o5, B5⟩
  have et : ys.take lb = ys := List.take_of_length_le (by rw [hb.hlen]; exact Nat.le_refl _)
  rw [et, Nat.min_self] at o5
  obtain ⟨az, cz, rfl, _, hzc, hzm0, rz, _, _⟩ := row_of_owns o5
  have B5' := B4'.trans (B5.mono s4)
  have s5 := B5'.size
  have ra5 := ra4.below B5 (Nat.le_refl _)
  unfold maxLen at hzm0
  clear ra4 rb4 o5 e3 e4 et r3 r4 l3 l4 B5
  cases f with
  | false =>
    have BT := B5'
    have hzl := hb.hlen
    have hzb := hb.hbytes
    have hzm : cz ≤ 9223372036854775807 := by omega
    have sB0 := BT.size
    go_wp2_with fail
    refine (open_all az lb cz ys w5 rz hzl hzc hzm hzb).mono ?_
    rintro e w6 ⟨a6, n6, c6, rfl, r6, l6, B6⟩
    have B6' := BT.trans (B6.mono sB0)
    have s6 := B6'.size
    have rz6 := rz.below B6 (Nat.le_refl _)
    go_wp2_with fail
    refine (ropen_all az lb cz ys w6 rz6 hzl hzc hzm hzb).mono ?_
    rintro e w7 ⟨a7, n7, c7, rfl, r7, l7, B7⟩
    have B7' := B6'.trans (B7.mono s6)
    have s7 := B7'.size
    have r67 := r6.below B7 (Nat.le_refl _)
    clear B6 B7
    go_wp2_with fail
    refine (known3_any w7).mono ?_
    rintro e w8 ⟨rfl, B8x⟩
    have B8' := B7'.trans (B8x.mono s7)
    have e6 := conv_row (P := Try.prog) Try.underlying25 Try.underlying5 Try.underlying9 c6 (r67.below B8x (Nat.le_refl _)) l6
    have e7 := conv_row (P := Try.prog) Try.underlying25 Try.underlying5 Try.underlying9 c7 (r7.below B8x (Nat.le_refl _)) l7
    go_wp2_with fail
    go_ret
    exact ⟨by simp, B8'⟩
  | true =>
    clear rz hzm0 hzc
    go_wp2_with fail
    refine (few_any a la ca 84 xs w5 ra5 ha.hlen ha.hnil ha.hcap ha.hcapm ha.hreach (by decide)).mono ?_
    rintro e w5a ⟨v5a, rfl, o5a, B5a⟩
    obtain ⟨a5a, c5a, rfl, hl5a, hc5a, hm5a, r5a, d5a, n5a⟩ := row_of_owns o5a
    have q5a := owns_cap o5a
    have hx : IsBytes (xs.take 84) := ha.hbytes.take 84
    have hxl : (xs.take 84).length ≤ 84 := by simp; omega
    generalize xs.take 84 = x at *
    generalize hma : min la 84 = ma at *
    have hxm : x.length = ma := by simpa using hl5a
    have hma2 : ma ≤ 84 := by omega
    have HXM := hid hxm
    clear hxm hl5a hma o5a
    have C5 := B5'.trans (B5a.mono s5)
    have t5 := C5.size
    go_wp2_with fail
    refine (rclose_any a5a ma c5a x w5a r5a HXM.out q5a hma2 hx).mono ?_
    rintro e w5b ⟨v5b, rfl, o5b, B5b⟩
    obtain ⟨g, cz, rfl⟩ := owns_form o5b (by decide)
    have D5 := C5.trans (B5b.mono t5)
    have hcl := closed_length hxl
    have hcb := closed_bytes hx
    clear B5a r5a
    go_wp2_with fail
    go_loopw [20] (fun i wr => ∃ (k : Nat) (t : List Int), i = .int .i64 (k : Int) ∧ k ≤ ld ∧ k ≤ 2 ∧ IsBytes t ∧ t.length = 96 ∧
      wr.ownsRow w5a.heap.size 5 1 (.slice (some ⟨g, 0, none⟩) 96 cz) 96 (B8 t) ∧ Below w5a.heap.size w5a wr) (fun i _ => 2 - (intOf i).toNat)
    case atStart => exact ⟨0, closed x, rfl, by omega, by omega, hcb, hcl, o5b, B5b⟩
    case round =>
      obtain ⟨k, t, rfl, hk1, hk2, htb, htl, ot, Bt⟩ := hrel
      by_cases h1 : k < ld
      · by_cases h2 : k < 2
        · have hdr := (hd.below (C5.trans (Bt.mono t5)) (Nat.le_refl _))
          have hixd := idx_at1 (P := Try.prog) (T := 28) Try.underlying28 szI (a := d) (cap := cd) (len := ld) hdr.nn h1
          have hcd := hdr.cell k h1
          have hwn := hdr.get h1
          obtain ⟨off, hoff, hoff2⟩ : ∃ off : Nat, (is[k]?.getD 0) % 96 = (off : Int) ∧ off < 96 := ⟨((is[k]?.getD 0) % 96).toNat, by omega, by omega⟩
          have HOFF := hid hoff
          clear hoff
          go_wp2_with fail
          refine (pick_any (is[k]?.getD 0) 96 _ hwn (by decide) (by decide)).mono ?_
          rw [HOFF.out]
          rintro e w6 ⟨rfl, rfl⟩
          have hix9 := idx_at1 (P := Try.prog) (T := 25) Try.underlying25 szB (a := some ⟨g, 0, none⟩) (cap := cz) (len := 96) (fun _ => rfl) hoff2
          rw [show sB (some ⟨g, 0, none⟩) = g from rfl, show sO (some ⟨g, 0, none⟩) + off = off from Nat.zero_add _] at hix9
          have hcg := ot.cellAt off (by omega)
          have hcg2 : (B8 t)[off]? = some (.int .u8 (t[off]?.getD 0)) := by simp [B8, List.getElem?_map, List.getElem?_eq_getElem (show off < t.length by omega)]
          rw [hcg2] at hcg
          obtain ⟨z9, hz9⟩ : ∃ z9, t[off]?.getD 0 = z9 := ⟨_, rfl⟩
          rw [hz9] at hcg
          clear hz9 hcg2
          have hfg := ot.frozenAt off
          have hyb : 0 ≤ bits .xor .u8 z9 m ∧ bits .xor .u8 z9 m ≤ 255 := ⟨bits_lo_u8 _ _ _, bits_hi_u8 _ _ _⟩
          have hst := ot.stored off (.int .u8 (bits .xor .u8 z9 m))
          have hB : Below w5a.heap.size w5a (wr.setCell ⟨g, off, none⟩ (.int .u8 (bits .xor .u8 z9 m))) := Bt.grown hst.2 Bt.size (by rintro q hq; cases hq; exact (ot.lt g rfl).1)
          have hot := hst.1
          rw [show (B8 t).set off (.int .u8 (bits .xor .u8 z9 m)) = B8 (t.set off (bits .xor .u8 z9 m)) by rw [B8, B8, List.map_set]] at hot
          have HOT := hid hot
          have HB := hid hB
          have HYB := hid hyb
          clear hst hot hB hyb
          go_wp2_with fail
          go_roundw
          case rel => exact ⟨k + 1, t.set off (bits .xor .u8 z9 m), by go_num, by omega, by omega, htb.set _ HYB.out, by simp [htl], HOT.out, HB.out⟩
          case measure => simp [intOf]; omega
        · obtain rfl : k = 2 := by omega
          have h1' : (2 : Int) < (ld : Int) := by omega
          obtain ⟨a', c', hv, _, hzc, hm9, rz, _, _⟩ := row_of_owns ot
          cases hv
          unfold maxLen at hm9
          have BT := C5.trans (Bt.mono t5)
          have hzl := htl
          have hzb := htb
          have hzm : cz ≤ 9223372036854775807 := by omega
          have sB0 := BT.size
          go_wp2_with fail
          refine (open_all (some ⟨g, 0, none⟩) 96 cz t wr rz hzl hzc hzm hzb).mono ?_
          rintro e w6 ⟨a6, n6, c6, rfl, r6, l6, B6⟩
          have B6' := BT.trans (B6.mono sB0)
          have s6 := B6'.size
          have rz6 := rz.below B6 (Nat.le_refl _)
          go_wp2_with fail
          refine (ropen_all (some ⟨g, 0, none⟩) 96 cz t w6 rz6 hzl hzc hzm hzb).mono ?_
          rintro e w7 ⟨a7, n7, c7, rfl, r7, l7, B7⟩
          have B7' := B6'.trans (B7.mono s6)
          have s7 := B7'.size
          have r67 := r6.below B7 (Nat.le_refl _)
          clear B6 B7
          go_wp2_with fail
          refine (known3_any w7).mono ?_
          rintro e w8 ⟨rfl, B8x⟩
          have B8' := B7'.trans (B8x.mono s7)
          have e6 := conv_row (P := Try.prog) Try.underlying25 Try.underlying5 Try.underlying9 c6 (r67.below B8x (Nat.le_refl _)) l6
          have e7 := conv_row (P := Try.prog) Try.underlying25 Try.underlying5 Try.underlying9 c7 (r7.below B8x (Nat.le_refl _)) l7
          go_wp2_with fail
          go_ret
          exact ⟨by simp, B8'⟩
      · obtain rfl : k = ld := by omega
        obtain ⟨a', c', hv, _, hzc, hm9, rz, _, _⟩ := row_of_owns ot
        cases hv
        unfold maxLen at hm9
        have BT := C5.trans (Bt.mono t5)
        have hzl := htl
        have hzb := htb
        have hzm : cz ≤ 9223372036854775807 := by omega
        have sB0 := BT.size
        go_wp2_with fail
        refine (open_all (some ⟨g, 0, none⟩) 96 cz t wr rz hzl hzc hzm hzb).mono ?_
        rintro e w6 ⟨a6, n6, c6, rfl, r6, l6, B6⟩
        have B6' := BT.trans (B6.mono sB0)
        have s6 := B6'.size
        have rz6 := rz.below B6 (Nat.le_refl _)
        go_wp2_with fail
        refine (ropen_all (some ⟨g, 0, none⟩) 96 cz t w6 rz6 hzl hzc hzm hzb).mono ?_
        rintro e w7 ⟨a7, n7, c7, rfl, r7, l7, B7⟩
        have B7' := B6'.trans (B7.mono s6)
        have s7 := B7'.size
        have r67 := r6.below B7 (Nat.le_refl _)
        clear B6 B7
        go_wp2_with fail
        refine (known3_any w7).mono ?_
        rintro e w8 ⟨rfl, B8x⟩
        have B8' := B7'.trans (B8x.mono s7)
        have e6 := conv_row (P := Try.prog) Try.underlying25 Try.underlying5 Try.underlying9 c6 (r67.below B8x (Nat.le_refl _)) l6
        have e7 := conv_row (P := Try.prog) Try.underlying25 Try.underlying5 Try.underlying9 c7 (r7.below B8x (Nat.le_refl _)) l7
        go_wp2_with fail
        go_ret
        exact ⟨by simp, B8'⟩

end Go.Proofs.Ytjoghgnkdegeoaa
