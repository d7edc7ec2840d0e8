/- VaultActs: the walk -/
import Derived.Test.YtleoelhhndeheaaGreatVRun
import Derived.Test.YtleoelhhndeheaaGreatStepRow
import Derived.Deep.Cut
import Derived.Deep.CutBlock
import Derived.Deep.CutRange
import Derived.Deep.DeepCutAuto
open Go Go.RowKit
open Go.Maps (Keyed has)
namespace Go.Proofs.YtleoelhhndeheaaGreat

set_option maxRecDepth 100000 in
set_option maxHeartbeats 16000000 in
theorem vaultActs_any (x0 : Int) (a0 : Option Addr) (len0 cap0 : Nat) (X : Nat → ActW) (w : World) (hx0 : -9223372036854775808 ≤ x0 ∧ x0 ≤ 9223372036854775807) (hX : ActsW w a0 len0 X) :
    Calls Tryz.prog 6 #[.int .i64 x0, .slice a0 len0 cap0] w fun e w' => e = .returned (.bool true) ∧ Below w.heap.size w w' := by
  have HX := hid hX
  have hixA := fun i hi W => hX.ix cap0 i hi W
  have hmm := @run_makeMap Tryz.prog
  obtain ⟨z, hz⟩ := zS
  have HZ := hid hz
  have PK0 := fun W => pick_any x0 30 W hx0 (by omega) (by omega)
  obtain ⟨p0, hp0⟩ : ∃ p, x0 % 30 = p := ⟨_, rfl⟩
  have hp0b : 0 ≤ p0 ∧ p0 ≤ 29 := by omega
  rw [hp0] at PK0
  obtain ⟨n, hn⟩ : ∃ n : Nat, (60 : Int) + p0 = (n : Int) := ⟨(60 + p0).toNat, by omega⟩
  have hnb : 60 ≤ n ∧ n ≤ 89 := by omega
  have hmay : mayC 1 34 n = true := by unfold mayC; simp; omega
  have FO := fun W => VRun.found n 34 W (by omega) (by omega) hmay (by unfold homes; omega)
  clear hX hz hx0 hp0 hmay
  go_enter Tryz.func6, Tryz.ntmps6
  go_wp2_with fail
  refine (known6_any w).mono ?_
  rintro e w1 ⟨rfl, B1⟩
  have HB1 := hid B1
  clear B1
  go_wp2_with fail
  refine (PK0 w1).mono ?_
  rintro e w2 ⟨rfl, rfl⟩
  clear PK0
  go_wp2_with fail
  refine (FO w1).mono ?_
  rintro e w2 ⟨d, v, rfl, VR⟩
  have HVR := hid VR
  clear VR FO
  go_wp2_with fail
  refine (known6_any w2).mono ?_
  rintro e w3 ⟨rfl, B3⟩
  have VR3 := hid (HVR.out.below B3)
  clear B3 HVR
  obtain ⟨m1, hm1⟩ : ∃ m, w3.heap.size = m := ⟨_, rfl⟩
  obtain ⟨W4, hW4⟩ : ∃ W4, w3.alloc (.map #[] 0) = W4 := ⟨_, rfl⟩
  have VR4 : Hid (VRun w1 W4 d n 34 3 v noRcs noRcs [(m1, noRcs.data)]) := hid (VR3.out.new (by rw [← hW4]; exact (Below.refl _ _).alloc (Nat.le_refl _) _) ⟨Nat.le_of_eq hm1, by rw [← hW4, ← hm1]; simp⟩ (strM_small (n := 0) (RcsOk.none 5).data (by rw [← hW4, ← hm1]; exact IMap.made w3)))
  obtain ⟨m2, hm2⟩ : ∃ m, W4.heap.size = m := ⟨_, rfl⟩
  obtain ⟨W5, hW5⟩ : ∃ W5, W4.alloc (.map #[] 0) = W5 := ⟨_, rfl⟩
  have VR5 : Hid (VRun w1 W5 d n 34 3 v noRcs noRcs [(m2, noRcs.data), (m1, noRcs.data)]) := hid (VR4.out.new (by rw [← hW5]; exact (Below.refl _ _).alloc (Nat.le_refl _) _) ⟨Nat.le_of_eq hm2, by rw [← hW5, ← hm2]; simp⟩ (strM_small (n := 0) (RcsOk.none 5).data (by rw [← hW5, ← hm2]; exact IMap.made W4)))
  have AXW : Hid (∀ W, Below w1.heap.size w1 W → ActsW W a0 len0 X) := hid fun W hW => HX.out.below (HB1.out.trans (hW.mono HB1.out.size)) (Nat.le_refl _)
  clear VR3 VR4
  go_wp2_with fail
  go_loopw [5, 7, 8, 9] (fun u5 u7 u8 u9 wr => ∃ (i v m1 m2 : Nat) (Rn Rk : Rcs), u5 = .pointer (some ⟨v, 0, none⟩) ∧ u7 = .map (some m1) ∧ u8 = .map (some m2) ∧ u9 = .int .i64 i ∧ i ≤ 30 ∧ i ≤ len0 ∧ Hid (VRun w1 wr d n 34 (3 + i) v Rn Rk [(m1, Rn.data), (m2, Rk.data)])) (fun _ _ _ u9 _ => 30 - (intOf u9).toNat)
  case atStart => exact ⟨0, v, m1, m2, noRcs, noRcs, rfl, by first | rfl | (simp [hm1]; done), by first | rfl | (simp [hm2]; done), rfl, by omega, Nat.zero_le _, hid (VR5.out.sub (fun x hx => by simp at hx ⊢; rcases hx with h | h <;> simp [h]) (by have := VR5.out.nd; simp at this ⊢; omega))⟩
  case round =>
    clear VR5 hW4 hW5 hm1 hm2
    obtain ⟨i, v, m1, m2, Rn, Rk, rfl, rfl, rfl, rfl, h30, hil, VRk⟩ := hrel
    by_cases hgo : i < len0 ∧ i < 30
    · obtain ⟨h1, h2⟩ := hgo
      have hixk := hixA i h1
      have AX := hid (AXW.out wr VRk.out.since)
      have c0 := AX.out.c0 i h1
      have c1 := AX.out.c1 i h1
      have c2 := AX.out.c2 i h1
      have c3 := AX.out.c3 i h1
      have c4 := AX.out.c4 i h1
      have c5 := AX.out.c5 i h1
      have c6 := AX.out.c6 i h1
      have OKX := AX.out.ok i h1
      obtain ⟨y, hy⟩ : ∃ y, X i = y := ⟨_, rfl⟩
      rw [hy] at c0 c1 c2 c3 c4 c5 c6 OKX
      obtain ⟨xb, hxb⟩ : ∃ xb, wr.heap.size = xb := ⟨_, rfl⟩
      obtain ⟨wx, hwx⟩ : ∃ wx, wr.alloc (.cells #[.int .i64 y.what, .int .i64 y.id, .int .i64 y.n, .int .i64 y.torn, .int .i64 y.cut, .slice y.ba y.bl y.bc, .slice y.ka y.kl y.kc] 35) = wx := ⟨_, rfl⟩
      have Bx : Below wr.heap.size wr wx := by rw [← hwx]; exact (Below.refl _ _).alloc (Nat.le_refl _) _
      have ob : wx.heap[xb]? = some (.cells #[.int .i64 y.what, .int .i64 y.id, .int .i64 y.n, .int .i64 y.torn, .int .i64 y.cut, .slice y.ba y.bl y.bc, .slice y.ka y.kl y.kc] 35 (0, 0)) := by rw [← hwx, ← hxb]; exact blk_new _ _
      have VRx := hid (VRk.out.below Bx)
      have OKx := OKX.below Bx (Nat.le_refl _)
      have HOK := hid OKx
      have HOB := hid ob
      have k0 : wx.cell? ⟨xb, 0, none⟩ = some (.int .i64 y.what) := blk_cell ob rfl
      have k1 : wx.cell? ⟨xb, 1, none⟩ = some (.int .i64 y.id) := blk_cell ob rfl
      have k2 : wx.cell? ⟨xb, 2, none⟩ = some (.int .i64 y.n) := blk_cell ob rfl
      have PK1 := pick_any y.id 9 wx OKx.b1 (by omega) (by omega)
      have PK2 := pick_any y.n 3 wx OKx.b2 (by omega) (by omega)
      have PK3 := pick_any y.what 15 wx OKx.b0 (by omega) (by omega)
      obtain ⟨p1, hp1⟩ : ∃ p, y.id % 9 = p := ⟨_, rfl⟩
      obtain ⟨p2, hp2⟩ : ∃ p, y.n % 3 = p := ⟨_, rfl⟩
      obtain ⟨q, hq⟩ : ∃ p, y.what % 15 = p := ⟨_, rfl⟩
      have hp1b : 0 ≤ p1 ∧ p1 ≤ 8 := by omega
      have hp2b : 0 ≤ p2 ∧ p2 ≤ 2 := by omega
      have hqb : 0 ≤ q ∧ q ≤ 14 := by omega
      rw [hp1] at PK1
      rw [hp2] at PK2
      rw [hq] at PK3
      have hyi : -9223372036854775808 ≤ y.id ∧ y.id ≤ 9223372036854775807 := OKx.b1
      have HY := hid hy
      clear hy OKX OKx ob Bx hp1 hp2 hq AX
      go_wp2_with fail
      refine PK1.mono ?_
      rintro e wx' ⟨rfl, rfl⟩
      clear PK1 c0 c1 c2 c3 c4 c5 c6
      go_upto_if 59 with fail
      go_cut [11] (fun u11 W => ∃ id : Int, u11 = .int .i64 id ∧ 0 ≤ id ∧ id ≤ 42 ∧ W = wx)
      case first =>
        by_cases h49 : y.id.tmod 50 = 49
        · go_wp2_with fail
          refine PK2.mono ?_
          rintro e wx' ⟨rfl, rfl⟩
          go_wp2_with fail
          go_meet
          case rel => exact ⟨40 + p2, by go_num, by omega, by omega, rfl⟩
        · go_wp2_with fail
          go_meet
          case rel => exact ⟨p1, rfl, by omega, by omega, rfl⟩
      case rest =>
        obtain ⟨id, rfl, hid0, hid42, rfl⟩ := hcut
        go_wp2_with fail
        refine PK3.mono ?_
        rintro e wx' ⟨rfl, rfl⟩
        clear PK2 PK3
        go_upto_block 2 with fail
        go_cut [5, 7, 8] (fun u5 u7 u8 W => ∃ (v' m1' m2' : Nat) (Rn' Rk' : Rcs), u5 = .pointer (some ⟨v', 0, none⟩) ∧ u7 = .map (some m1') ∧ u8 = .map (some m2') ∧ Hid (VRun w1 W d n 34 (4 + i) v' Rn' Rk' [(m1', Rn'.data), (m2', Rk'.data)]))
        case first =>
          clear VRk
          by_cases h6 : q = 6
          · subst h6
            have IM := VRx.out.imap (g := m1) (D := Rn.data) (by simp)
            have lk := IM.look_ok Tryz.underlying32 (HZ.out _) (x := id) (by omega)
            obtain ⟨zz, hzz⟩ : ∃ zz, (strM Rn.data id).getD z = zz := ⟨_, rfl⟩
            obtain ⟨bb, hbb⟩ : ∃ bb, (Rn id).isSome = bb := ⟨_, rfl⟩
            have e1 : (strM Rn.data id).isSome = bb := by rw [strM_some, ← hbb]; unfold Rcs.data; simp
            rw [hzz, e1] at lk
            have DR := VRx.out.drop id (by omega)
            rw [hbb] at DR
            clear hzz hbb e1 IM
            go_wp2_with fail
            refine DR.mono ?_
            rintro e w7 ⟨rfl, VR7⟩
            have VR7H := hid VR7
            have IM7 := VR7.imap (g := m1) (D := Rn.data) (by simp)
            clear DR VR7
            go_wp2_with (first | (at_delete; refine wpList_delete_im rfl _ rfl _ _ 32 3 rfl rfl 9 Tryz.underlying32 m1 4096 _ rfl IM7 id rfl (by omega) ?_) | fail)
            intro w8 IM8 X8
            have VR8 := hid (VR7H.out.wroteX (D' := (Rn.drop id).data) X8 (by rw [strM_drop] at IM8; exact IM8))
            clear IM7 IM8 X8
            go_wp2_with fail
            go_meet
            case rel => exact ⟨v, m1, m2, Rn.drop id, Rk, rfl, rfl, rfl, hid (VR8.out.le (by omega))⟩
          by_cases h7 : q = 7
          · subst h7
            have IM := VRx.out.imap (g := m1) (D := Rn.data) (by simp)
            have lk := IM.look_ok Tryz.underlying32 (HZ.out _) (x := id) (by omega)
            obtain ⟨zz, hzz⟩ : ∃ zz, (strM Rn.data id).getD z = zz := ⟨_, rfl⟩
            obtain ⟨bb, hbb⟩ : ∃ bb, (Rn id).isSome = bb := ⟨_, rfl⟩
            have e1 : (strM Rn.data id).isSome = bb := by rw [strM_some, ← hbb]; unfold Rcs.data; simp
            rw [hzz, e1] at lk
            have DR := VRx.out.drop id (by omega)
            rw [hbb] at DR
            clear hzz hbb e1 IM
            go_wp2_with fail
            refine DR.mono ?_
            rintro e w7 ⟨rfl, VR7⟩
            have VR7H := hid VR7
            have IM7 := VR7.imap (g := m1) (D := Rn.data) (by simp)
            clear DR VR7
            go_wp2_with (first | (at_delete; refine wpList_delete_im rfl _ rfl _ _ 32 3 rfl rfl 9 Tryz.underlying32 m1 4096 _ rfl IM7 id rfl (by omega) ?_) | fail)
            intro w8 IM8 X8
            have VR8 := hid (VR7H.out.wroteX (D' := (Rn.drop id).data) X8 (by rw [strM_drop] at IM8; exact IM8))
            clear IM7 IM8 X8
            go_wp2_with fail
            go_meet
            case rel => exact ⟨v, m1, m2, Rn.drop id, Rk, rfl, rfl, rfl, hid (VR8.out.le (by omega))⟩
          by_cases h8 : q = 8
          · subst h8
            have KE := VRx.out.keep (by omega)
            go_wp2_with fail
            refine KE.mono ?_
            rintro e w7 (⟨rfl, VR7⟩ | ⟨rfl, VR7⟩)
            · have CO := VR7.copied (g := m1) (D := Rn.data) (by simp) VR7.okn.data
              clear KE VR7
              go_wp2_with fail
              refine CO.mono ?_
              rintro e w8 ⟨g, rfl, VR8, -, -⟩
              have VR8H := hid VR8
              clear CO VR8
              go_wp2_with fail
              go_meet
              case rel => exact ⟨v, m1, g, Rn, Rn, rfl, rfl, rfl, hid (VR8H.out.keep1.le (by omega))⟩
            · have CO := VR7.copied (g := m2) (D := Rk.data) (by simp) VR7.okk.data
              clear KE VR7
              go_wp2_with fail
              refine CO.mono ?_
              rintro e w8 ⟨g, rfl, VR8, -, -⟩
              have VR8H := hid VR8
              clear CO VR8
              go_wp2_with fail
              go_meet
              case rel => exact ⟨v, g, m2, Rk, Rk, rfl, rfl, rfl, hid (VR8H.out.now1.le (by omega))⟩
          by_cases h9 : q = 9
          · subst h9
            have KE := VRx.out.keep (by omega)
            go_wp2_with fail
            refine KE.mono ?_
            rintro e w7 (⟨rfl, VR7⟩ | ⟨rfl, VR7⟩)
            · have CO := VR7.copied (g := m1) (D := Rn.data) (by simp) VR7.okn.data
              clear KE VR7
              go_wp2_with fail
              refine CO.mono ?_
              rintro e w8 ⟨g, rfl, VR8, -, -⟩
              have VR8H := hid VR8
              clear CO VR8
              go_wp2_with fail
              go_meet
              case rel => exact ⟨v, m1, g, Rn, Rn, rfl, rfl, rfl, hid (VR8H.out.keep1.le (by omega))⟩
            · have CO := VR7.copied (g := m2) (D := Rk.data) (by simp) VR7.okk.data
              clear KE VR7
              go_wp2_with fail
              refine CO.mono ?_
              rintro e w8 ⟨g, rfl, VR8, -, -⟩
              have VR8H := hid VR8
              clear CO VR8
              go_wp2_with fail
              go_meet
              case rel => exact ⟨v, g, m2, Rk, Rk, rfl, rfl, rfl, hid (VR8H.out.now1.le (by omega))⟩
          by_cases h10 : q = 10
          · subst h10
            have UN := VRx.out.undo
            go_wp2_with fail
            refine UN.mono ?_
            rintro e w7 ⟨rfl, VR7⟩
            have CO := VR7.copied (g := m2) (D := Rk.data) (by simp) VR7.okk.data
            clear UN VR7
            go_wp2_with fail
            refine CO.mono ?_
            rintro e w8 ⟨g, rfl, VR8, -, -⟩
            have VR8H := hid VR8
            clear CO VR8
            go_wp2_with fail
            go_meet
            case rel => exact ⟨v, g, m2, Rk, Rk, rfl, rfl, rfl, hid (VR8H.out.now1.le (by omega))⟩
          by_cases h11 : q = 11
          · subst h11
            have SE := VRx.out.settle
            go_wp2_with fail
            refine SE.mono ?_
            rintro e w7 ⟨rfl, VR7⟩
            have VR7H := hid VR7
            clear SE VR7
            go_wp2_with fail
            go_meet
            case rel => exact ⟨v, m1, m2, Rn, Rk, rfl, rfl, rfl, hid (VR7H.out.le (by omega))⟩
          by_cases h12 : q = 12
          · subst h12
            have RO := VRx.out.reopen (by omega)
            go_wp2_with fail
            refine RO.mono ?_
            rintro e w7 ⟨v', rfl, VR7⟩
            have CO := VR7.copied (g := m2) (D := Rk.data) (by simp) VR7.okk.data
            clear RO VR7
            go_wp2_with fail
            refine CO.mono ?_
            rintro e w8 ⟨g, rfl, VR8, -, -⟩
            have VR8H := hid VR8
            clear CO VR8
            go_wp2_with fail
            go_meet
            case rel => exact ⟨v', g, m2, Rk, Rk, rfl, rfl, rfl, hid (VR8H.out.now1.le (by omega))⟩
          by_cases h13 : q = 13
          · subst h13
            have RO := VRx.out.reopen (by omega)
            go_wp2_with fail
            refine RO.mono ?_
            rintro e w7 ⟨v', rfl, VR7⟩
            have CO := VR7.copied (g := m2) (D := Rk.data) (by simp) VR7.okk.data
            clear RO VR7
            go_wp2_with fail
            refine CO.mono ?_
            rintro e w8 ⟨g, rfl, VR8, -, -⟩
            have VR8H := hid VR8
            clear CO VR8
            go_wp2_with fail
            go_meet
            case rel => exact ⟨v', g, m2, Rk, Rk, rfl, rfl, rfl, hid (VR8H.out.now1.le (by omega))⟩
          by_cases h14 : q = 14
          · subst h14
            have RO := VRx.out.reopen (by omega)
            go_wp2_with fail
            refine RO.mono ?_
            rintro e w7 ⟨v', rfl, VR7⟩
            have CO := VR7.copied (g := m2) (D := Rk.data) (by simp) VR7.okk.data
            clear RO VR7
            go_wp2_with fail
            refine CO.mono ?_
            rintro e w8 ⟨g, rfl, VR8, -, -⟩
            have VR8H := hid VR8
            clear CO VR8
            go_wp2_with fail
            go_meet
            case rel => exact ⟨v', g, m2, Rk, Rk, rfl, rfl, rfl, hid (VR8H.out.now1.le (by omega))⟩
          have f6 : (q == 6) = false := by simp; omega
          have f7 : (q == 7) = false := by simp; omega
          have f8 : (q == 8) = false := by simp; omega
          have f9 : (q == 9) = false := by simp; omega
          have f10 : (q == 10) = false := by simp; omega
          have f11 : (q == 11) = false := by simp; omega
          have f12 : (q == 12) = false := by simp; omega
          have f13 : (q == 13) = false := by simp; omega
          have f14 : (q == 14) = false := by simp; omega
          have CO := VRx.out.copied (g := m1) (D := Rn.data) (by simp) VRx.out.okn.data
          go_wp2_with fail
          refine CO.mono ?_
          rintro e w7 ⟨g, rfl, VR7, B7, hg7⟩
          have VR7H := hid VR7
          have xlt := lt_of_blk HOB.out
          have ob7 := (B7.block xb xlt).trans HOB.out
          have l0 : w7.cell? ⟨xb, 0, none⟩ = some (.int .i64 y.what) := blk_cell ob7 rfl
          have l1 : w7.cell? ⟨xb, 1, none⟩ = some (.int .i64 y.id) := blk_cell ob7 rfl
          have l2 : w7.cell? ⟨xb, 2, none⟩ = some (.int .i64 y.n) := blk_cell ob7 rfl
          have l3 : w7.cell? ⟨xb, 3, none⟩ = some (.int .i64 y.torn) := blk_cell ob7 rfl
          have l4 : w7.cell? ⟨xb, 4, none⟩ = some (.int .i64 y.cut) := blk_cell ob7 rfl
          have l5 : w7.cell? ⟨xb, 5, none⟩ = some (.slice y.ba y.bl y.bc) := blk_cell ob7 rfl
          have l6 : w7.cell? ⟨xb, 6, none⟩ = some (.slice y.ka y.kl y.kc) := blk_cell ob7 rfl
          have OK7 := HOK.out.below B7 (Nat.le_refl _)
          have BY := bytes6_any y w7 OK7
          obtain ⟨bs, hbs⟩ : ∃ bs, bytesV y.id y.n y.bz = bs := ⟨_, rfl⟩
          have hbl : bs.length ≤ 357 := by rw [← hbs]; exact bytesV_le _ _ _
          have HBB := hid (show IsBytes bs by rw [← hbs]; exact bytesV_bytes OK7.b.hbytes)
          obtain ⟨bn, hbn⟩ : ∃ bn, bs.length = bn := ⟨_, rfl⟩
          have HBS := hid hbs
          have HBN := hid hbn
          have hbn3 : bn ≤ 357 := by omega
          rw [hbs, hbn] at BY
          have HOK7 := hid OK7
          have HOB7 := hid ob7
          have hxg : xb < g := Nat.lt_of_lt_of_le xlt hg7
          have s7 := B7.size
          clear CO VR7 B7 OK7 ob7 k0 k1 k2 hbs hbn hbl hg7
          go_wp2_with fail
          refine BY.mono ?_
          rintro e w8 ⟨vb8, rfl, o8, B8'⟩
          clear BY l0 l1 l2 l3 l4 l5 l6
          obtain ⟨ba8, bc8, rfl, -, -, -, brow8, -, -⟩ := row_of_owns o8
          have CV := conv_row (P := Tryz.prog) Tryz.underlying27 Tryz.underlying5 Tryz.underlying9 bc8 brow8 HBN.out
          have VR8 := hid (VR7H.out.below B8')
          have IM8 := VR8.out.imap (g := g) (D := Rn.data) (by simp)
          have xl7 := lt_of_blk HOB7.out
          have HOB8 := hid ((B8'.block xb xl7).trans HOB7.out)
          have HOK8 := hid (HOK7.out.below B8' (Nat.le_refl _))
          clear o8 B8' brow8
          go_wp2_with (first | (at_mapUpdate; refine wpList_mapUpdate_im rfl _ rfl _ _ _ 32 rfl 9 Tryz.underlying32 g 4096 _ rfl IM8 (by unfold maxLen; omega) id (.string (strOfNums bs)) rfl rfl (by omega) ?_) | fail)
          intro w9 IM9 G9
          rw [strM_set] at IM9
          have IM9s : IMap w9 g 4096 (strM fun k => if k = id then some bs else Rn.data k) := IM9.small (H := 4096) (fun x hx => by
            rw [strM_some] at hx
            by_cases e : x = id
            · omega
            · rw [if_neg e] at hx
              obtain ⟨yy, hyy⟩ := Option.isSome_iff_exists.1 hx
              have := VR8.out.okn.data.id x yy hyy
              omega)
          have VR9 := hid (VR8.out.wrote G9 IM9s)
          have xl8 := lt_of_blk HOB8.out
          have X9 := Ext.of_grown G9
          have ob9 := (X9.block xb xl8 (fun e => by have := Option.some.inj e; omega)).trans HOB8.out
          have l0 : w9.cell? ⟨xb, 0, none⟩ = some (.int .i64 y.what) := blk_cell ob9 rfl
          have l1 : w9.cell? ⟨xb, 1, none⟩ = some (.int .i64 y.id) := blk_cell ob9 rfl
          have l2 : w9.cell? ⟨xb, 2, none⟩ = some (.int .i64 y.n) := blk_cell ob9 rfl
          have l3 : w9.cell? ⟨xb, 3, none⟩ = some (.int .i64 y.torn) := blk_cell ob9 rfl
          have l4 : w9.cell? ⟨xb, 4, none⟩ = some (.int .i64 y.cut) := blk_cell ob9 rfl
          have l5 : w9.cell? ⟨xb, 5, none⟩ = some (.slice y.ba y.bl y.bc) := blk_cell ob9 rfl
          have l6 : w9.cell? ⟨xb, 6, none⟩ = some (.slice y.ka y.kl y.kc) := blk_cell ob9 rfl
          have OK9 : ActWOk w9 y := by
            have h9 := AXW.out w9 VR9.out.since
            have h8 := h9.ok i h1
            rw [HY.out] at h8
            exact h8
          have hbs := HBS.out
          have hbn := HBN.out
          clear IM8 IM9 G9 IM9s X9 ob9 VR7H VR8
          by_cases hout : id < 1 ∨ 40 < id
          · have HPC := hid (show putC Rn (homes n 34) false id bn = 1 from putC_out hout _)
            by_cases ho1 : id < 1
            · have o1 : decide (id < 1) = true := decide_eq_true ho1
              have BY := bytes6_any y _ OK9
              rw [hbs, hbn] at BY
              go_wp2_with fail
              refine BY.mono ?_
              rintro e w10 ⟨vb10, rfl, o10, B10⟩
              clear BY
              obtain ⟨ba10, bc10, rfl, -, -, -, brow10, -, hn10⟩ := row_of_owns o10
              have VR10 := hid (VR9.out.below B10)
              have PU := VR10.out.put id (by omega) ba10 bn bc10 bs brow10 hbn (by omega) hn10 HBB.out
              rw [HPC.out] at PU
              clear o10 B10 brow10 hn10
              go_wp2_with fail
              refine PU.mono ?_
              rintro e w11 ⟨rfl, VR11⟩
              have VR11H := hid VR11
              clear PU VR11
              go_wp2_with fail
              go_meet
              case rel => exact ⟨v, m1, m2, Rn, Rk, rfl, rfl, rfl, hid (by
                have h9 := VR11H.out
                rw [put_none (by rw [hbn, HPC.out]; decide)] at h9
                exact h9.off1.le (by omega))⟩
            · have o1 : decide (id < 1) = false := decide_eq_false ho1
              have o2 : decide (40 < id) = true := decide_eq_true (by omega)
              have BY := bytes6_any y _ OK9
              rw [hbs, hbn] at BY
              go_wp2_with fail
              refine BY.mono ?_
              rintro e w10 ⟨vb10, rfl, o10, B10⟩
              clear BY
              obtain ⟨ba10, bc10, rfl, -, -, -, brow10, -, hn10⟩ := row_of_owns o10
              have VR10 := hid (VR9.out.below B10)
              have PU := VR10.out.put id (by omega) ba10 bn bc10 bs brow10 hbn (by omega) hn10 HBB.out
              rw [HPC.out] at PU
              clear o10 B10 brow10 hn10
              go_wp2_with fail
              refine PU.mono ?_
              rintro e w11 ⟨rfl, VR11⟩
              have VR11H := hid VR11
              clear PU VR11
              go_wp2_with fail
              go_meet
              case rel => exact ⟨v, m1, m2, Rn, Rk, rfl, rfl, rfl, hid (by
                have h9 := VR11H.out
                rw [put_none (by rw [hbn, HPC.out]; decide)] at h9
                exact h9.off1.le (by omega))⟩
          · have o1 : decide (id < 1) = false := decide_eq_false (by omega)
            have o2 : decide (40 < id) = false := decide_eq_false (by omega)
            have SU := sum6_any (VR9.out.imap (g := g) (D := fun k => if k = id then some bs else Rn.data k) (by simp)) (fun x b hb => by
              by_cases e : x = id
              · rw [if_pos e] at hb
                obtain rfl := Option.some.inj hb
                omega
              · rw [if_neg e] at hb
                exact (VR9.out.okn.data.b x b hb).1)
            have TR := VR9.out.tracks
            have HPI := putC_in VR9.out.okn (id := id) (by omega) (b := bs) (by omega)
            rw [hbn] at HPI
            obtain ⟨t, ht⟩ : ∃ t, sumT (fun k => if k = id then some bs else Rn.data k) 40 = t := ⟨_, rfl⟩
            obtain ⟨H, hH⟩ : ∃ H, homes n 34 = H := ⟨_, rfl⟩
            rw [ht] at SU HPI
            rw [hH] at TR HPI
            have HHH := hid hH
            clear ht hH
            go_wp2_with fail
            refine SU.mono ?_
            rintro e wz ⟨rfl, rfl⟩
            clear SU
            go_wp2_with fail
            refine TR.mono ?_
            rintro e wz ⟨rfl, rfl⟩
            clear TR
            by_cases hf : H < t
            · rw [if_pos hf] at HPI
              have HPC := hid (show putC Rn (homes n 34) false id bn = 3 by rw [HHH.out]; exact HPI)
              have hd : decide ((H : Int) < (t : Int)) = true := decide_eq_true (by omega)
              clear HPI
              have BY := bytes6_any y _ OK9
              rw [hbs, hbn] at BY
              go_wp2_with fail
              refine BY.mono ?_
              rintro e w10 ⟨vb10, rfl, o10, B10⟩
              clear BY
              obtain ⟨ba10, bc10, rfl, -, -, -, brow10, -, hn10⟩ := row_of_owns o10
              have VR10 := hid (VR9.out.below B10)
              have PU := VR10.out.put id (by omega) ba10 bn bc10 bs brow10 hbn (by omega) hn10 HBB.out
              rw [HPC.out] at PU
              clear o10 B10 brow10 hn10
              go_wp2_with fail
              refine PU.mono ?_
              rintro e w11 ⟨rfl, VR11⟩
              have VR11H := hid VR11
              clear PU VR11
              go_wp2_with fail
              go_meet
              case rel => exact ⟨v, m1, m2, Rn, Rk, rfl, rfl, rfl, hid (by
                have h9 := VR11H.out
                rw [put_none (by rw [hbn, HPC.out]; decide)] at h9
                exact h9.off1.le (by omega))⟩
            · rw [if_neg hf] at HPI
              have HPC := hid (show putC Rn (homes n 34) false id bn = 0 by rw [HHH.out]; exact HPI)
              have hd : decide ((H : Int) < (t : Int)) = false := decide_eq_false (by omega)
              clear HPI
              have BY := bytes6_any y _ OK9
              rw [hbs, hbn] at BY
              go_wp2_with fail
              refine BY.mono ?_
              rintro e w10 ⟨vb10, rfl, o10, B10⟩
              clear BY
              obtain ⟨ba10, bc10, rfl, -, -, -, brow10, -, hn10⟩ := row_of_owns o10
              have VR10 := hid (VR9.out.below B10)
              have PU := VR10.out.put id (by omega) ba10 bn bc10 bs brow10 hbn (by omega) hn10 HBB.out
              rw [HPC.out] at PU
              clear o10 B10 brow10 hn10
              go_wp2_with fail
              refine PU.mono ?_
              rintro e w11 ⟨rfl, VR11⟩
              have VR11H := hid VR11
              clear PU VR11
              go_wp2_with fail
              go_meet
              case rel => exact ⟨v, g, m2, Rn.put id (bs, Rn.nextT id bs.length), Rk, rfl, rfl, rfl, hid (by
                have h9 := VR11H.out
                rw [put_some (by rw [hbn]; exact HPC.out)] at h9
                rw [put_data]
                exact h9.now1.le (by omega))⟩
        case rest =>
          obtain ⟨v', m1', m2', Rn', Rk', rfl, rfl, rfl, VR9⟩ := hcut
          have IS := VR9.out.is (g := m1') (D := Rn'.data) (by simp) VR9.out.okn.data
          rw [sameD_true (R := Rn') (D := Rn'.data) (fun _ => rfl)] at IS
          clear VRk VRx
          go_wp2_with fail
          refine IS.mono ?_
          rintro e w10 ⟨rfl, VR10⟩
          have LO := VR10.lost
          have VR10H := hid VR10
          clear IS VR10
          go_wp2_with fail
          refine LO.mono ?_
          rintro e w11 ⟨rfl, rfl⟩
          clear LO
          go_wp2_with fail
          go_roundw
          case measure => first | (simp [intOf]; done) | (simp [intOf]; omega)
          case rel => exact ⟨i + 1, v', m1', m2', Rn', Rk', rfl, rfl, rfl, by go_num, by omega, by omega, hid (VR10H.out.le (by omega))⟩
    · by_cases h1 : i < len0
      · obtain rfl : i = 30 := by omega
        have h3 : (30 : Int) < (len0 : Int) := by omega
        go_wp2_with fail
        go_ret
        exact ⟨rfl, HB1.out.trans (VRk.out.since.mono HB1.out.size)⟩
      · obtain rfl : i = len0 := by omega
        go_wp2_with fail
        go_ret
        exact ⟨rfl, HB1.out.trans (VRk.out.since.mono HB1.out.size)⟩

end Go.Proofs.YtleoelhhndeheaaGreat
