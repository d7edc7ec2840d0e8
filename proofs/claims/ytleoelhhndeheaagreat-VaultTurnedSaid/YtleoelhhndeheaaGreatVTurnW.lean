/- VaultTurned: the walk -/
import Derived.Test.YtleoelhhndeheaaGreatVTurnB
import Derived.Test.YtleoelhhndeheaaGreatVRawC
import Derived.Deep.Cut
import Derived.Deep.CutBlock
import Derived.Deep.CutRange
import Derived.Deep.DeepCutAuto
open Go Go.RowKit
open Go.Maps (Keyed has)
namespace Go.Proofs.YtleoelhhndeheaaGreat

set_option maxRecDepth 100000 in
set_option maxHeartbeats 16000000 in
theorem vaultTurned_any (a0 : Option Addr) (len0 cap0 : Nat) (X : Nat → ActW) (x1 x2 : Int) (a3 : Option Addr) (len3 cap3 : Nat) (bs3 : List Int) (again : Bool) (w : World) (hX : ActsW w a0 len0 X) (hx1 : -9223372036854775808 ≤ x1 ∧ x1 ≤ 9223372036854775807) (hx2 : -9223372036854775808 ≤ x2 ∧ x2 ≤ 9223372036854775807) (hB : ByteIn w a3 len3 cap3 bs3) :
    Calls Tryz.prog 4 #[.slice a0 len0 cap0, .int .i64 x1, .int .i64 x2, .slice a3 len3 cap3, .bool again] w fun e w' => e = .returned (.bool true) ∧ Below w.heap.size w w' := by
  have hixA := fun i hi W => hX.ix cap0 i hi W
  have hixB := fun i hi W => hB.ix i hi W
  have HX := hid hX
  have HB := hid hB
  have hmm := @run_makeMap Tryz.prog
  obtain ⟨p1, hp1⟩ : ∃ p, x1 % 70 = p := ⟨_, rfl⟩
  have hp1b : 0 ≤ p1 ∧ p1 ≤ 69 := by omega
  have PK1 := fun W => pick_any x1 70 W hx1 (by omega) (by omega)
  rw [hp1] at PK1
  obtain ⟨off, hof⟩ : ∃ o : Nat, x2 % 96 = (o : Int) := ⟨(x2 % 96).toNat, by omega⟩
  have hofb : off < 96 := by omega
  have PK2 := fun W => pick_any x2 96 W hx2 (by omega) (by omega)
  rw [hof] at PK2
  clear hX hB hp1 hof
  go_enter Tryz.func4, Tryz.ntmps4
  go_wp2_with fail
  refine (known6_any w).mono ?_
  rintro e w1 ⟨rfl, B1⟩
  have HB1 := hid B1
  clear B1
  go_wp2_with fail
  refine (VRun.found 70 30 w1 (by omega) (by omega) (by decide) (by decide)).mono ?_
  rintro e w2 ⟨d, v, rfl, VR⟩
  have VR2 := hid VR
  clear VR
  go_wp2_with fail
  refine (known6_any w2).mono ?_
  rintro e w3 ⟨rfl, B3⟩
  have VR3 := hid (VR2.out.below B3)
  clear B3 VR2
  obtain ⟨m1, hm1⟩ : ∃ m, w3.heap.size = m := ⟨_, rfl⟩
  obtain ⟨W4, hW4⟩ : ∃ W4, w3.alloc (.map #[] 0) = W4 := ⟨_, rfl⟩
  have VR4 : Hid (VRun w1 W4 d 70 30 3 v noRcs noRcs [(m1, noRcs.data)]) := hid (VR3.out.new (by rw [← hW4]; exact (Below.refl _ _).alloc (Nat.le_refl _) _) ⟨Nat.le_of_eq hm1, by rw [← hW4, ← hm1]; simp⟩ (strM_small (n := 0) (RcsOk.none 5).data (by rw [← hW4, ← hm1]; exact IMap.made w3)))
  have INA : Hid (∀ W, Below w1.heap.size w1 W → ActsW W a0 len0 X) := hid fun W hW => HX.out.below (HB1.out.trans (hW.mono HB1.out.size)) (Nat.le_refl _)
  have INB : Hid (∀ W, Below w1.heap.size w1 W → ByteIn W a3 len3 cap3 bs3) := hid fun W hW => HB.out.below (HB1.out.trans (hW.mono HB1.out.size)) (Nat.le_refl _)
  clear HX HB VR3
  go_upto_block 0 with fail
  go_cut [14] (fun _ W => ∃ (Rn Rk : Rcs), Hid (VRun w1 W d 70 30 17 v Rn Rk [(m1, Rn.data)]))
  case first =>
    go_wp2_with fail
    go_loopg [14] 14 (fun q u14 wr => ∃ (i : Nat) (Rn Rk : Rcs), Hid (14 - i = q) ∧ u14 = .int .i64 i ∧ i ≤ 14 ∧ i ≤ len0 ∧ Hid (VRun w1 wr d 70 30 (3 + i) v Rn Rk [(m1, Rn.data)]))
    case atStart => exact ⟨0, noRcs, noRcs, hid rfl, rfl, by omega, Nat.zero_le _, VR4⟩
    case round =>
      clear VR4 hW4 hm1
      obtain ⟨i, Rn, Rk, HQ, rfl, h14, hil, VRk⟩ := hrel
      by_cases hgo : i < len0 ∧ i < 14
      · obtain ⟨h1, h2⟩ := hgo
        have hixk := hixA i h1
        have AX := hid (INA.out wr VRk.out.since)
        have c0 := AX.out.c0 i h1
        have c1 := AX.out.c1 i h1
        have c2 := AX.out.c2 i h1
        have c3 := AX.out.c3 i h1
        have c4 := AX.out.c4 i h1
        have c5 := AX.out.c5 i h1
        have c6 := AX.out.c6 i h1
        have OKX := AX.out.ok i h1
        obtain ⟨y, hy⟩ : ∃ y, X i = y := ⟨_, rfl⟩
        rw [hy] at c0 c1 c2 c3 c4 c5 c6 OKX
        have HY := hid hy
        have HOK := hid OKX
        have PK := pick_any y.id 7 wr OKX.b1 (by omega) (by omega)
        have BY := bytes6_any y wr OKX
        obtain ⟨p, hp⟩ : ∃ p, y.id % 7 = p := ⟨_, rfl⟩
        have hpb : 0 ≤ p ∧ p ≤ 6 := by omega
        rw [hp] at PK
        obtain ⟨bs, hbs⟩ : ∃ bs, bytesV y.id y.n y.bz = bs := ⟨_, rfl⟩
        have HBS := hid hbs
        have hbb : IsBytes bs := by rw [← hbs]; exact bytesV_bytes OKX.b.hbytes
        have hbl : bs.length ≤ 357 := by rw [← hbs]; exact bytesV_le _ _ _
        have HBB := hid hbb
        rw [hbs] at BY
        obtain ⟨bn, hbn⟩ : ∃ bn, bs.length = bn := ⟨_, rfl⟩
        have HBN := hid hbn
        rw [hbn] at BY hbl
        clear hy OKX hp hbs hbb hbn
        go_wp2_with fail
        refine PK.mono ?_
        rintro e w5 ⟨rfl, rfl⟩
        clear PK
        go_wp2_with fail
        refine BY.mono ?_
        rintro e w6 ⟨vb, rfl, o6, B6⟩
        clear BY
        obtain ⟨ba, bc, rfl, hbl2, -, -, brow, -, hbn0⟩ := row_of_owns o6
        have VR6 := hid (VRk.out.below B6)
        have PU := VR6.out.put (1 + p) (by omega) ba bn bc bs brow HBN.out (by omega) hbn0 HBB.out
        obtain ⟨c, hc⟩ : ∃ c, putC Rn (homes 70 30) false (1 + p) bn = c := ⟨_, rfl⟩
        rw [hc] at PU
        have HC := hid hc
        clear o6 B6 hbl2 brow hbn0 hc c0 c1 c2 c3 c4 c5 c6 AX VRk
        go_wp2_with fail
        refine PU.mono ?_
        rintro e w7 ⟨rfl, VR⟩
        have VR7 := hid VR
        clear PU VR VR6
        go_upto_if 68 with fail
        go_cut [] (fun W => ∃ Rn', Hid (VRun w1 W d 70 30 (3 + i) v Rn' Rk [(m1, Rn'.data)]))
        case first =>
          by_cases hc0 : c = 0
          · subst hc0
            have hPT := hid (show Rn.putted (homes 70 30) false (1 + p) bs = Rn.put (1 + p) (bs, Rn.nextT (1 + p) bs.length) from put_some (by rw [HBN.out]; exact HC.out))
            have AX := hid (INA.out w7 VR7.out.since)
            have c0 := AX.out.c0 i h1
            have c1 := AX.out.c1 i h1
            have c2 := AX.out.c2 i h1
            have c3 := AX.out.c3 i h1
            have c4 := AX.out.c4 i h1
            have c5 := AX.out.c5 i h1
            have c6 := AX.out.c6 i h1
            have OKX := AX.out.ok i h1
            rw [HY.out] at c0 c1 c2 c3 c4 c5 c6 OKX
            have BY := bytes6_any y w7 OKX
            rw [HBS.out, HBN.out] at BY
            clear OKX
            go_wp2_with fail
            refine BY.mono ?_
            rintro e w8 ⟨vb8, rfl, o8, B8'⟩
            clear BY
            obtain ⟨ba8, bc8, rfl, -, -, -, brow8, -, -⟩ := row_of_owns o8
            have CV := conv_row (P := Tryz.prog) Tryz.underlying27 Tryz.underlying5 Tryz.underlying9 bc8 brow8 HBN.out
            have VR8 := hid (VR7.out.below B8')
            have IM8 := hid (VR8.out.imap (g := m1) (D := Rn.data) List.mem_cons_self)
            clear o8 B8' brow8 c0 c1 c2 c3 c4 c5 c6 AX VR7
            go_wp2_with (first | (at_mapUpdate; refine wpList_mapUpdate_im rfl _ rfl _ _ _ 32 rfl 9 Tryz.underlying32 m1 4096 _ rfl IM8.out (by unfold maxLen; omega) (1 + p) (.string (strOfNums bs)) rfl rfl (by omega) ?_) | fail)
            intro w9 IM9 G9
            have VR9 := hid (VR8.out.wrote (D' := (Rn.putted (homes 70 30) false (1 + p) bs).data) G9 (strM_small (n := 4096 + 1) VR8.out.okn.data (by rw [hPT.out, ← strM_put]; exact IM9)))
            clear IM9 G9 VR8 IM8
            go_wp2_with fail
            go_meet
            case rel => exact ⟨_, VR9⟩
          · have hcz : (c == 0) = false := by simp [hc0]
            have hPT := hid (show Rn.putted (homes 70 30) false (1 + p) bs = Rn from put_none (by rw [HBN.out, HC.out]; exact hc0))
            go_wp2_with fail
            go_meet
            case rel => exact ⟨Rn, hid (by have h9 := VR7.out; rw [hPT.out] at h9; exact h9)⟩
        case rest =>
          clear VR7
          obtain ⟨Rn', VR9⟩ := hcut
          have AX := hid (INA.out wc VR9.out.since)
          have c0 := AX.out.c0 i h1
          rw [HY.out] at c0
          have hyb : -9223372036854775808 ≤ y.what ∧ y.what ≤ 9223372036854775807 := HOK.out.b0
          have KE := VR9.out.keep (by omega)
          by_cases h3 : y.what.tmod 3 = 0
          · go_wp2_with fail
            refine KE.mono ?_
            rintro e w10 (⟨rfl, VR⟩ | ⟨rfl, VR⟩)
            · have VR10 := hid VR
              clear KE VR VR9
              go_wp2_with fail
              go_roundg (14 - (i + 1))
              case measure => have := HQ.out; omega
              case rel => exact ⟨i + 1, Rn', Rn', hid rfl, by go_num, by omega, by omega, VR10⟩
            · have VR10 := hid VR
              clear KE VR VR9
              go_wp2_with fail
              go_ret
              exact ⟨rfl, HB1.out.trans (VR10.out.since.mono HB1.out.size)⟩
          · go_wp2_with fail
            go_roundg (14 - (i + 1))
            case measure => have := HQ.out; omega
            case rel => exact ⟨i + 1, Rn', Rk, hid rfl, by go_num, by omega, by omega, hid (VR9.out.le (by omega))⟩
      · by_cases h1 : i < len0
        · obtain rfl : i = 14 := by omega
          have h3 : (14 : Int) < (len0 : Int) := by omega
          go_wp2_with fail
          go_meet
          case rel => exact ⟨Rn, Rk, VRk⟩
        · obtain rfl : i = len0 := by omega
          go_wp2_with fail
          go_meet
          case rel => exact ⟨Rn, Rk, hid (VRk.out.le (by omega))⟩
  case rest =>
    clear VR4 hW4 hm1 INA hixA
    obtain ⟨Rn, Rk, VRk⟩ := hcut
    have KE := VRk.out.keep (by omega)
    go_wp2_with fail
    refine KE.mono ?_
    rintro e w4 (⟨rfl, VR⟩ | ⟨rfl, VR⟩)
    · have VR4 := hid VR
      clear KE VR VRk
      go_upto_if 96 with fail
      go_cut [11] (fun u11 W => ∃ v' : Nat, u11 = .pointer (some ⟨v', 0, none⟩) ∧ Hid (VRun w1 W d 70 30 19 v' Rn Rn [(m1, Rn.data)]))
      case first =>
        cases again with
        | true =>
          have RO := VR4.out.reopen (by omega)
          go_wp2_with fail
          refine RO.mono ?_
          rintro e w5 ⟨v5, rfl, VR⟩
          have VR5 := hid VR
          clear RO VR VR4
          go_wp2_with fail
          go_meet
          case rel => exact ⟨v5, rfl, VR5⟩
        | false =>
          go_wp2_with fail
          go_meet
          case rel => exact ⟨v, rfl, hid (VR4.out.le (by omega))⟩
      case rest =>
        clear VR4
        obtain ⟨v', rfl, VR5⟩ := hcut
        have DOK := hid VR5.out.okn.data
        have CL := VR5.out.closeT (by omega)
        go_wp2_with fail
        refine CL.mono ?_
        rintro e w6 ⟨rfl, M, s, r, P, V, TD⟩
        have TD6 := hid TD
        clear CL TD VR5
        go_wp2_with fail
        refine (PK1 w6).mono ?_
        rintro e w7 ⟨rfl, rfl⟩
        have LO := TD6.out.look p1 ⟨by omega, by omega⟩
        go_wp2_with fail
        refine LO.mono ?_
        rintro e w7 ⟨g, c, rfl, hg, BU, B7⟩
        have BU7 := hid BU
        have B7H := hid B7
        clear LO BU B7
        go_upto_block 2 with fail
        go_cut [22] (fun _ W => ∃ zs, Hid (BufAt W g zs) ∧ Hid (Below w6.heap.size w6 W) ∧ Hid (∀ j, j < 96 → (j < off ∨ off + 4 ≤ j) → zb zs j = zb (s.now p1.toNat) j))
        case first =>
          go_wp2_with fail
          go_loopg [22] 4 (fun q u22 wr => ∃ (i : Nat) (zs : List Int), Hid (4 - i = q) ∧ u22 = .int .i64 i ∧ i ≤ 4 ∧ i ≤ len3 ∧ Hid (BufAt wr g zs) ∧ Hid (Below w6.heap.size w6 wr) ∧ Hid (∀ j, j < 96 → (j < off ∨ off + 4 ≤ j) → zb zs j = zb (s.now p1.toNat) j))
          case atStart => exact ⟨0, _, hid rfl, rfl, by omega, Nat.zero_le _, BU7, B7H, hid (fun _ _ _ => rfl)⟩
          case round =>
            clear BU7 B7H
            obtain ⟨i, zs, HQ, rfl, h4, hil, BUk, Bk, HS⟩ := hrel
            by_cases hgo : i < len3 ∧ i < 4
            · obtain ⟨h1, h2⟩ := hgo
              have hixk := hixB i h1
              have S6 := hid (TD6.out.since.below.trans (Bk.out.mono TD6.out.since.below.size))
              have cy := (INB.out wr S6.out).cell h1
              have zb2 := zb_bd (INB.out wr S6.out).hbytes i
              have PK := PK2 wr
              go_wp2_with fail
              refine PK.mono ?_
              rintro e w8 ⟨rfl, rfl⟩
              clear PK
              by_cases hk : off + i < 96
              · have hki : (off : Int) + (i : Int) < 96 := by omega
                have cb := BUk.out.cell hk
                have fz := fun o => BUk.out.free o
                have lg := BUk.out.lt
                obtain ⟨kq, hkq⟩ : ∃ kq : Nat, off + i = kq := ⟨_, rfl⟩
                have hkqi : (off : Int) + (i : Int) = (kq : Int) := by omega
                rw [hkq] at cb hk
                have BUS := hid (BUk.out.set kq zb2)
                have BST := hid (show Below w6.heap.size w6 (wr.setCell ⟨g, kq, none⟩ (.int .u8 (zb bs3 i))) from Below.ext Bk.out Ext.set (fun q hq => by subst hq; exact hg) Bk.out.size)
                have HS' := hid (show ∀ j, j < 96 → (j < off ∨ off + 4 ≤ j) → zb (zs.set kq (zb bs3 i)) j = zb (s.now p1.toNat) j from fun j hj h => by
                  rw [zb_set_ne (by omega)]
                  exact HS.out j hj h)
                clear hkq
                go_wp2_with fail
                go_roundg (4 - (i + 1))
                case measure => have := HQ.out; omega
                case rel => exact ⟨i + 1, _, hid rfl, by go_num, by omega, by omega, BUS, BST, HS'⟩
              · have hki : decide ((off : Int) + (i : Int) < 96) = false := decide_eq_false (by omega)
                go_wp2_with fail
                go_roundg (4 - (i + 1))
                case measure => have := HQ.out; omega
                case rel => exact ⟨i + 1, zs, hid rfl, by go_num, by omega, by omega, BUk, Bk, HS⟩
            · by_cases h1 : i < len3
              · obtain rfl : i = 4 := by omega
                have h3 : (4 : Int) < (len3 : Int) := by omega
                go_wp2_with fail
                go_meet
                case rel => exact ⟨zs, BUk, Bk, HS⟩
              · obtain rfl : i = len3 := by omega
                go_wp2_with fail
                go_meet
                case rel => exact ⟨zs, BUk, Bk, HS⟩
        case rest =>
          clear BU7 B7H
          obtain ⟨zs, BU8, B8H, HS⟩ := hcut
          have LA := fun c => TD6.out.lay (c := c) B8H.out p1 ⟨by omega, by omega⟩ hg BU8.out HS.out
          go_wp2_with fail
          refine (LA _).mono ?_
          rintro e w9 ⟨rfl, M9, s9, TE⟩
          have TE9 := hid TE
          clear LA TE TD6
          have SE := TE9.out.settle
          go_wp2_with fail
          refine SE.mono ?_
          rintro e w10 ⟨rfl, M10, s10, TE⟩
          have TE10 := hid TE
          clear SE TE TE9
          have OP := TE10.out.opened ⟨by omega, by omega⟩
          go_wp2_with fail
          refine OP.mono ?_
          rintro e w11 (⟨rfl, B11⟩ | ⟨v11, H, rfl, VG, IM⟩)
          · have B11H := hid B11
            clear OP B11
            go_wp2_with fail
            go_ret
            exact ⟨rfl, HB1.out.trans (B11H.out.mono HB1.out.size)⟩
          · have IS := VG.is IM DOK.out (fun _ => rfl)
            clear OP VG IM
            go_wp2_with fail
            refine IS.mono ?_
            rintro e w12 ⟨rfl, B12⟩
            have B12H := hid B12
            clear IS B12
            go_wp2_with fail
            go_ret
            exact ⟨rfl, HB1.out.trans (B12H.out.mono HB1.out.size)⟩
    · have VR4 := hid VR
      clear KE VR VRk
      go_wp2_with fail
      go_ret
      exact ⟨rfl, HB1.out.trans (VR4.out.since.mono HB1.out.size)⟩

end Go.Proofs.YtleoelhhndeheaaGreat
