/- VaultUndoes: the walk -/
import Derived.Test.YtleoelhhndeheaaGreatVBes
import Derived.Test.YtleoelhhndeheaaGreatStepRow
import Derived.Deep.Cut
import Derived.Deep.CutBlock
import Derived.Deep.CutRange
import Derived.Deep.DeepCutAuto
open Go Go.RowKit
open Go.Maps (Keyed has)
namespace Go.Proofs.YtleoelhhndeheaaGreat

theorem putC_same {R : Rcs} {H : Nat} (ok : RcsOk R H) (h0 : 0 < H) (hH : H ≤ 4096) {id : Int} {x : List Int × List Int} (hx : R id = some x) : putC R H false id x.1.length = 0 := by
  have h1 := ok.id id x hx
  have h2 := ok.b id x hx
  have h3 := ok.len id x hx
  have h4 := used_le ok h0
  unfold putC
  rw [if_neg (by omega), if_neg (by simp), trks_of hx, if_neg (by omega)]

theorem turnedL_self (R : Rcs) : turnedL R R = [] := by
  unfold turnedL
  refine List.flatMap_eq_nil_iff.2 fun k _ => ?_
  unfold turnedE
  rw [if_pos rfl]
set_option maxRecDepth 100000 in
set_option maxHeartbeats 4000000 in
/-- a Keep of nothing is nothing -/
theorem keepSame {w : World} {M : Dom} {B C : Nat → Prop} {d l mb v n : Nat} {lv : Int} {N : Nat} {V : Nat → List Int} {s : DS} {L : LS} {R : Rcs} (h : VLive w M B C d l mb v n lv N V s L R R) :
    Calls Tryz.prog 17 #[.pointer (some ⟨v, 0, none⟩)] w fun e w' => e = .returned (.int .i64 0) ∧ Below w.heap.size w w' := by
  have HV := hid h
  have hH := h.hH
  have LO := lostV_any h.vs
  rw [h.lost] at LO
  have TU := turnedV_any h.vs ⟨hH.1, by omega⟩ h.okn h.okk
  obtain ⟨d1, t1, d2, t2, h2⟩ := h.vs.out
  obtain ⟨c0, c1, c2, c3, c4⟩ := h2.cells
  rw [turnedL_self] at TU
  clear h h2
  go_enter Tryz.func17, Tryz.ntmps17
  go_wp2_with fail
  refine LO.mono ?_
  rintro e w1 ⟨rfl, rfl⟩
  clear LO
  go_wp2_with fail
  refine TU.mono ?_
  rintro e w2 ⟨u, rfl, EO, B2⟩
  clear TU
  obtain ⟨a, c, rfl, EA, hlc⟩ := EO.out (N := inD M) (fun q hq _ => by
    rcases Nat.lt_or_ge q w.heap.size with h | h
    · exact h
    · exact absurd hq (HV.out.vs.free h))
  simp only [List.length_nil] at hlc ⊢
  go_wp2_with fail
  go_ret
  exact ⟨rfl, B2⟩

set_option maxRecDepth 100000 in
set_option maxHeartbeats 16000000 in
theorem vaultUndoes_any (a0 : Option Addr) (len0 cap0 : Nat) (X : Nat → ActW) (a1 : Option Addr) (len1 cap1 : Nat) (Y : Nat → ActW) (w : World) (hX : ActsW w a0 len0 X) (hY : ActsW w a1 len1 Y) :
    Calls Tryz.prog 8 #[.slice a0 len0 cap0, .slice a1 len1 cap1] w fun e w' => e = .returned (.bool true) ∧ Below w.heap.size w w' := by
  have HX := hid hX
  have HY := hid hY
  have hixA := fun i hi W => hX.ix cap0 i hi W
  have hixB := fun i hi W => hY.ix cap1 i hi W
  clear hX hY
  have hmm := @run_makeMap Tryz.prog
  obtain ⟨z, hz⟩ := zS
  have HZ := hid hz
  clear hz
  go_enter Tryz.func8, Tryz.ntmps8
  go_wp2_with fail
  refine (known6_any w).mono ?_
  rintro e w1 ⟨rfl, B1⟩
  have HB1 := hid B1
  clear B1
  go_wp2_with fail
  refine (found6_any 120 60 w1 (by omega) (by omega) (by decide) (by decide)).mono ?_
  rintro e w2 ⟨M, B, C, d, l, mb, v, s, L, V, rfl, VL, -, SI⟩
  have HVL := hid VL
  have HSI := hid SI
  clear VL SI
  go_wp2_with fail
  refine (known6_any w2).mono ?_
  rintro e w3 ⟨rfl, B3⟩
  have HVL3 := hid (HVL.out.below B3)
  have HSI3 := hid (HSI.out.to B3)
  clear B3 HVL HSI
  have eH : homes 120 60 = 58 := by decide
  obtain ⟨mw, hmw⟩ : ∃ mw, w3.heap.size = mw := ⟨_, rfl⟩
  have hmw1 : w1.heap.size ≤ mw := by rw [← hmw]; exact HSI3.out.below.size
  obtain ⟨W4, hW4⟩ : ∃ W4, w3.alloc (.map #[] 0) = W4 := ⟨_, rfl⟩
  have B4 : Below w3.heap.size w3 W4 := by rw [← hW4]; exact (Below.refl _ _).alloc (Nat.le_refl _) _
  have s4 : mw < W4.heap.size := by rw [← hW4, ← hmw]; simp
  have IM4 : Hid (IMap W4 mw 4096 (strM noRcs.data)) := hid (strM_small (RcsOk.none 5).data (by rw [← hW4, ← hmw]; exact IMap.made w3))
  have BE4 : Hid (Bes W4 (M.addX fun q => q = mw) B C mw) := hid (Bes.new HVL3.out.vs (Nat.le_of_eq hmw) s4)
  have VL4 : Hid (VLive W4 (M.addX fun q => q = mw) B C d l mb v 120 60 3 V s L noRcs noRcs) := hid (HVL3.out.otherG (F := fun _ => False) (Ext.of_below B4 _) (fun q hq => hq.elim) (fun q hq => hq.elim) (fun q hq => by subst hq; exact ⟨Nat.le_of_eq hmw, s4⟩))
  have SI4 : Hid (Since w1 W4 (M.addX fun q => q = mw) (fun q => B q ∨ C q)) := hid (HSI3.out.to B4).addX
  have AXW : Hid (∀ W, Below w1.heap.size w1 W → ActsW W a0 len0 X) := hid fun W hW => HX.out.below (HB1.out.trans (hW.mono HB1.out.size)) (Nat.le_refl _)
  have AYW : Hid (∀ W, Below w1.heap.size w1 W → ActsW W a1 len1 Y) := hid fun W hW => HY.out.below (HB1.out.trans (hW.mono HB1.out.size)) (Nat.le_refl _)
  obtain ⟨Mx, hMx⟩ : ∃ Mx, M.addX (fun q => q = mw) = Mx := ⟨_, rfl⟩
  rw [hMx] at BE4 VL4 SI4
  clear hMx B4 s4 HVL3 HSI3 HX HY
  go_upto_block 0 with fail
  go_cut [8] (fun _ W => ∃ R : Rcs, Hid (VLive W Mx B C d l mb v 120 60 3 V s L R noRcs) ∧ Hid (Bes W Mx B C mw) ∧ Hid (IMap W mw 4096 (strM R.data)) ∧ Hid (Since w1 W Mx (fun q => B q ∨ C q)))
  case first =>
    go_wp2_with fail
    go_loopg [8] 12 (fun q u8 wr => ∃ (i : Nat) (R : Rcs), Hid (12 - i = q) ∧ u8 = .int .i64 i ∧ i ≤ 12 ∧ i ≤ len0 ∧ Hid (VLive wr Mx B C d l mb v 120 60 3 V s L R noRcs) ∧ Hid (Bes wr Mx B C mw) ∧ Hid (IMap wr mw 4096 (strM R.data)) ∧ Hid (Since w1 wr Mx (fun q => B q ∨ C q)))
    case atStart => exact ⟨0, noRcs, hid rfl, rfl, by omega, Nat.zero_le _, VL4, BE4, IM4, SI4⟩
    case round =>
      obtain ⟨i, R, HQ, rfl, h12, hil, VLk, BEk, IMk, SIk⟩ := hrel
      by_cases hgo : i < len0 ∧ i < 12
      · obtain ⟨h1, h2⟩ := hgo
        have hixk := hixA i h1
        have AX := hid (AXW.out wr SIk.out.below)
        have c0 := AX.out.c0 i h1
        have c1 := AX.out.c1 i h1
        have c2 := AX.out.c2 i h1
        have c3 := AX.out.c3 i h1
        have c4 := AX.out.c4 i h1
        have c5 := AX.out.c5 i h1
        have c6 := AX.out.c6 i h1
        have OKX := AX.out.ok i h1
        obtain ⟨y, hy⟩ : ∃ y, X i = y := ⟨_, rfl⟩
        rw [hy] at c0 c1 c2 c3 c4 c5 c6 OKX
        have HY := hid hy
        have HOK := hid OKX
        have PK := pick_any y.id 9 wr OKX.b1 (by omega) (by omega)
        have BY := bytes6_any y wr OKX
        obtain ⟨p, hp⟩ : ∃ p, y.id % 9 = p := ⟨_, rfl⟩
        have hpb : 0 ≤ p ∧ p ≤ 8 := by omega
        rw [hp] at PK
        obtain ⟨bs, hbs⟩ : ∃ bs, bytesV y.id y.n y.bz = bs := ⟨_, rfl⟩
        have HBS := hid hbs
        have hbb : IsBytes bs := by rw [← hbs]; exact bytesV_bytes OKX.b.hbytes
        have hbl : bs.length ≤ 357 := by rw [← hbs]; exact bytesV_le _ _ _
        have HBB := hid hbb
        rw [hbs] at BY
        obtain ⟨bn, hbn⟩ : ∃ bn, bs.length = bn := ⟨_, rfl⟩
        have HBN := hid hbn
        rw [hbn] at BY hbl
        clear hy OKX hp hbs hbb hbn
        go_wp2_with fail
        refine PK.mono ?_
        rintro e w5 ⟨rfl, rfl⟩
        clear PK
        go_wp2_with fail
        refine BY.mono ?_
        rintro e w6 ⟨vb, rfl, o6, B6⟩
        clear BY
        obtain ⟨ba, bc, rfl, hbl2, -, -, brow, -, hbn0⟩ := row_of_owns o6
        have VL6 := hid (VLk.out.below B6)
        have BE6 := hid (BEk.out.below B6)
        have IM6 := hid (IMk.out.below B6 (Nat.le_refl _))
        have SI6 := hid (SIk.out.to B6)
        have PU := putU VL6.out (1 + p) (by omega) ba bn bc bs brow HBN.out (by omega) hbn0 HBB.out
        rw [HBN.out, eH] at PU
        obtain ⟨c, hc⟩ : ∃ c, putC R 58 false (1 + p) bn = c := ⟨_, rfl⟩
        rw [hc] at PU
        have HC := hid hc
        clear o6 B6 hbl2 brow hbn0 hc c0 c1 c2 c3 c4 c5 c6 AX
        go_wp2_with fail
        refine PU.mono ?_
        rintro e w7 ⟨rfl, VL7, T7⟩
        clear PU
        have BE7 := hid (BE6.out.lstep T7)
        have IM7 := hid (BE6.out.imap T7 IM6.out)
        have SI7 := hid (SI6.out.lstep T7)
        have VL7H := hid VL7
        clear VL7 T7
        by_cases hc0 : c = 0
        · subst hc0
          have hPT := hid (show R.putted 58 false (1 + p) bs = R.put (1 + p) (bs, R.nextT (1 + p) bs.length) from put_some (by rw [HBN.out]; exact HC.out))
          have AX := hid (AXW.out w7 SI7.out.below)
          have c0 := AX.out.c0 i h1
          have c1 := AX.out.c1 i h1
          have c2 := AX.out.c2 i h1
          have c3 := AX.out.c3 i h1
          have c4 := AX.out.c4 i h1
          have c5 := AX.out.c5 i h1
          have c6 := AX.out.c6 i h1
          have OKX := AX.out.ok i h1
          rw [HY.out] at c0 c1 c2 c3 c4 c5 c6 OKX
          have BY := bytes6_any y w7 OKX
          rw [HBS.out, HBN.out] at BY
          clear OKX
          go_wp2_with fail
          refine BY.mono ?_
          rintro e w8 ⟨vb8, rfl, o8, B8'⟩
          clear BY
          obtain ⟨ba8, bc8, rfl, -, -, -, brow8, -, -⟩ := row_of_owns o8
          have CV := conv_row (P := Tryz.prog) Tryz.underlying27 Tryz.underlying5 Tryz.underlying9 bc8 brow8 HBN.out
          have VL8 := hid (VL7H.out.below B8')
          have BE8 := hid (BE7.out.below B8')
          have IM8 := hid (IM7.out.below B8' (Nat.le_refl _))
          have SI8 := hid (SI7.out.to B8')
          clear o8 B8' brow8 c0 c1 c2 c3 c4 c5 c6 AX VL7H BE7 IM7 SI7
          go_wp2_with (first | (at_mapUpdate; refine wpList_mapUpdate_im rfl _ rfl _ _ _ 32 rfl 9 Tryz.underlying32 mw 4096 _ rfl IM8.out (by unfold maxLen; omega) (1 + p) (.string (strOfNums bs)) rfl rfl (by omega) ?_) | fail)
          intro w9 IM9 G9
          have VL9 := hid (VL8.out.beside BE8.out G9)
          have BE9 := hid (BE8.out.size (w' := w9) (Ext.of_grown G9).size)
          have SI9 := hid (SI8.out.beside hmw1 G9)
          have IM9H := hid IM9
          clear IM9 G9 VL8 BE8 SI8
          go_wp2_with fail
          go_roundg (12 - (i + 1))
          case measure => have := HQ.out; omega
          case rel =>
            refine ⟨i + 1, _, hid rfl, by go_num, by omega, by omega, VL9, BE9, hid (strM_small (n := 4096 + 1) VL9.out.okn.data ?_), SI9⟩
            rw [hPT.out, ← strM_put]
            exact IM9H.out
        · have hcz : (c == 0) = false := by simp [hc0]
          have hPT := hid (show R.putted 58 false (1 + p) bs = R from put_none (by rw [HBN.out, HC.out]; exact hc0))
          go_wp2_with fail
          go_roundg (12 - (i + 1))
          case measure => have := HQ.out; omega
          case rel => exact ⟨i + 1, R, hid rfl, by go_num, by omega, by omega, hid (by have h9 := VL7H.out; rw [hPT.out] at h9; exact h9), BE7, IM7, SI7⟩
      · by_cases h1 : i < len0
        · obtain rfl : i = 12 := by omega
          have h3 : (12 : Int) < (len0 : Int) := by omega
          go_wp2_with fail
          go_meet
          case rel => exact ⟨R, VLk, BEk, IMk, SIk⟩
        · obtain rfl : i = len0 := by omega
          go_wp2_with fail
          go_meet
          case rel => exact ⟨R, VLk, BEk, IMk, SIk⟩
  case rest =>
    obtain ⟨R, VLr, BEr, IMr, SIr⟩ := hcut
    have KE := keepU VLr.out (by omega)
    go_wp2_with fail
    refine KE.mono ?_
    rintro e w4 ⟨M4, B4', C4, mb4, s4, L4, V4, T4, hcase⟩
    have BE4' := hid (BEr.out.lstep T4)
    have IM4' := hid (BEr.out.imap T4 IMr.out)
    have SI4' := hid (SIr.out.lstep T4)
    have hcase2 : (e = .returned (.int .i64 0) ∧ Hid (VLive w4 M4 B4' C4 d l mb4 v 120 60 4 V4 s4 L4 R R)) ∨ (e = .returned (.int .i64 5) ∧ Hid (VLive w4 M4 B4' C4 d l mb4 v 120 60 4 V4 s4 L4 noRcs noRcs)) := by
      rcases hcase with ⟨-, rfl, -, -, h⟩ | ⟨-, rfl, h⟩ | ⟨-, rfl, h⟩
      · exact .inl ⟨rfl, hid (h.le (by omega))⟩
      · exact .inl ⟨rfl, hid h⟩
      · exact .inr ⟨rfl, hid h⟩
    clear KE hcase T4 VL4 IM4 BE4 SI4
    rcases hcase2 with ⟨rfl, VL5⟩ | ⟨rfl, VL5⟩
    · go_upto_block 2 with fail
      go_cut [11] (fun _ W => ∃ R' : Rcs, Hid (VLive W M4 B4' C4 d l mb4 v 120 60 4 V4 s4 L4 R' R) ∧ Hid (Bes W M4 B4' C4 mw) ∧ Hid (IMap W mw 4096 (strM R.data)) ∧ Hid (Since w1 W M4 (fun q => B4' q ∨ C4 q)))
      case first =>
        go_wp2_with fail
        go_loopg [11] 12 (fun q u11 wr => ∃ (i : Nat) (R' : Rcs), Hid (12 - i = q) ∧ u11 = .int .i64 i ∧ i ≤ 12 ∧ i ≤ len1 ∧ Hid (VLive wr M4 B4' C4 d l mb4 v 120 60 4 V4 s4 L4 R' R) ∧ Hid (Bes wr M4 B4' C4 mw) ∧ Hid (IMap wr mw 4096 (strM R.data)) ∧ Hid (Since w1 wr M4 (fun q => B4' q ∨ C4 q)))
        case atStart => exact ⟨0, R, hid rfl, rfl, by omega, Nat.zero_le _, VL5, BE4', IM4', SI4'⟩
        case round =>
          obtain ⟨i, R', HQ, rfl, h12, hil, VLk, BEk, IMk, SIk⟩ := hrel
          by_cases hgo : i < len1 ∧ i < 12
          · obtain ⟨h1, h2⟩ := hgo
            have hixk := hixB i h1
            have AX := hid (AYW.out wr SIk.out.below)
            have c0 := AX.out.c0 i h1
            have c1 := AX.out.c1 i h1
            have c2 := AX.out.c2 i h1
            have c3 := AX.out.c3 i h1
            have c4 := AX.out.c4 i h1
            have c5 := AX.out.c5 i h1
            have c6 := AX.out.c6 i h1
            have OKX := AX.out.ok i h1
            obtain ⟨y, hy⟩ : ∃ y, Y i = y := ⟨_, rfl⟩
            rw [hy] at c0 c1 c2 c3 c4 c5 c6 OKX
            have PK := pick_any y.id 9 wr OKX.b1 (by omega) (by omega)
            have BY := bytes6_any y wr OKX
            obtain ⟨p, hp⟩ : ∃ p, y.id % 9 = p := ⟨_, rfl⟩
            have hpb : 0 ≤ p ∧ p ≤ 8 := by omega
            rw [hp] at PK
            obtain ⟨bs, hbs⟩ : ∃ bs, bytesV y.id y.n y.bz = bs := ⟨_, rfl⟩
            have hbb : IsBytes bs := by rw [← hbs]; exact bytesV_bytes OKX.b.hbytes
            have hbl : bs.length ≤ 357 := by rw [← hbs]; exact bytesV_le _ _ _
            have HBB := hid hbb
            rw [hbs] at BY
            obtain ⟨bn, hbn⟩ : ∃ bn, bs.length = bn := ⟨_, rfl⟩
            have HBN := hid hbn
            rw [hbn] at BY hbl
            obtain ⟨xw, hxw⟩ : ∃ xw, y.what = xw := ⟨_, rfl⟩
            have hwb : -9223372036854775808 ≤ xw ∧ xw ≤ 9223372036854775807 := by rw [← hxw]; exact OKX.b0
            rw [hxw] at c0 BY
            clear hy OKX hp hbs hbb hbn hxw
            go_wp2_with fail
            refine PK.mono ?_
            rintro e w5 ⟨rfl, rfl⟩
            clear PK
            by_cases h3 : xw.tmod 3 = 0
            · have DR := dropU VLk.out (1 + p) (by omega)
              clear BY
              go_wp2_with fail
              refine DR.mono ?_
              rintro e w7 ⟨rfl, VL7, T7⟩
              have VL7H := hid VL7
              have BE7 := hid (BEk.out.lstep T7)
              have IM7 := hid (BEk.out.imap T7 IMk.out)
              have SI7 := hid (SIk.out.lstep T7)
              clear DR VL7 T7
              go_wp2_with fail
              go_roundg (12 - (i + 1))
              case measure => have := HQ.out; omega
              case rel => exact ⟨i + 1, _, hid rfl, by go_num, by omega, by omega, VL7H, BE7, IM7, SI7⟩
            · go_wp2_with fail
              refine BY.mono ?_
              rintro e w6 ⟨vb, rfl, o6, B6⟩
              clear BY
              obtain ⟨ba, bc, rfl, hbl2, -, -, brow, -, hbn0⟩ := row_of_owns o6
              have VL6 := hid (VLk.out.below B6)
              have BE6 := hid (BEk.out.below B6)
              have IM6 := hid (IMk.out.below B6 (Nat.le_refl _))
              have SI6 := hid (SIk.out.to B6)
              have PU := putU VL6.out (1 + p) (by omega) ba bn bc bs brow HBN.out (by omega) hbn0 HBB.out
              clear o6 B6 hbl2 brow hbn0 c0 c1 c2 c3 c4 c5 c6 AX
              go_wp2_with fail
              refine PU.mono ?_
              rintro e w7 ⟨rfl, VL7, T7⟩
              clear PU
              have BE7 := hid (BE6.out.lstep T7)
              have IM7 := hid (BE6.out.imap T7 IM6.out)
              have SI7 := hid (SI6.out.lstep T7)
              have VL7H := hid VL7
              clear VL7 T7
              go_wp2_with fail
              go_roundg (12 - (i + 1))
              case measure => have := HQ.out; omega
              case rel => exact ⟨i + 1, _, hid rfl, by go_num, by omega, by omega, VL7H, BE7, IM7, SI7⟩
          · by_cases h1 : i < len1
            · obtain rfl : i = 12 := by omega
              have h3 : (12 : Int) < (len1 : Int) := by omega
              go_wp2_with fail
              go_meet
              case rel => exact ⟨R', VLk, BEk, IMk, SIk⟩
            · obtain rfl : i = len1 := by omega
              go_wp2_with fail
              go_meet
              case rel => exact ⟨R', VLk, BEk, IMk, SIk⟩
      case rest =>
        obtain ⟨R', VL6, BE6, IM6, SI6⟩ := hcut
        have UN := undoU VL6.out
        clear VL5 BE4' IM4' SI4'
        go_wp2_with fail
        refine UN.mono ?_
        rintro e w7 ⟨rfl, M7, C7, VL7, T7⟩
        have BE7 := hid (BE6.out.lstep T7)
        have IM7 := hid (BE6.out.imap T7 IM6.out)
        have SI7 := hid (SI6.out.lstep T7)
        have IS := isU VL7 IM7.out VL7.okn.data
        rw [sameD_true (R := R) (D := R.data) (fun _ => rfl)] at IS
        have VL7H := hid VL7
        have HS := hid (sameD_true (R := R) (D := R.data) (fun _ => rfl))
        clear UN VL7 T7
        go_wp2_with fail
        refine IS.mono ?_
        rintro e w8 ⟨rfl, B8'⟩
        have VL8 := hid (VL7H.out.below B8')
        have BE8 := hid (BE7.out.below B8')
        have IM8 := hid (IM7.out.below B8' (Nat.le_refl _))
        have SI8 := hid (SI7.out.to B8')
        clear IS B8' VL7H BE7 IM7 SI7
        have TN := turns_any VL8.out.vs.sys.drum
        obtain ⟨tn, htn⟩ : ∃ tn, s4.turns = tn := ⟨_, rfl⟩
        have HTN := hid htn
        rw [htn] at TN
        clear htn
        go_wp2_with fail
        refine TN.mono ?_
        rintro e w9 ⟨rfl, rfl⟩
        clear TN
        go_wp2_with fail
        go_loopw [14] (fun u14 wr => ∃ k : Nat, u14 = .int .i64 ((k : Int) + 1) ∧ k ≤ 9 ∧ Hid (VLive wr M7 B4' C7 d l mb4 v 120 60 4 V4 s4 L4 R R) ∧ Hid (Bes wr M7 B4' C7 mw) ∧ Hid (IMap wr mw 4096 (strM R.data)) ∧ Hid (Since w1 wr M7 (fun q => B4' q ∨ C7 q))) (fun u14 _ => 11 - (intOf u14).toNat)
        case atStart => exact ⟨0, rfl, by omega, VL8, BE8, IM8, SI8⟩
        case round =>
          obtain ⟨k, rfl, hk9, VLk, BEk, IMk, SIk⟩ := hrel
          by_cases hk : k < 9
          · have lk := IMk.out.look_ok Tryz.underlying32 (HZ.out wr) (x := (k : Int) + 1) (by omega)
            cases hR : R ((k : Int) + 1) with
            | none =>
              rw [show strM R.data ((k : Int) + 1) = none by unfold strM Rcs.data; rw [hR]; rfl] at lk
              clear hR
              go_wp2_with fail
              go_roundw
              case measure => first | (simp [intOf]; done) | (simp [intOf]; omega)
              case rel => exact ⟨k + 1, by go_num, by omega, VLk, BEk, IMk, SIk⟩
            | some x =>
              rw [show strM R.data ((k : Int) + 1) = some (.string (strOfNums x.1)) by unfold strM Rcs.data; rw [hR]; rfl] at lk
              obtain ⟨cc, w9, cv, row9, B9⟩ := conv_text wr (VLk.out.okn.b _ x hR).2
              have hx6 := (VLk.out.okn.b _ x hR).1
              have PU := putU (VLk.out.below B9) ((k : Int) + 1) (by omega) (some ⟨wr.heap.size, 0, none⟩) x.1.length cc x.1 row9 rfl (by omega) (fun h => by cases h) (VLk.out.okn.b _ x hR).2
              rw [eH, putC_same (by have h9 := VLk.out.okn; rw [eH] at h9; exact h9) (by omega) (by omega) hR, putted_same (by have h9 := VLk.out.okn; rw [eH] at h9; exact h9) (l := x.2) hR] at PU
              have BE9 := hid (BEk.out.below B9)
              have IM9 := hid (IMk.out.below B9 (Nat.le_refl _))
              have SI9 := hid (SIk.out.to B9)
              obtain ⟨xl, hxl⟩ : ∃ xl, x.1.length = xl := ⟨_, rfl⟩
              rw [hxl] at cv PU hx6
              clear row9 B9 hR hxl
              go_wp2_with fail
              refine PU.mono ?_
              rintro e w10 ⟨rfl, VL10, T10⟩
              have VLH := hid VL10
              have BE10 := hid (BE9.out.lstep T10)
              have IM10 := hid (BE9.out.imap T10 IM9.out)
              have SI10 := hid (SI9.out.lstep T10)
              clear PU VL10 T10
              go_wp2_with fail
              go_roundw
              case measure => first | (simp [intOf]; done) | (simp [intOf]; omega)
              case rel => exact ⟨k + 1, by go_num, by omega, VLH, BE10, IM10, SI10⟩
          · obtain rfl : k = 9 := by omega
            have KE := keepSame VLk.out
            go_wp2_with fail
            refine KE.mono ?_
            rintro e w10 ⟨rfl, B10⟩
            have IM10 := hid (IMk.out.below B10 (Nat.le_refl _))
            have SI10 := hid (SIk.out.to B10)
            have VL11 := hid (VLk.out.below B10)
            have TN := turns_any VL11.out.vs.sys.drum
            rw [HTN.out] at TN
            have IS := isU VL11.out IM10.out VL11.out.okn.data
            rw [HS.out] at IS
            clear KE B10
            go_wp2_with fail
            refine TN.mono ?_
            rintro e w11 ⟨rfl, rfl⟩
            clear TN
            go_wp2_with fail
            refine IS.mono ?_
            rintro e w12 ⟨rfl, B12⟩
            have SI12 := hid (SI10.out.to B12)
            clear IS B12
            go_wp2_with fail
            go_ret
            exact ⟨rfl, HB1.out.trans (SI12.out.below.mono HB1.out.size)⟩
    · obtain ⟨W6, hW6⟩ : ∃ W6, w4.alloc (.map #[] 0) = W6 := ⟨_, rfl⟩
      have B6 : Below w4.heap.size w4 W6 := by rw [← hW6]; exact (Below.refl _ _).alloc (Nat.le_refl _) _
      have IM6 : IMap W6 w4.heap.size 0 (strM noRcs.data) := by rw [← hW6]; exact IMap.made w4
      have IS := isU (VL5.out.below B6) IM6 (RcsOk.none 5).data
      rw [sameD_true (R := noRcs) (D := noRcs.data) (fun _ => rfl)] at IS
      have SI6 := hid (SI4'.out.to B6)
      clear B6 IM6
      go_wp2_with fail
      refine IS.mono ?_
      rintro e w7 ⟨rfl, B7⟩
      have SI7 := hid (SI6.out.to B7)
      clear IS B7
      go_wp2_with fail
      go_ret
      exact ⟨rfl, HB1.out.trans (SI7.out.below.mono HB1.out.size)⟩

end Go.Proofs.YtleoelhhndeheaaGreat
