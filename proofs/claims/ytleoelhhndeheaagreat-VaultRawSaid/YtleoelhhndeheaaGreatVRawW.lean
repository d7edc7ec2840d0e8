/- VaultRaw: the walk -/
import Derived.Test.YtleoelhhndeheaaGreatVRawB
import Derived.Test.YtleoelhhndeheaaGreatVRawC
import Derived.Deep.Cut
import Derived.Deep.CutBlock
import Derived.Deep.CutRange
import Derived.Deep.DeepCutAuto
import Derived.Deep.QuietTactic
import Derived.BigQuiet
import Derived.StillTailTactics
import Derived.Deep.RegionHeld3
open Go Go.RowKit
open Go.Maps (Keyed has)
namespace Go.Proofs.YtleoelhhndeheaaGreat

theorem xor_byte {x y : Int} (hx : 0 ≤ x ∧ x ≤ 255) (hy : 0 ≤ y ∧ y ≤ 255) : ∃ z, bits .xor .u8 x y = z ∧ 0 ≤ z ∧ z ≤ 255 := by
  refine ⟨_, u8_xor x y hx.1 (by omega) hy.1 (by omega), by omega, ?_⟩
  have := Nat.xor_lt_two_pow (n := 8) (show x.toNat < 2 ^ 8 by omega) (show y.toNat < 2 ^ 8 by omega)
  omega

set_option maxRecDepth 100000 in
set_option maxHeartbeats 16000000 in
theorem vaultRaw_any (a0 : Option Addr) (len0 cap0 : Nat) (X : Nat → ActW) (a1 : Option Addr) (len1 cap1 : Nat) (zs1 : List Int) (a2 : Option Addr) (len2 cap2 : Nat) (bs2 : List Int) (a3 : Option Addr) (len3 cap3 : Nat) (Y : Nat → ByteV) (w : World) (hX : ActsW w a0 len0 X) (hI : Ints w a1 len1 zs1) (hB : ByteIn w a2 len2 cap2 bs2) (hY : BRows w a3 len3 Y) :
    Calls Tryz.prog 5 #[.slice a0 len0 cap0, .slice a1 len1 cap1, .slice a2 len2 cap2, .slice a3 len3 cap3] w fun e w' => e = .returned (.bool true) ∧ Below w.heap.size w w' := by
  have hixA := fun i hi W => hX.ix cap0 i hi W
  have hixI := fun k (hk : k < len1) W => idx_at1 (P := Tryz.prog) (T := 33) Tryz.underlying33 szI (cap := cap1) (a := a1) hI.nn hk W
  have hixB := fun i hi W => hB.ix i hi W
  have hixY := fun i hi W => hY.ix cap3 i hi W
  have HX := hid hX
  have HI := hid hI
  have HB := hid hB
  have HY := hid hY
  clear hX hI hB hY
  go_enter Tryz.func5, Tryz.ntmps5
  go_wp2_with fail
  refine (known6_any w).mono ?_
  rintro e w1 ⟨rfl, B1⟩
  have HB1 := hid B1
  clear B1
  go_wp2_with fail
  refine (VRun.found 50 20 w1 (by omega) (by omega) (by decide) (by decide)).mono ?_
  rintro e w2 ⟨d, v, rfl, VR⟩
  have VR2 := hid VR
  clear VR
  go_wp2_with fail
  refine (known6_any w2).mono ?_
  rintro e w3 ⟨rfl, B3⟩
  have VR3 := hid (VR2.out.below B3)
  clear B3 VR2
  have INA : Hid (∀ W, Below w1.heap.size w1 W → ActsW W a0 len0 X) := hid fun W hW => HX.out.below (HB1.out.trans (hW.mono HB1.out.size)) (Nat.le_refl _)
  have INI : Hid (∀ W, Below w1.heap.size w1 W → Ints W a1 len1 zs1) := hid fun W hW => HI.out.below (HB1.out.trans (hW.mono HB1.out.size)) (Nat.le_refl _)
  have INB : Hid (∀ W, Below w1.heap.size w1 W → ByteIn W a2 len2 cap2 bs2) := hid fun W hW => HB.out.below (HB1.out.trans (hW.mono HB1.out.size)) (Nat.le_refl _)
  have INY : Hid (∀ W, Below w1.heap.size w1 W → BRows W a3 len3 Y) := hid fun W hW => HY.out.below (HB1.out.trans (hW.mono HB1.out.size)) (Nat.le_refl _)
  clear HX HI HB HY
  go_upto_block 0 with fail
  go_cut [11] (fun _ W => ∃ R : Rcs, Hid (VRun w1 W d 50 20 3 v R noRcs []))
  case first =>
    go_wp2_with fail
    go_loopg [11] 6 (fun q u11 wr => ∃ (i : Nat) (R : Rcs), Hid (6 - i = q) ∧ u11 = .int .i64 i ∧ i ≤ 6 ∧ i ≤ len0 ∧ Hid (VRun w1 wr d 50 20 3 v R noRcs []))
    case atStart => exact ⟨0, noRcs, hid rfl, rfl, by omega, Nat.zero_le _, VR3⟩
    case round =>
      clear VR3
      obtain ⟨i, R, HQ, rfl, h6, hil, VRk⟩ := hrel
      by_cases hgo : i < len0 ∧ i < 6
      · obtain ⟨h1, h2⟩ := hgo
        have hixk := hixA i h1
        obtain ⟨y, hy⟩ : ∃ y, X i = y := ⟨_, rfl⟩
        have SX : ∀ W, Below w1.heap.size w1 W → W.cell? ⟨sB a0, sO a0 + i * 7, none⟩ = some (.int .i64 y.what) ∧ W.cell? ⟨sB a0, sO a0 + i * 7 + 1, none⟩ = some (.int .i64 y.id) ∧ W.cell? ⟨sB a0, sO a0 + i * 7 + 2, none⟩ = some (.int .i64 y.n) ∧ W.cell? ⟨sB a0, sO a0 + i * 7 + 3, none⟩ = some (.int .i64 y.torn) ∧ W.cell? ⟨sB a0, sO a0 + i * 7 + 4, none⟩ = some (.int .i64 y.cut) ∧ W.cell? ⟨sB a0, sO a0 + i * 7 + 5, none⟩ = some (.slice y.ba y.bl y.bc) ∧ W.cell? ⟨sB a0, sO a0 + i * 7 + 6, none⟩ = some (.slice y.ka y.kl y.kc) := fun W hW => by
          have AX := INA.out W hW
          have c0 := AX.c0 i h1
          have c1 := AX.c1 i h1
          have c2 := AX.c2 i h1
          have c3 := AX.c3 i h1
          have c4 := AX.c4 i h1
          have c5 := AX.c5 i h1
          have c6 := AX.c6 i h1
          rw [hy] at c0 c1 c2 c3 c4 c5 c6
          exact ⟨c0, c1, c2, c3, c4, c5, c6⟩
        have OKX := hid ((INA.out wr VRk.out.since).ok i h1)
        rw [hy] at OKX
        have SW : ∀ W, Below wr.heap.size wr W → W.cell? ⟨sB a0, sO a0 + i * 7, none⟩ = some (.int .i64 y.what) ∧ W.cell? ⟨sB a0, sO a0 + i * 7 + 1, none⟩ = some (.int .i64 y.id) ∧ W.cell? ⟨sB a0, sO a0 + i * 7 + 2, none⟩ = some (.int .i64 y.n) ∧ W.cell? ⟨sB a0, sO a0 + i * 7 + 3, none⟩ = some (.int .i64 y.torn) ∧ W.cell? ⟨sB a0, sO a0 + i * 7 + 4, none⟩ = some (.int .i64 y.cut) ∧ W.cell? ⟨sB a0, sO a0 + i * 7 + 5, none⟩ = some (.slice y.ba y.bl y.bc) ∧ W.cell? ⟨sB a0, sO a0 + i * 7 + 6, none⟩ = some (.slice y.ka y.kl y.kc) := fun W hW => SX W (VRk.out.since.trans (hW.mono VRk.out.since.size))
        obtain ⟨p, hp⟩ : ∃ p, y.id % 7 = p := ⟨_, rfl⟩
        have hpb : 0 ≤ p ∧ p ≤ 6 := by omega
        have hw1 : IntKind.i64.wrap (1 + p) = 1 + p := IntWalk.i64_in _ (by omega)
        have PK : ∀ W, Calls Tryz.prog 12 #[.int .i64 y.id, .int .i64 7] W fun e w' => e = .returned (.int .i64 p) ∧ Below W.heap.size W w' := fun W => by
          refine (pick_any y.id 7 W OKX.out.b1 (by omega) (by omega)).mono ?_
          rintro e w' ⟨rfl, rfl⟩
          exact ⟨by rw [← hp], Below.refl _ _⟩
        obtain ⟨bs, hbs⟩ : ∃ bs, bytesV y.id y.n y.bz = bs := ⟨_, rfl⟩
        have HBB := hid (show IsBytes bs by rw [← hbs]; exact bytesV_bytes OKX.out.b.hbytes)
        have hbl : bs.length ≤ 357 := by rw [← hbs]; exact bytesV_le _ _ _
        obtain ⟨bn, hbn⟩ : ∃ bn, bs.length = bn := ⟨_, rfl⟩
        have BY := fun W (h : ActWOk W y) => bytes6_any y W h
        simp only [hbs, hbn] at BY
        have HBN := hid hbn
        rw [hbn] at hbl
        clear hbs hbn hp hy
        go_wp2_with fail
        refine wp_region_held_drew (S := fun W => W.cell? ⟨sB a0, sO a0 + i * 7, none⟩ = some (.int .i64 y.what) ∧ W.cell? ⟨sB a0, sO a0 + i * 7 + 1, none⟩ = some (.int .i64 y.id) ∧ W.cell? ⟨sB a0, sO a0 + i * 7 + 2, none⟩ = some (.int .i64 y.n) ∧ W.cell? ⟨sB a0, sO a0 + i * 7 + 3, none⟩ = some (.int .i64 y.torn) ∧ W.cell? ⟨sB a0, sO a0 + i * 7 + 4, none⟩ = some (.int .i64 y.cut) ∧ W.cell? ⟨sB a0, sO a0 + i * 7 + 5, none⟩ = some (.slice y.ba y.bl y.bc) ∧ W.cell? ⟨sB a0, sO a0 + i * 7 + 6, none⟩ = some (.slice y.ka y.kl y.kc)) (by kernel_rfl) (SW _ ((Below.refl wr.heap.size wr).drew)) (fun hHeld => ?_)
        refine wpAnyH_take (i := 0) (v := ?v1) (by simp only [List.getElem?_toArray, List.getElem?_cons_zero]; rfl) (by kernel_rfl) (by kernel_rfl) (by kernel_rfl) (by exact fun _ _ _ h => h) (Or.inl ⟨by rfl, ?h1⟩) (by assumption) ?r1
        case h1 => (intro w hSw; (try dsimp only at hSw); go_simp; try with_reducible rfl)
        try simp only [Act.put, List.setIfInBounds_toArray, List.set_cons_zero, List.set_cons_succ]
        refine wpAnyH_take (i := 1) (v := ?v2) (by simp only [List.getElem?_toArray, List.getElem?_cons_zero, List.getElem?_cons_succ]; rfl) (by kernel_rfl) (by kernel_rfl) (by kernel_rfl) (by exact fun _ _ _ h => h) (Or.inl ⟨by rfl, ?h2⟩) (by assumption) ?r2
        case h2 => (intro w hSw; (try dsimp only at hSw); go_simp; try with_reducible rfl)
        try simp only [Act.put, List.setIfInBounds_toArray, List.set_cons_zero, List.set_cons_succ]
        refine wpAnyH_take (i := 2) (v := ?v3) (by simp only [List.getElem?_toArray, List.getElem?_cons_zero, List.getElem?_cons_succ]; rfl) (by kernel_rfl) (by kernel_rfl) (by kernel_rfl) (by exact fun _ _ _ h => h) (Or.inl ⟨by rfl, ?h3⟩) (by assumption) ?r3
        case h3 => (intro w hSw; (try dsimp only at hSw); go_simp; try with_reducible rfl)
        try simp only [Act.put, List.setIfInBounds_toArray, List.set_cons_zero, List.set_cons_succ]
        refine wpAnyH_take (i := 3) (v := ?v4) (by simp only [List.getElem?_toArray, List.getElem?_cons_zero, List.getElem?_cons_succ]; rfl) (by kernel_rfl) (by kernel_rfl) (by kernel_rfl) (by exact fun _ _ _ h => h) (Or.inl ⟨by rfl, ?h4⟩) (by assumption) ?r4
        case h4 => (intro w hSw; (try dsimp only at hSw); go_simp; try with_reducible rfl)
        try simp only [Act.put, List.setIfInBounds_toArray, List.set_cons_zero, List.set_cons_succ]
        refine wpAnyH_take (i := 4) (v := ?v5) (by simp only [List.getElem?_toArray, List.getElem?_cons_zero, List.getElem?_cons_succ]; rfl) (by kernel_rfl) (by kernel_rfl) (by kernel_rfl) (by exact fun _ _ _ h => h) (Or.inl ⟨by rfl, ?h5⟩) (by assumption) ?r5
        case h5 => (intro w hSw; (try dsimp only at hSw); go_simp; try with_reducible rfl)
        try simp only [Act.put, List.setIfInBounds_toArray, List.set_cons_zero, List.set_cons_succ]
        refine wpAnyH_take (i := 5) (v := ?v6) (by simp only [List.getElem?_toArray, List.getElem?_cons_zero, List.getElem?_cons_succ]; rfl) (by kernel_rfl) (by kernel_rfl) (by kernel_rfl) (by exact fun _ _ _ h => h) (Or.inl ⟨by rfl, ?h6⟩) (by assumption) ?r6
        case h6 => (intro w hSw; (try dsimp only at hSw); go_simp; try with_reducible rfl)
        try simp only [Act.put, List.setIfInBounds_toArray, List.set_cons_zero, List.set_cons_succ]
        refine wpAnyH_take (i := 8) (v := ?v7) (by simp only [List.getElem?_toArray, List.getElem?_cons_zero, List.getElem?_cons_succ]; rfl) (by kernel_rfl) (by kernel_rfl) (by kernel_rfl) (by exact fun _ _ _ h => h) (Or.inl ⟨by rfl, ?h7⟩) (by assumption) ?r7
        case h7 => (intro w hSw; (try dsimp only at hSw); go_simp; try with_reducible rfl)
        try simp only [Act.put, List.setIfInBounds_toArray, List.set_cons_zero, List.set_cons_succ]
        refine wpAnyH_take (i := 9) (v := ?v8) (by simp only [List.getElem?_toArray, List.getElem?_cons_zero, List.getElem?_cons_succ]; rfl) (by kernel_rfl) (by kernel_rfl) (by kernel_rfl) (by exact fun _ _ _ h => h) (Or.inl ⟨by rfl, ?h8⟩) (by assumption) ?r8
        case h8 => (intro w hSw; (try dsimp only at hSw); go_simp; try with_reducible rfl)
        try simp only [Act.put, List.setIfInBounds_toArray, List.set_cons_zero, List.set_cons_succ]
        refine wpAnyH_take (i := 10) (v := ?v9) (by simp only [List.getElem?_toArray, List.getElem?_cons_zero, List.getElem?_cons_succ]; rfl) (by kernel_rfl) (by kernel_rfl) (by kernel_rfl) (by exact fun _ _ _ h => h) (Or.inl ⟨by rfl, ?h9⟩) (by assumption) ?r9
        case h9 => (intro w hSw; (try dsimp only at hSw); go_simp; try with_reducible rfl)
        try simp only [Act.put, List.setIfInBounds_toArray, List.set_cons_zero, List.set_cons_succ]
        refine wpAnyH_take (i := 11) (v := ?v10) (by simp only [List.getElem?_toArray, List.getElem?_cons_zero, List.getElem?_cons_succ]; rfl) (by kernel_rfl) (by kernel_rfl) (by kernel_rfl) (by exact fun _ _ _ h => h) (Or.inl ⟨by rfl, ?h10⟩) (by assumption) ?r10
        case h10 => (intro w hSw; (try dsimp only at hSw); go_simp; try with_reducible rfl)
        try simp only [Act.put, List.setIfInBounds_toArray, List.set_cons_zero, List.set_cons_succ]
        refine wpAnyH_ready (rs := [6]) (by kernel_rfl) (by simp) ?_
        refine (AllReadyH.cons (by simp only [List.getElem?_toArray, List.getElem?_cons_zero, List.getElem?_cons_succ]; rfl) (fun K hK => ?_) AllReadyH.nil)
        go_simp
        go_at_call 12
        refine (PK _).mono ?_
        rintro e wq11 ⟨rfl, C11⟩
        have BB11 := ((Below.refl wr.heap.size wr).drew).trans (C11.mono (Below.size ((Below.refl wr.heap.size wr).drew)))
        refine hK.out _ _ (SW _ BB11) (fun hH12 => ?_)
        clear hK
        try simp only [Act.put, List.setIfInBounds_toArray, List.set_cons_zero, List.set_cons_succ]
        refine wpAnyH_take (i := 7) (v := ?v13) (by simp only [List.getElem?_toArray, List.getElem?_cons_zero, List.getElem?_cons_succ]; rfl) (by kernel_rfl) (by kernel_rfl) (by kernel_rfl) (by exact fun _ _ _ h => h) (Or.inl ⟨by rfl, ?h13⟩) (by assumption) ?r13
        case h13 => (intro w hSw; (try dsimp only at hSw); go_simp; try with_reducible rfl)
        try simp only [Act.put, List.setIfInBounds_toArray, List.set_cons_zero, List.set_cons_succ]
        refine wpAnyH_ready (rs := [12]) (by kernel_rfl) (by simp) ?_
        refine (AllReadyH.cons (by simp only [List.getElem?_toArray, List.getElem?_cons_zero, List.getElem?_cons_succ]; rfl) (fun K hK => ?_) AllReadyH.nil)
        go_simp
        go_at_call 16
        refine (BY wq11 (OKX.out.below (BB11) (Nat.le_refl _))).mono ?_
        rintro e wq14 ⟨u14, rfl, o14, C14⟩
        obtain ⟨ba14, bc14, rfl, -, -, -, brow14, -, bn014⟩ := row_of_owns o14
        clear o14
        have BB14 := (BB11).trans (C14.mono (Below.size (BB11)))
        refine hK.out _ _ (SW _ BB14) (fun hH15 => ?_)
        clear hK
        try simp only [Act.put, List.setIfInBounds_toArray, List.set_cons_zero, List.set_cons_succ]
        refine wpAnyH_ready (rs := [13]) (by kernel_rfl) (by simp) ?_
        refine (AllReadyH.cons (by simp only [List.getElem?_toArray, List.getElem?_cons_zero, List.getElem?_cons_succ]; rfl) (fun K hK => ?_) AllReadyH.nil)
        go_simp
        go_at_call 15
        refine ((VRk.out.below (BB14)).put (1 + p) (by omega) ba14 bn bc14 bs brow14 HBN.out (by omega) bn014 HBB.out).mono ?_
        rintro e wz ⟨rfl, VZ⟩
        have VZH := hid VZ
        clear VZ
        refine hK.out _ _ (SX _ VZH.out.since) (fun hHz => ?_)
        clear hK
        try simp only [Act.put, List.setIfInBounds_toArray, List.set_cons_zero, List.set_cons_succ]
        refine wpAnyH_done (by kernel_rfl) ?_ _
        go_wp2_with fail
        go_roundg (6 - (i + 1))
        case measure => have := HQ.out; omega
        case rel => exact ⟨i + 1, _, hid rfl, by go_num, by omega, by omega, VZH⟩
      · by_cases h1 : i < len0
        · obtain rfl : i = 6 := by omega
          have h3 : (6 : Int) < (len0 : Int) := by omega
          go_wp2_with fail
          go_meet
          case rel => exact ⟨R, VRk⟩
        · obtain rfl : i = len0 := by omega
          go_wp2_with fail
          go_meet
          case rel => exact ⟨R, VRk⟩
  case rest =>
    clear VR3
    obtain ⟨R, VRk⟩ := hcut
    have KE := VRk.out.keep (by omega)
    go_wp2_with fail
    refine KE.mono ?_
    rintro e w4 (⟨rfl, VR4⟩ | ⟨rfl, VR4⟩)
    · have VR4H := hid VR4
      clear KE VR4 VRk
      have CL := VR4H.out.closeRaw (by omega)
      go_wp2_with fail
      refine CL.mono ?_
      rintro e w5 ⟨rfl, RD⟩
      have RD5 := hid RD
      clear CL RD VR4H
      go_upto_block 2 with fail
      go_cut [12] (fun _ W => Hid (RawD w1 W d 50 12))
      case first =>
        go_wp2_with fail
        go_loopg [12] 12 (fun q u12 wr => ∃ (i : Nat), Hid (12 - i = q) ∧ u12 = .int .i64 i ∧ i ≤ 12 ∧ i ≤ len1 ∧ Hid (RawD w1 wr d 50 i))
        case atStart => exact ⟨0, hid rfl, rfl, by omega, Nat.zero_le _, RD5⟩
        case round =>
          clear RD5
          obtain ⟨i, HQ, rfl, h12, hil, RDk⟩ := hrel
          by_cases hgo : i < len1 ∧ i < 12
          · obtain ⟨h1, h2⟩ := hgo
            have hixk := hixI i h1
            obtain ⟨x, hx⟩ : ∃ x, zs1[i]?.getD 0 = x := ⟨_, rfl⟩
            have CI : Hid (∀ W, Below w1.heap.size w1 W → W.cell? ⟨sB a1, sO a1 + i, none⟩ = some (.int .i64 x)) := hid fun W hW => by
              have := (INI.out W hW).cell i h1
              rw [hx] at this
              exact this
            have hxb : -9223372036854775808 ≤ x ∧ x ≤ 9223372036854775807 := by
              have h9 := INI.out wr RDk.out.since
              rw [← hx, List.getElem?_eq_getElem (by rw [h9.length]; exact h1)]
              exact h9.wf _ (List.getElem_mem _)
            obtain ⟨k, hk⟩ : ∃ k, x % 50 = k := ⟨_, rfl⟩
            have hkb : 0 ≤ k ∧ k ≤ 49 := by omega
            have PK := pick_any x 50 wr hxb (by omega) (by omega)
            rw [hk] at PK
            have cx := CI.out wr RDk.out.since
            have LO := RDk.out.look k ⟨by omega, by omega⟩
            clear hk hx
            go_wp2_with fail
            refine PK.mono ?_
            rintro e w6 ⟨rfl, rfl⟩
            clear PK cx
            go_wp2_with fail
            refine LO.mono ?_
            rintro e w7 ⟨g, c, zt, rfl, hg, BU, B7⟩
            have BU7 := hid BU
            have B7H := hid B7
            have S7 := hid (RDk.out.since.trans (B7.mono RDk.out.since.size))
            clear LO BU B7
            go_upto_if 94 with fail
            go_cut [] (fun W => ∃ zt', Hid (BufAt W g zt') ∧ Hid (Below wr.heap.size wr W))
            case first =>
              by_cases hi2 : i < len2
              · have hib : (i : Int) < (len2 : Int) := by omega
                obtain ⟨xd, hxd⟩ : ∃ xd, x.tdiv 50 = xd := ⟨_, rfl⟩
                have hdb : -9223372036854775808 ≤ xd ∧ xd ≤ 9223372036854775807 := by
                  have h1 := Int.mul_tdiv_add_tmod x 50
                  have h2 := Int.tmod_lt_of_pos x (show (0 : Int) < 50 by decide)
                  have h3 := Int.lt_tmod_of_pos x (show (0 : Int) < 50 by decide)
                  rw [hxd] at h1
                  omega
                obtain ⟨kq, hkq⟩ : ∃ kq : Nat, xd % 96 = (kq : Int) := ⟨(xd % 96).toNat, by omega⟩
                have hkqb : kq < 96 := by omega
                have PQ : ∀ W, Calls Tryz.prog 12 #[.int .i64 xd, .int .i64 96] W fun e w' => e = .returned (.int .i64 kq) ∧ W = w' := fun W => by
                  refine (pick_any xd 96 W hdb (by omega) (by omega)).mono ?_
                  rintro e w' ⟨rfl, rfl⟩
                  exact ⟨by rw [hkq], rfl⟩
                have hq0 : (0 : Int) ≤ (kq : Int) := by omega
                have hq96 : (kq : Int) < 96 := by omega
                have hwd : IntKind.i64.wrap xd = xd := IntWalk.i64_in _ (by omega)
                have SX : ∀ W, Below w1.heap.size w1 W → W.cell? ⟨sB a1, sO a1 + i, none⟩ = some (.int .i64 x) ∧ W.cell? ⟨sB a2, sO a2 + i, none⟩ = some (.int .u8 (zb bs2 i)) := fun W hW => ⟨CI.out W hW, (INB.out W hW).cell hi2⟩
                have SW : ∀ W, Below w7.heap.size w7 W → W.cell? ⟨sB a1, sO a1 + i, none⟩ = some (.int .i64 x) ∧ W.cell? ⟨sB a2, sO a2 + i, none⟩ = some (.int .u8 (zb bs2 i)) := fun W hW => SX W (S7.out.trans (hW.mono S7.out.size))
                have cb := BU7.out.cell hkqb
                have cbd := BU7.out.drew.cell hkqb
                have fz := fun o => BU7.out.free o
                have fzd := fun o => BU7.out.drew.free o
                have lg := BU7.out.lt
                have hixj := hixB i hi2
                have zb1 := zb_bd BU7.out.bytes kq
                have zb2 := zb_bd (INB.out w7 S7.out).hbytes i
                obtain ⟨z, hz, hzb⟩ := xor_byte zb1 zb2
                have BST := hid (show Below wr.heap.size wr (w7.drew.setCell ⟨g, kq, none⟩ (.int .u8 z)) from Below.ext B7H.out.drew Ext.set (fun q hq => by subst hq; exact hg) (Nat.le_trans B7H.out.size (by simp)))
                have BUS := hid (BU7.out.drew.set kq hzb)
                have HKQ := hid hkq
                clear hkq
                go_wp2_with fail
                refine wp_region_held_drew (S := fun W => W.cell? ⟨sB a1, sO a1 + i, none⟩ = some (.int .i64 x) ∧ W.cell? ⟨sB a2, sO a2 + i, none⟩ = some (.int .u8 (zb bs2 i))) (by kernel_rfl) (SW _ ((Below.refl w7.heap.size w7).drew)) (fun hHeld => ?_)
                refine wpAnyH_take (i := 0) (v := ?v16) (by simp only [List.getElem?_toArray, List.getElem?_cons_zero]; rfl) (by kernel_rfl) (by kernel_rfl) (by kernel_rfl) (by exact fun _ _ _ h => h) (Or.inl ⟨by rfl, ?h16⟩) (by assumption) ?r16
                case h16 => (intro w hSw; (try dsimp only at hSw); go_simp; try with_reducible rfl)
                try simp only [Act.put, List.setIfInBounds_toArray, List.set_cons_zero, List.set_cons_succ]
                refine wpAnyH_take (i := 1) (v := ?v17) (by simp only [List.getElem?_toArray, List.getElem?_cons_zero, List.getElem?_cons_succ]; rfl) (by kernel_rfl) (by kernel_rfl) (by kernel_rfl) (by exact fun _ _ _ h => h) (Or.inl ⟨by rfl, ?h17⟩) (by assumption) ?r17
                case h17 => (intro w hSw; (try dsimp only at hSw); go_simp; try with_reducible rfl)
                try simp only [Act.put, List.setIfInBounds_toArray, List.set_cons_zero, List.set_cons_succ]
                refine wpAnyH_take (i := 2) (v := ?v18) (by simp only [List.getElem?_toArray, List.getElem?_cons_zero, List.getElem?_cons_succ]; rfl) (by kernel_rfl) (by kernel_rfl) (by kernel_rfl) (by exact fun _ _ _ h => h) (Or.inl ⟨by rfl, ?h18⟩) (by assumption) ?r18
                case h18 => (intro w hSw; (try dsimp only at hSw); go_simp; try with_reducible rfl)
                try simp only [Act.put, List.setIfInBounds_toArray, List.set_cons_zero, List.set_cons_succ]
                refine wpAnyH_take (i := 3) (v := ?v19) (by simp only [List.getElem?_toArray, List.getElem?_cons_zero, List.getElem?_cons_succ]; rfl) (by kernel_rfl) (by kernel_rfl) (by kernel_rfl) (by exact fun _ _ _ h => h) (Or.inl ⟨by rfl, ?h19⟩) (by assumption) ?r19
                case h19 => (intro w hSw; (try dsimp only at hSw); go_simp; try with_reducible rfl)
                try simp only [Act.put, List.setIfInBounds_toArray, List.set_cons_zero, List.set_cons_succ]
                refine wpAnyH_take (i := 4) (v := ?v20) (by simp only [List.getElem?_toArray, List.getElem?_cons_zero, List.getElem?_cons_succ]; rfl) (by kernel_rfl) (by kernel_rfl) (by kernel_rfl) (by exact fun _ _ _ h => h) (Or.inl ⟨by rfl, ?h20⟩) (by assumption) ?r20
                case h20 => (intro w hSw; (try dsimp only at hSw); go_simp; try with_reducible rfl)
                try simp only [Act.put, List.setIfInBounds_toArray, List.set_cons_zero, List.set_cons_succ]
                refine wpAnyH_take (i := 5) (v := ?v21) (by simp only [List.getElem?_toArray, List.getElem?_cons_zero, List.getElem?_cons_succ]; rfl) (by kernel_rfl) (by kernel_rfl) (by kernel_rfl) (by exact fun _ _ _ h => h) (Or.inl ⟨by rfl, ?h21⟩) (by assumption) ?r21
                case h21 => (intro w hSw; (try dsimp only at hSw); go_simp; try with_reducible rfl)
                try simp only [Act.put, List.setIfInBounds_toArray, List.set_cons_zero, List.set_cons_succ]
                refine wpAnyH_take (i := 9) (v := ?v22) (by simp only [List.getElem?_toArray, List.getElem?_cons_zero, List.getElem?_cons_succ]; rfl) (by kernel_rfl) (by kernel_rfl) (by kernel_rfl) (by exact fun _ _ _ h => h) (Or.inl ⟨by rfl, ?h22⟩) (by assumption) ?r22
                case h22 => (intro w hSw; (try dsimp only at hSw); go_simp; try with_reducible rfl)
                try simp only [Act.put, List.setIfInBounds_toArray, List.set_cons_zero, List.set_cons_succ]
                refine wpAnyH_take (i := 10) (v := ?v23) (by simp only [List.getElem?_toArray, List.getElem?_cons_zero, List.getElem?_cons_succ]; rfl) (by kernel_rfl) (by kernel_rfl) (by kernel_rfl) (by exact fun _ _ _ h => h) (Or.inl ⟨by rfl, ?h23⟩) (by assumption) ?r23
                case h23 => (intro w hSw; (try dsimp only at hSw); go_simp; try with_reducible rfl)
                try simp only [Act.put, List.setIfInBounds_toArray, List.set_cons_zero, List.set_cons_succ]
                refine wpAnyH_take (i := 11) (v := ?v24) (by simp only [List.getElem?_toArray, List.getElem?_cons_zero, List.getElem?_cons_succ]; rfl) (by kernel_rfl) (by kernel_rfl) (by kernel_rfl) (by exact fun _ _ _ h => h) (Or.inl ⟨by rfl, ?h24⟩) (by assumption) ?r24
                case h24 => (intro w hSw; (try dsimp only at hSw); go_simp; try with_reducible rfl)
                try simp only [Act.put, List.setIfInBounds_toArray, List.set_cons_zero, List.set_cons_succ]
                refine wpAnyH_take (i := 12) (v := ?v25) (by simp only [List.getElem?_toArray, List.getElem?_cons_zero, List.getElem?_cons_succ]; rfl) (by kernel_rfl) (by kernel_rfl) (by kernel_rfl) (by exact fun _ _ _ h => h) (Or.inl ⟨by rfl, ?h25⟩) (by assumption) ?r25
                case h25 => (intro w hSw; (try dsimp only at hSw); go_simp; try with_reducible rfl)
                try simp only [Act.put, List.setIfInBounds_toArray, List.set_cons_zero, List.set_cons_succ]
                refine wpAnyH_ready (rs := [6]) (by kernel_rfl) (by simp) ?_
                refine (AllReadyH.cons (by simp only [List.getElem?_toArray, List.getElem?_cons_zero, List.getElem?_cons_succ]; rfl) (fun K hK => ?_) AllReadyH.nil)
                go_simp
                go_at_call 12
                refine (PQ _).mono ?_
                rintro e wq ⟨rfl, rfl⟩
                refine hK.out _ _ (SW _ (Below.refl w7.heap.size w7).drew) (fun hH26 => ?_)
                clear hK
                try simp only [Act.put, List.setIfInBounds_toArray, List.set_cons_zero, List.set_cons_succ]
                refine wpAnyH_take (i := 7) (v := ?v27) (by simp only [List.getElem?_toArray, List.getElem?_cons_zero, List.getElem?_cons_succ]; rfl) (by kernel_rfl) (by kernel_rfl) (by kernel_rfl) (by exact fun _ _ _ h => h) (Or.inl ⟨by rfl, ?h27⟩) (by assumption) ?r27
                case h27 => (intro w hSw; (try dsimp only at hSw); go_simp; try with_reducible rfl)
                try simp only [Act.put, List.setIfInBounds_toArray, List.set_cons_zero, List.set_cons_succ]
                refine wpAnyH_ready (rs := [8]) (by kernel_rfl) (by simp) ?_
                refine (AllReadyH.cons (by simp only [List.getElem?_toArray, List.getElem?_cons_zero, List.getElem?_cons_succ]; rfl) (fun K hK => ?_) AllReadyH.nil)
                go_simp
                refine hK.out _ _ (SW _ (Below.refl w7.heap.size w7).drew) (fun hH28 => ?_)
                clear hK
                try simp only [Act.put, List.setIfInBounds_toArray, List.set_cons_zero, List.set_cons_succ]
                refine wpAnyH_take (i := 13) (v := ?v29) (by simp only [List.getElem?_toArray, List.getElem?_cons_zero, List.getElem?_cons_succ]; rfl) (by kernel_rfl) (by kernel_rfl) (by kernel_rfl) (by exact fun _ _ _ h => h) (Or.inl ⟨by rfl, ?h29⟩) (by assumption) ?r29
                case h29 => (intro w hSw; (try dsimp only at hSw); go_simp; try with_reducible rfl)
                try simp only [Act.put, List.setIfInBounds_toArray, List.set_cons_zero, List.set_cons_succ]
                refine wpAnyH_take (i := 14) (v := ?v30) (by simp only [List.getElem?_toArray, List.getElem?_cons_zero, List.getElem?_cons_succ]; rfl) (by kernel_rfl) (by kernel_rfl) (by kernel_rfl) (by exact fun _ _ _ h => h) (Or.inl ⟨by rfl, ?h30⟩) (by assumption) ?r30
                case h30 => (intro w hSw; (try dsimp only at hSw); go_simp; try with_reducible rfl)
                try simp only [Act.put, List.setIfInBounds_toArray, List.set_cons_zero, List.set_cons_succ]
                refine wpAnyH_ready (rs := [15]) (by kernel_rfl) (by simp) ?_
                refine (AllReadyH.cons (by simp only [List.getElem?_toArray, List.getElem?_cons_zero, List.getElem?_cons_succ]; rfl) (fun K hK => ?_) AllReadyH.nil)
                go_simp
                refine hK.out _ _ (SX _ (RDk.out.since.trans (BST.out.mono RDk.out.since.size))) (fun hHz => ?_)
                clear hK
                try simp only [Act.put, List.setIfInBounds_toArray, List.set_cons_zero, List.set_cons_succ]
                refine wpAnyH_done (by kernel_rfl) ?_ _
                go_wp2_with fail
                go_meet
                case rel => exact ⟨_, BUS, BST⟩
              · go_wp2_with fail
                go_meet
                case rel => exact ⟨zt, BU7, B7H⟩
            case rest =>
              clear BU7 B7H S7
              obtain ⟨zt', BU8, B8H⟩ := hcut
              have S8 := hid (RDk.out.since.trans (B8H.out.mono RDk.out.since.size))
              by_cases hi3 : i < len3
              · have hib3 : (i : Int) < (len3 : Int) := by omega
                have hixj := hixY i hi3
                obtain ⟨y, hy⟩ : ∃ y, Y i = y := ⟨_, rfl⟩
                have cy := (INY.out wc S8.out).c i hi3
                have OY := hid ((INY.out wc S8.out).ok i hi3)
                rw [hy] at cy OY
                obtain ⟨yl, hyl⟩ : ∃ yl, y.bl = yl := ⟨_, rfl⟩
                rw [hyl] at cy OY
                have hylb : yl ≤ 9223372036854775807 := Nat.le_trans OY.out.hcap OY.out.hcapm
                clear hyl hy
                by_cases hm : (yl : Int) % 3 = 2
                · have CP := fun c => copy_buf (c := c) BU8.out OY.out
                  obtain ⟨n9, w9, hrun, ⟨zt9, BU⟩, hbel⟩ := CP c
                  have BU9 := hid BU
                  have B9H := hid (hbel _ _ B8H.out hg)
                  clear CP BU hbel
                  go_wp2_with fail
                  have LA := fun c => RDk.out.lay (c := c) B9H.out k ⟨by omega, by omega⟩ hg BU9.out (by omega)
                  go_wp2_with fail
                  refine (LA _).mono ?_
                  rintro e w10 ⟨rfl, RD10⟩
                  have RD10H := hid RD10
                  clear LA RD10
                  go_wp2_with fail
                  go_roundg (12 - (i + 1))
                  case measure => have := HQ.out; omega
                  case rel => exact ⟨i + 1, hid rfl, by go_num, by omega, by omega, RD10H⟩
                · go_wp2_with fail
                  have LA := fun c => RDk.out.lay (c := c) B8H.out k ⟨by omega, by omega⟩ hg BU8.out (by omega)
                  go_wp2_with fail
                  refine (LA _).mono ?_
                  rintro e w10 ⟨rfl, RD10⟩
                  have RD10H := hid RD10
                  clear LA RD10
                  go_wp2_with fail
                  go_roundg (12 - (i + 1))
                  case measure => have := HQ.out; omega
                  case rel => exact ⟨i + 1, hid rfl, by go_num, by omega, by omega, RD10H⟩
              · go_wp2_with fail
                have LA := fun c => RDk.out.lay (c := c) B8H.out k ⟨by omega, by omega⟩ hg BU8.out (by omega)
                go_wp2_with fail
                refine (LA _).mono ?_
                rintro e w10 ⟨rfl, RD10⟩
                have RD10H := hid RD10
                clear LA RD10
                go_wp2_with fail
                go_roundg (12 - (i + 1))
                case measure => have := HQ.out; omega
                case rel => exact ⟨i + 1, hid rfl, by go_num, by omega, by omega, RD10H⟩
          · by_cases h1 : i < len1
            · obtain rfl : i = 12 := by omega
              have h3 : (12 : Int) < (len1 : Int) := by omega
              go_wp2_with fail
              go_meet
              case rel => exact RDk
            · obtain rfl : i = len1 := by omega
              go_wp2_with fail
              go_meet
              case rel => exact hid (RDk.out.le (by omega))
      case rest =>
        clear RD5
        have RDr : Hid (RawD w1 wc d 50 12) := hcut
        have ST := RDr.out.settle
        go_wp2_with fail
        refine ST.mono ?_
        rintro e w6 ⟨rfl, RD⟩
        have RD6 := hid RD
        clear ST RD RDr
        have OP := RD6.out.opened (by omega) (by omega)
        go_wp2_with fail
        refine OP.mono ?_
        rintro e w7 (⟨rfl, B7⟩ | ⟨v7, H, R7, rfl, VG⟩)
        · have B7H := hid B7
          clear B7 OP RD6
          go_wp2_with fail
          go_ret
          exact ⟨rfl, HB1.out.trans (B7H.out.mono HB1.out.size)⟩
        · have VG7 := hid VG
          clear OP VG RD6 INA INI INB INY
          obtain ⟨M, B, C, d7, l7, mb7, s7, L7, VS, lv7, hH7, ok7, B7⟩ := VG7.out
          have hl := lv7.l
          have hn1 := lv7.n1
          have hH4 : 2 ≤ H ∧ H ≤ 4095 := by unfold LS.H at hH7; omega
          have hu := used_le ok7 (by omega)
          have HU := hid (used_take ok7)
          have ID := idsV_any VS ok7
          have GE := hid (fun (W : World) (Bw : Below w7.heap.size w7 W) id hid' => getV_any (VS.below Bw) ok7 id hid')
          have FR := hid (fun (W : World) (Bw : Below w7.heap.size w7 W) => freeV_any (VS.below Bw) lv7 hH7 ok7)
          have TR := hid (fun (W : World) (Bw : Below w7.heap.size w7 W) => (tracksV_any (VS.below Bw) lv7).mono (R' := fun e w' => e = .returned (.int .i64 ((H : Nat) : Int)) ∧ Below W.heap.size W w') (fun e w' ⟨h1, h2⟩ => ⟨by rw [h1, hH7], by rw [← h2]; exact Below.refl _ _⟩))
          have HOK := hid ok7
          have HID := hid (fun i (hi : i ∈ idsOf R7) => mem_ids40.1 (List.mem_filter.1 hi).1)
          have B7H := hid (HB1.out.trans (B7.mono HB1.out.size))
          obtain ⟨u, hu'⟩ : ∃ u, R7.used = u := ⟨_, rfl⟩
          have HUU := hid hu'
          rw [hu'] at hu
          clear VS lv7 hu' hH7 hl hn1 B7 VG7
          obtain ⟨N, hN⟩ : ∃ N, (idsOf R7).length = N := ⟨_, rfl⟩
          have HN := hid hN
          have hN40 : N ≤ 40 := by rw [← hN]; exact Nat.le_trans (List.length_filter_le _ _) (by decide)
          rw [hN] at ID
          clear hN ok7
          go_wp2_with fail
          refine ID.mono ?_
          rintro e w8 ⟨uu, rfl, o8, B8⟩
          clear ID
          obtain ⟨ua, uc, rfl, hul, -, -, urow, -, -⟩ := row_of_owns o8
          have hix := fun k (hk : k < N) => idx_at1 (P := Tryz.prog) (T := 33) Tryz.underlying33 szI (cap := uc) (a := ua) (fun _ => urow.nn (by rw [hul]; omega)) hk
          have UC := hid (fun (W : World) (Bw : Below w8.heap.size w8 W) (k : Nat) (id : Int) (hk : (idsOf R7)[k]? = some id) => (show W.cell? ⟨sB ua, sO ua + k, none⟩ = some (.int .i64 id) from (urow.below Bw (Nat.le_refl _)).cell k (.int .i64 id) (by rw [I8, List.getElem?_map, hk]; rfl)))
          have HB8 := hid B8
          clear o8 B8 hul urow
          go_wp2_with fail
          go_loopw [18, 154] (fun u18 u154 wr => ∃ (j t : Nat), u18 = .int .i64 t ∧ u154 = .int .i64 j ∧ j ≤ N ∧ t ≤ u ∧ Hid (t = 1 + takeL R7.data ((idsOf R7).take j)) ∧ Hid (Below w8.heap.size w8 wr)) (fun _ u154 _ => N - (intOf u154).toNat)
          case atStart => exact ⟨0, 1, rfl, rfl, Nat.zero_le _, by have h1 := HU.out; have h2 := HUU.out; omega, hid rfl, hid (Below.refl _ _)⟩
          case round =>
            obtain ⟨j, t, rfl, rfl, hj, htu, HT, BJ⟩ := hrel
            by_cases hjN : j < N
            · have hjm : j < (idsOf R7).length := by rw [HN.out]; exact hjN
              obtain ⟨id, hidk⟩ : ∃ id, (idsOf R7)[j]? = some id := ⟨_, List.getElem?_eq_getElem hjm⟩
              have hmem := List.mem_of_getElem? hidk
              have hidb := HID.out id hmem
              obtain ⟨x, hx⟩ := Option.isSome_iff_exists.1 (List.mem_filter.1 hmem).2
              have HK := hid hidk
              have hixj := hix j hjN
              have hji : (j : Int) < (N : Int) := by omega
              have hj0 : (0 : Int) ≤ (j : Int) := by omega
              have ck := UC.out wr BJ.out j id hidk
              have BW := hid (HB8.out.trans (BJ.out.mono HB8.out.size))
              have GEj := GE.out wr BW.out id (by omega)
              rw [hx, bytes_of hx] at GEj
              have hxl := HOK.out.b id x hx
              obtain ⟨bl, hbl⟩ : ∃ bl, x.1.length = bl := ⟨_, rfl⟩
              rw [hbl] at hxl
              have HBL := hid hbl
              have hbl6 : bl ≤ 60000 := hxl.1
              rw [hbl] at GEj
              have HDX := hid (show R7.data id = some x.1 by unfold Rcs.data; rw [hx]; rfl)
              have TK := takes_any bl
              have hgo := hid (show (idsOf R7).take (j + 1) = (idsOf R7).take j ++ [id] by rw [List.take_add_one, hidk]; rfl)
              have hgt := hid (show takeL R7.data ((idsOf R7).take (j + 1)) = takeL R7.data ((idsOf R7).take j) + takes bl by
                rw [hgo.out, takeL_append]
                show _ + (takes ((R7.data id).getD []).length + 0) = _
                rw [HDX.out, ← HBL.out]; rfl)
              have hgu := hid (show 1 + takeL R7.data ((idsOf R7).take (j + 1)) ≤ u by
                have h1 := HU.out
                rw [HUU.out] at h1
                have h2 := takeL_append R7.data ((idsOf R7).take (j + 1)) ((idsOf R7).drop (j + 1))
                rw [List.take_append_drop] at h2
                omega)
              obtain ⟨tk, htk⟩ : ∃ tk, takes bl = tk := ⟨_, rfl⟩
              rw [htk] at TK
              have htk2 : t + tk ≤ u := by have h1 := hgu.out; rw [hgt.out, htk] at h1; have h2 := HT.out; omega
              have HTK := hid htk
              have i1 : decide (id < 1) = false := decide_eq_false (by omega)
              have i2 : decide (40 < id) = false := decide_eq_false (by omega)
              have i3 : decide ((60000 : Int) < (bl : Int)) = false := decide_eq_false (by omega)
              have i4 : decide (60000 < bl) = false := decide_eq_false (by omega)
              clear hmem hx hidk hxl hbl htk hjm
              go_wp2_with fail
              refine GEj.mono ?_
              rintro e w9 ⟨ub, rfl, o9, B9⟩
              clear GEj
              obtain ⟨ba, bc, rfl, hbl2, -, -, brow, -, -⟩ := row_of_owns o9
              have BW2 := hid (BW.out.trans (B9.mono BW.out.size))
              have BJ2 := hid (BJ.out.trans (B9.mono BJ.out.size))
              have ck2 := UC.out w9 BJ2.out j id HK.out
              have BWq := hid (fun nq => (show Below w7.heap.size w7 (w9.drewN nq) from Below.drewN BW2.out nq))
              clear o9 hbl2 B9 ck brow
              rcases Nat.eq_zero_or_pos j with hj00 | hjp
              · have hjd : decide ((0 : Int) < (j : Int)) = false := decide_eq_false (by omega)
                have hjd2 : decide (0 < j) = false := decide_eq_false (by omega)
                clear hj00
                go_wp2_with fail
                go_quiet (fail)
                go_wp2_with fail
                refine (TK _ (by omega)).mono ?_
                rintro e w3 ⟨rfl, rfl⟩
                go_wp2_with fail
                go_roundw
                case measure => simp [intOf]; omega
                case rel => exact ⟨j + 1, t + tk, by go_num, by go_num, by omega, htk2, hid (by rw [hgt.out, HTK.out]; have := HT.out; omega), hid (Below.drewN BJ2.out _)⟩
              · obtain ⟨i0, hi0⟩ : ∃ i0 : Nat, (j : Int) - 1 = (i0 : Int) := ⟨j - 1, by omega⟩
                have hi0N : i0 < N := by omega
                have hix0 := hix i0 hi0N
                obtain ⟨id0, hk0⟩ : ∃ id0, (idsOf R7)[i0]? = some id0 := ⟨_, List.getElem?_eq_getElem (by rw [HN.out]; exact hi0N)⟩
                have c0 := UC.out w9 BJ2.out i0 id0 hk0
                have hlt : decide (id ≤ id0) = false := by
                  have h1 := List.pairwise_iff_getElem.1 (idsOf_sorted R7) i0 j (by rw [HN.out]; exact hi0N) (by rw [HN.out]; exact hjN) (by omega)
                  rw [List.getElem?_eq_getElem (by rw [HN.out]; exact hi0N)] at hk0
                  have h2 := HK.out
                  rw [List.getElem?_eq_getElem (by rw [HN.out]; exact hjN)] at h2
                  rw [Option.some.inj hk0, Option.some.inj h2] at h1
                  exact decide_eq_false (by omega)
                have hjd : decide ((0 : Int) < (j : Int)) = true := decide_eq_true (by omega)
                have hjd2 : decide (0 < j) = true := decide_eq_true (by omega)
                have hw0 : IntKind.i64.wrap ((j : Int) - 1) = (i0 : Int) := by rw [hi0]; exact IntWalk.i64_in _ (by omega)
                have hi01 : (0 : Int) ≤ (i0 : Int) := by omega
                have hi02 : (i0 : Int) < (N : Int) := by omega
                clear hk0
                go_wp2_with fail
                go_quiet (fail)
                go_wp2_with fail
                refine (TK _ (by omega)).mono ?_
                rintro e w3 ⟨rfl, rfl⟩
                go_wp2_with fail
                go_roundw
                case measure => simp [intOf]; omega
                case rel => exact ⟨j + 1, t + tk, by go_num, by go_num, by omega, htk2, hid (by rw [hgt.out, HTK.out]; have := HT.out; omega), hid (Below.drewN BJ2.out _)⟩
            · obtain rfl : j = N := by omega
              have hjd : decide ((j : Int) < (j : Int)) = false := by simp
              have BW := hid (HB8.out.trans (BJ.out.mono HB8.out.size))
              have htE : t = u := by
                have h1 := HT.out
                rw [← HN.out, List.take_length] at h1
                have h2 := HU.out
                rw [HUU.out] at h2
                omega
              subst htE
              have FR2 := FR.out wr BW.out
              rw [HUU.out] at FR2
              go_wp2_with fail
              refine FR2.mono ?_
              rintro e w9 ⟨rfl, B9⟩
              have BW3 := BW.out.trans (B9.mono BW.out.size)
              have TR3 := TR.out w9 BW3
              clear FR2 B9
              go_wp2_with fail
              refine TR3.mono ?_
              rintro e w10 ⟨rfl, B10⟩
              clear TR3
              go_wp2_with fail
              go_ret
              exact ⟨by first | done | rfl | (show Ending.returned (.bool (_ == _)) = _; rw [beq_self_eq_true]), B7H.out.trans ((BW3.trans (B10.mono BW3.size)).mono B7H.out.size)⟩
    · have VR4H := hid VR4
      clear KE VR4 VRk
      go_wp2_with fail
      go_ret
      exact ⟨rfl, HB1.out.trans (VR4H.out.since.mono HB1.out.size)⟩

end Go.Proofs.YtleoelhhndeheaaGreat
