/- DrumTurns: the walk -/
import Derived.Test.YtfijglkealnopaaLookB
import Derived.Test.YtfijglkealnopaaStepRow
import Derived.Test.YtfijglkealnopaaTurnsRows
import Derived.Test.YtfijglkealnopaaSame
import Derived.Test.YtfijglkealnopaaHand
import Derived.Deep.Cut
import Derived.Deep.CutBlock
import Derived.Deep.CutRange
import Derived.Deep.DeepCutAuto
open Go Go.RowKit
namespace Go.Proofs.Ytfijglkealnopaa

theorem DS.settle_n (s : DS) : s.settle.n = s.n := by
  unfold DS.settle
  split
  · exact (turn_parts s).1
  · exact (turn_parts s).1

theorem DS.lay_n (s : DS) (k : Int) (zs : List Int) : (s.lay k zs).n = s.n := by
  unfold DS.lay
  split
  · split
    · exact (turn_parts s).1
    · exact (turn_parts s).1
  · rfl

set_option maxRecDepth 100000 in
set_option maxHeartbeats 4000000 in
theorem drumTurns_walk (tr : Int) (a : Option Addr) (len cap : Nat) (X : Nat → TurnN) (Y : Nat → TurnR) (w : World) (htr : -9223372036854775808 ≤ tr ∧ tr ≤ 9223372036854775807) (hT : TurnsAt w a len X) (hY : TurnsRows w a len Y) :
    Calls Try.prog 5 #[.int .i64 tr, .slice a len cap] w fun e w' => e = .returned (.bool true) ∧ Below w.heap.size w w' := by
  have hlen := hT.len
  simp only [maxLen] at hlen
  obtain ⟨n0, hn0, hn1⟩ : ∃ n0 : Nat, tr % 10 = (n0 : Int) ∧ n0 < 10 := ⟨(tr % 10).toNat, by omega, by omega⟩
  have PK := fun W => pick_any tr 10 W htr (by omega) (by omega)
  rw [hn0] at PK
  obtain ⟨N, hN, hN1, hN2⟩ : ∃ N : Nat, (10 : Int) + (n0 : Int) = (N : Int) ∧ 10 ≤ N ∧ N < 20 := ⟨10 + n0, by omega, by omega, by omega⟩
  clear hn0
  go_enter Try.func5, Try.ntmps5
  go_wp2_with fail
  refine (known4_any w).mono ?_
  rintro e w1 ⟨rfl, B1⟩
  go_wp2_with fail
  refine (PK w1).mono ?_
  rintro e w1' ⟨rfl, rfl⟩
  go_wp2_with fail
  refine (newn_any N w1 (by omega) (by omega)).mono ?_
  rintro e w2 ⟨d, M, rfl, D2, hM2, B2⟩
  go_wp2_with fail
  refine (known4_any w2).mono ?_
  rintro e w3 ⟨rfl, B3⟩
  have O3 : One w w3 M d (DS.new N) := One.below ⟨D2, fun q hq => Nat.le_trans B1.size (hM2 q hq), B1.trans (B2.mono B1.size)⟩ B3
  have O3 := hid O3
  clear D2 hM2 B1 B2 B3
  go_wp2_with fail
  refine (rnew_any N w3 (by omega) (by omega)).mono ?_
  rintro e w4 ⟨r, R, rfl, R4, hR4, B4⟩
  have DU := hid (Duo.start O3.out R4 hR4 B4)
  have AG := hid (Agree.new N)
  clear R4 hR4 B4 O3
  go_wp2_with fail
  go_loopg [8] 50 (fun q v wr => ∃ (i : Nat) (M R : Dom) (s : DS) (t : RS), Hid (50 - i = q) ∧ v = .int .i64 i ∧ i ≤ len ∧ i ≤ 50 ∧ Hid (Duo w wr M R d r s t) ∧ Hid (Agree s t) ∧ Hid (s.n = N) ∧ Hid (s.turns ≤ i) ∧ Hid (s.up.length ≤ i))
  case atStart => exact ⟨0, _, _, _, _, hid rfl, rfl, Nat.zero_le _, by omega, DU, AG, hid rfl, hid (Int.le_refl _), hid (Nat.le_refl _)⟩
  case round =>
    obtain ⟨i, M1, R1, s, t, hq, rfl, hi1, hi2, DU1, AG1, HN, HT, HU⟩ := hrel
    by_cases hlt : i < len ∧ i < 50
    · obtain ⟨hlt1, hlt2⟩ := hlt
      have hix := idx_at (P := Try.prog) (T := 22) Try.underlying22 (show (Try.prog.info? 33).map (·.size) = some 6 by kernel_rfl) (cap := cap) hT.nn hlt1
      have TT := hT.below DU1.out.bel (Nat.le_refl _)
      have YY := hY.below DU1.out.bel (Nat.le_refl _)
      have e0 := TT.c0 i hlt1
      have e1 := TT.c1 i hlt1
      have e2 := TT.c2 i hlt1
      have e3 := TT.c3 i hlt1
      have e4 := YY.c4 i hlt1
      have e5 := YY.c5 i hlt1
      have RO := hid (YY.ok i hlt1)
      obtain ⟨bw, bk, bn, bc⟩ := TT.bd i hlt1
      obtain ⟨⟨xw, xk, xn, xc⟩, hX⟩ : ∃ x, X i = x := ⟨_, rfl⟩
      obtain ⟨⟨ba, bl, bcp, bz, ka, kl, kcp, kz⟩, hYi⟩ : ∃ y, Y i = y := ⟨_, rfl⟩
      rw [hX] at e0 e1 e2 e3 bw bk bn bc
      rw [hYi] at e4 e5 RO
      simp only at e0 e1 e2 e3 e4 e5 bw bk bn bc
      obtain ⟨kk, hkk, hkk2⟩ : ∃ kk : Nat, xk % ((N : Int) + 2) = (kk : Int) ∧ kk < N + 2 := by
        have h1 := Int.emod_nonneg xk (show ((N : Int) + 2) ≠ 0 by omega)
        have h2 := Int.emod_lt_of_pos xk (show (0 : Int) < (N : Int) + 2 by omega)
        exact ⟨(xk % ((N : Int) + 2)).toNat, by omega, by omega⟩
      obtain ⟨wh, hwh, hwh2⟩ : ∃ wh : Nat, xw % 9 = (wh : Int) ∧ wh < 9 := ⟨(xw % 9).toNat, by omega, by omega⟩
      have PKk := fun W => pick_any xk ((N : Int) + 2) W bk (by omega) (by omega)
      have PKw := fun W => pick_any xw 9 W bw (by omega) (by omega)
      rw [hkk] at PKk
      rw [hwh] at PKw
      clear hkk hwh hX hYi TT YY
      obtain ⟨W1, hW1⟩ : ∃ W1, wr.alloc (.cells #[.int .i64 xw, .int .i64 xk, .int .i64 xn, .int .i64 xc, .slice ba bl bcp, .slice ka kl kcp] 33) = W1 := ⟨_, rfl⟩
      have BW1 : Below wr.heap.size wr W1 := by rw [← hW1]; exact (Below.refl _ _).alloc (Nat.le_refl _) _
      have x1 : W1.heap[wr.heap.size]? = some (.cells #[.int .i64 xw, .int .i64 xk, .int .i64 xn, .int .i64 xc, .slice ba bl bcp, .slice ka kl kcp] 33 (0, 0)) := by rw [← hW1]; exact blk_new _ _
      obtain ⟨xb, hxb⟩ : ∃ xb, wr.heap.size = xb := ⟨_, rfl⟩
      rw [hxb] at x1
      have y0 : W1.cell? ⟨xb, 0, none⟩ = some (.int .i64 xw) := blk_cell x1 rfl
      have y1 : W1.cell? ⟨xb, 1, none⟩ = some (.int .i64 xk) := blk_cell x1 rfl
      have y2 : W1.cell? ⟨xb, 2, none⟩ = some (.int .i64 xn) := blk_cell x1 rfl
      have y3 : W1.cell? ⟨xb, 3, none⟩ = some (.int .i64 xc) := blk_cell x1 rfl
      have y4 : W1.cell? ⟨xb, 4, none⟩ = some (.slice ba bl bcp) := blk_cell x1 rfl
      have y5 : W1.cell? ⟨xb, 5, none⟩ = some (.slice ka kl kcp) := blk_cell x1 rfl
      have DW := hid (DU1.out.below BW1)
      have RW := hid (RO.out.below BW1 (Nat.le_refl _))
      have lxb : xb < W1.heap.size := lt_of_blk x1
      clear x1 RO BW1
      go_wp2_with fail
      refine (PKk _).mono ?_
      rintro e w5 ⟨rfl, rfl⟩
      go_wp2_with fail
      refine (PKw _).mono ?_
      rintro e w5 ⟨rfl, rfl⟩
      go_upto_block 2 with fail
      go_cut [11] (fun v W => v = .bool true ∧ ∃ (M' R' : Dom) (s' : DS) (t' : RS), Hid (Duo w W M' R' d r s' t') ∧ Hid (Agree s' t') ∧ Hid (s'.n = N) ∧ Hid (s'.turns ≤ i + 1) ∧ Hid (s'.up.length ≤ i + 1))
      case first =>
        as_aux_lemma =>
        by_cases h6 : wh = 6
        · subst h6
          have hs9 : s.turns ≤ 999 := by have := HT.out; omega
          have ST := settle_any DW.out.drum
          obtain ⟨G1, G2, G3⟩ := AG1.out.settle hs9
          obtain ⟨-, G4, -⟩ := AG1.out.turn hs9
          have hrt : t.turns < 1000000 := by have := AG1.out.turns; omega
          have GA := hid G1
          have GT := hid G2
          have GU := hid G3
          rw [G4] at ST
          obtain ⟨cd, hcd⟩ : ∃ cd, t.code = cd := ⟨_, rfl⟩
          rw [hcd] at ST
          have HCD := hid hcd
          clear G1 G2 G3 G4 hcd hs9
          go_wp2_with fail
          refine ST.mono ?_
          rintro e w6 ⟨rfl, M6, D6, S6⟩
          have DU6 := hid (DW.out.dstep D6 S6)
          have RT := rsettle_any DU6.out.ref hrt
          rw [HCD.out] at RT
          clear ST D6 S6
          go_wp2_with fail
          refine RT.mono ?_
          rintro e w7 ⟨rfl, R7, H7, S7⟩
          have DU7 := hid (DU6.out.rstep H7 S7)
          clear RT H7 S7
          go_wp2_with fail
          go_meet
          exact ⟨rfl, _, _, _, _, DU7, GA, hid (by rw [← HN.out]; exact DS.settle_n s), hid (by have := GT.out; have := HT.out; omega), hid (by have := GU.out; have := HU.out; omega)⟩
        · by_cases h7 : wh = 7
          · subst h7
            obtain ⟨n12, hn12, hn12b⟩ : ∃ n : Nat, xn % 12 = (n : Int) ∧ n < 12 := ⟨(xn % 12).toNat, by omega, by omega⟩
            obtain ⟨n110, hn110, hn110b⟩ : ∃ n : Nat, xc % 110 = (n : Int) ∧ n < 110 := ⟨(xc % 110).toNat, by omega, by omega⟩
            have PA := fun W => pick_any xn 12 W bn (by omega) (by omega)
            have PB := fun W => pick_any xc 110 W bc (by omega) (by omega)
            rw [hn12] at PA
            rw [hn110] at PB
            obtain ⟨i0, hi0, hz0, hz1, hz2⟩ := info_parts iI
            have hixk := fun k (hk : k < kl) => idx_at1 (P := Try.prog) (T := 23) Try.underlying23 szI (cap := kcp) (fun _ => RW.out.krow.row.nn (by rw [I8_length, RW.out.krow.len]; show 0 < kl; omega)) hk
            clear hn12 hn110
            go_wp2_with fail
            refine (PA _).mono ?_
            rintro e w5 ⟨rfl, rfl⟩
            go_wp2_with fail
            refine (PB _).mono ?_
            rintro e w5 ⟨rfl, rfl⟩
            go_wp2_with fail
            go_loopw [14, 15] (fun u v wx => ∃ (j : Nat) (o : Value), o = u ∧ v = .int .i64 j ∧ j ≤ kl ∧ j ≤ 8 ∧ wx.ownsRow W1.heap.size 3 1 o j (I8 ((kz.take j).map fun x => x % 12 - 1)) ∧ Below W1.heap.size W1 wx) (fun _ v _ => 8 - (intOf v).toNat)
            case atStart => exact ⟨0, _, rfl, rfl, Nat.zero_le _, by omega, World.ownsRow_nil _ _ _ _, Below.refl _ _⟩
            case round =>
              obtain ⟨j, o, rfl, rfl, hj, hj8, OW, BJ⟩ := hrel
              have z5 := Below.cellAt BJ lxb y5
              by_cases hjk : j < kl ∧ j < 8
              · obtain ⟨hjk1, hjk2⟩ := hjk
                have hjl : j < kz.length := by rw [RW.out.krow.len]; exact hjk1
                have cj := (RW.out.krow.row.below BJ (Nat.le_refl _)).num hjl
                have hixj := hixk j hjk1
                have bx := RW.out.kbd.get j
                have TK := take_succ_get hjl
                obtain ⟨x, hx⟩ : ∃ x, kz[j]?.getD 0 = x := ⟨_, rfl⟩
                simp only at cj bx
                rw [hx] at cj bx TK
                have HTK := hid TK
                obtain ⟨y, hy, hy2⟩ : ∃ y : Nat, x % 12 = (y : Int) ∧ y < 12 := ⟨(x % 12).toNat, by omega, by omega⟩
                have PC := pick_any x 12 wr bx (by omega) (by omega)
                rw [hy] at PC
                have HY := hid hy
                have hbs : W1.heap.size ≤ (wr.alloc (.cells #[.int .i64 ((y : Int) - 1)] 3)).heap.size := by have := BJ.size; simp; omega
                clear hx hjl TK hy
                go_wp2_with fail
                refine PC.mono ?_
                rintro e w5 ⟨rfl, rfl⟩
                go_wp2_with (at_builtin; refine wpList_append_row (P := Try.prog) rfl _ _ 23 rfl W1.heap.size 3 i0 (.int .i64 0) Try.underlying23 hi0 hz0 hz1 (by omega) rfl o j _ rfl (OW.alloc _) (some ⟨wr.heap.size, 0, none⟩) 1 1 [.int .i64 ((y : Int) - 1)] rfl (row_new _ _ _) rfl (fun h => by cases h) (fun u hu => by simp at hu; subst hu; rfl) ?c4 ?c5 ?_)
                case c4 => omega
                case c5 => exact hbs
                intro v' w4 o4 B4 _
                go_wp2_with fail
                go_roundw
                case measure => simp [intOf]; omega
                case rel =>
                  refine ⟨j + 1, v', rfl, by go_num, by omega, by omega, ?_, (BJ.alloc (by have := BJ.size; omega) _).trans B4⟩
                  rw [HTK.out, List.map_append]
                  simp only [List.map_cons, List.map_nil, HY.out]
                  simpa using o4
              · by_cases hk8 : j < kl
                · obtain rfl : j = 8 := by omega
                  have h9 : (8 : Int) < (kl : Int) := by omega
                  clear hjk
                  have ho := OW
                  obtain ⟨fa, fc, rfl⟩ := owns_slice ho
                  obtain ⟨keep, hkeep⟩ : ∃ keep : List Int, (kz.take 8).map (fun x => x % 12 - 1) = keep := ⟨_, rfl⟩
                  rw [hkeep] at ho
                  have hkl : keep.length = 8 := by
                    have := ho.1
                    simp only [I8_length, Nat.mul_one] at this
                    exact this
                  have RKP : Row wr fa (I8 keep) := by
                    obtain ⟨_, _, e8, -, -, -, hrw, -, -⟩ := row_of_owns ho
                    cases e8
                    exact hrw
                  have hblk : 0 < 8 → W1.heap.size ≤ sB fa ∧ sB fa < wr.heap.size := fun h0 => by
                    obtain ⟨_, _, e8, -, -, -, -, hb, -⟩ := row_of_owns ho
                    cases e8
                    exact hb h0
                  have IK : IntsAt wr fa 8 fc keep := ⟨RKP, hkl, owns_cap ho, by omega⟩
                  have DJ := hid (DW.out.below BJ)
                  have FA := fall_any DJ.out.drum fa 8 fc keep ((n12 : Int) - 1) ((n110 : Int) - 5) IK (fun h0 hm => by have := DW.out.drum.ml _ hm; have := hblk h0; omega)
                  have GA := hid (AG1.out.fall DW.out.drum.wf.1 DW.out.drum.wf.2 keep ((n12 : Int) - 1) ((n110 : Int) - 5))
                  have IKH := hid IK
                  have HBK := hid hblk
                  clear hkeep ho RKP IK hblk hkl
                  go_wp2_with fail
                  refine FA.mono ?_
                  rintro e w6 ⟨rfl, M6, D6, S6⟩
                  have DU6 := hid (DJ.out.dstep D6 S6)
                  have RF := rfall_any DU6.out.ref fa 8 fc keep ((n12 : Int) - 1) ((n110 : Int) - 5) (IKH.out.ext S6.ext (fun h0 hm => by have := DW.out.drum.ml _ hm; have := HBK.out h0; omega)) (fun h0 hm => by have := DW.out.ref.rl _ hm; have := HBK.out h0; omega)
                  clear FA D6 S6
                  go_wp2_with fail
                  refine RF.mono ?_
                  rintro e w7 ⟨rfl, R7, H7, S7⟩
                  have DU7 := hid (DU6.out.rstep H7 S7)
                  clear RF H7 S7
                  go_wp2_with fail
                  go_meet
                  exact ⟨rfl, _, _, _, _, DU7, GA, hid HN.out, hid (by show s.turns ≤ _; have := HT.out; omega), hid (Nat.zero_le _)⟩
                · obtain rfl : kl = j := by omega
                  clear hjk
                  have ho := OW
                  obtain ⟨fa, fc, rfl⟩ := owns_slice ho
                  obtain ⟨keep, hkeep⟩ : ∃ keep : List Int, (kz.take kl).map (fun x => x % 12 - 1) = keep := ⟨_, rfl⟩
                  rw [hkeep] at ho
                  have hkl : keep.length = kl := by
                    have := ho.1
                    simp only [I8_length, Nat.mul_one] at this
                    exact this
                  have RKP : Row wr fa (I8 keep) := by
                    obtain ⟨_, _, e8, -, -, -, hrw, -, -⟩ := row_of_owns ho
                    cases e8
                    exact hrw
                  have hblk : 0 < kl → W1.heap.size ≤ sB fa ∧ sB fa < wr.heap.size := fun h0 => by
                    obtain ⟨_, _, e8, -, -, -, -, hb, -⟩ := row_of_owns ho
                    cases e8
                    exact hb h0
                  have IK : IntsAt wr fa kl fc keep := ⟨RKP, hkl, owns_cap ho, by omega⟩
                  have DJ := hid (DW.out.below BJ)
                  have FA := fall_any DJ.out.drum fa kl fc keep ((n12 : Int) - 1) ((n110 : Int) - 5) IK (fun h0 hm => by have := DW.out.drum.ml _ hm; have := hblk h0; omega)
                  have GA := hid (AG1.out.fall DW.out.drum.wf.1 DW.out.drum.wf.2 keep ((n12 : Int) - 1) ((n110 : Int) - 5))
                  have IKH := hid IK
                  have HBK := hid hblk
                  clear hkeep ho RKP IK hblk hkl
                  go_wp2_with fail
                  refine FA.mono ?_
                  rintro e w6 ⟨rfl, M6, D6, S6⟩
                  have DU6 := hid (DJ.out.dstep D6 S6)
                  have RF := rfall_any DU6.out.ref fa kl fc keep ((n12 : Int) - 1) ((n110 : Int) - 5) (IKH.out.ext S6.ext (fun h0 hm => by have := DW.out.drum.ml _ hm; have := HBK.out h0; omega)) (fun h0 hm => by have := DW.out.ref.rl _ hm; have := HBK.out h0; omega)
                  clear FA D6 S6
                  go_wp2_with fail
                  refine RF.mono ?_
                  rintro e w7 ⟨rfl, R7, H7, S7⟩
                  have DU7 := hid (DU6.out.rstep H7 S7)
                  clear RF H7 S7
                  go_wp2_with fail
                  go_meet
                  exact ⟨rfl, _, _, _, _, DU7, GA, hid HN.out, hid (by show s.turns ≤ _; have := HT.out; omega), hid (Nat.zero_le _)⟩
          · by_cases h8 : wh = 8
            · subst h8
              obtain ⟨n9, hn9, hn9b⟩ : ∃ n : Nat, xn % 9 = (n : Int) ∧ n < 9 := ⟨(xn % 9).toNat, by omega, by omega⟩
              have PA := fun W => pick_any xn 9 W bn (by omega) (by omega)
              rw [hn9] at PA
              have BA := break_any DW.out.drum ((n9 : Int) - 2)
              have GA := hid (AG1.out.brk (a := (n9 : Int) - 2) (by omega))
              clear hn9
              go_wp2_with fail
              refine (PA _).mono ?_
              rintro e w5 ⟨rfl, rfl⟩
              go_wp2_with fail
              refine BA.mono ?_
              rintro e w6 ⟨rfl, M6, D6, S6⟩
              have DU6 := hid (DW.out.dstep D6 S6)
              have RB := rbreak_any DU6.out.ref ((n9 : Int) - 2) (by omega)
              clear BA D6 S6
              go_wp2_with fail
              refine RB.mono ?_
              rintro e w7 ⟨rfl, H7, S7⟩
              have DU7 := hid (DU6.out.rstep H7 S7)
              clear RB H7 S7
              go_wp2_with fail
              go_meet
              exact ⟨rfl, _, _, _, _, DU7, GA, hid HN.out, hid (by show s.turns ≤ _; have := HT.out; omega), hid (by show s.up.length ≤ _; have := HU.out; omega)⟩
            · obtain ⟨i0, hi0, hz0, hz1, hz2⟩ := info_parts iB
              have q6 : ((wh : Int) == 6) = false := by simp; omega
              have q7 : ((wh : Int) == 7) = false := by simp; omega
              have q8 : ((wh : Int) == 8) = false := by simp; omega
              have r6 : ¬ ((wh : Int) = 6) := by omega
              have r7 : ¬ ((wh : Int) = 7) := by omega
              have r8 : ¬ ((wh : Int) = 8) := by omega
              obtain ⟨yb, hyb⟩ : ∃ yb, IntKind.u8.wrap xn = yb := ⟨_, rfl⟩
              have hbr : bl ≤ 140737488351232 := RW.out.breach
              have blen : bz.length = bl := RW.out.blen
              have own0 : ∀ W : World, W1.heap.size ≤ W.heap.size → (W.alloc (.cells #[] 5)).ownsRow W1.heap.size 5 1 (.slice (some ⟨W.heap.size, 0, none⟩) 0 0) 0 [] := fun W h => owns_mono (World.ownsRow_lit W #[] 0 (Nat.le_refl _) (by simp [maxLen]) rfl) h
              have HYB := hid hyb
              have HBL := hid blen
              have S0 : W1.drew.cell? ⟨xb, 4, none⟩ = some (.slice ba bl bcp) ∧ W1.drew.cell? ⟨xb, 2, none⟩ = some (.int .i64 xn) := ⟨y4, y2⟩
              have hb1 : i0.bytes ≤ 8 := by omega
              have hc3 : 0 + bl ≤ maxLen := by simp only [maxLen]; omega
              have hc4 : (0 + bl) * i0.bytes ≤ 140737488355328 := by rw [hz2]; omega
              have hc5 : 0 + bl + 96 ≤ maxLen := by simp only [maxLen]; omega
              have hc6 : (0 + bl + 96) * i0.bytes ≤ 140737488355328 := by rw [hz2]; omega
              clear hyb blen
              go_upto_region 15 with fail
              go_cut [17] (fun v W => ∃ (g c : Nat), v = .slice (some ⟨g, 0, none⟩) (bl + 96) c ∧ Hid (W.ownsRow W1.heap.size 5 1 (.slice (some ⟨g, 0, none⟩) (bl + 96) c) (bl + 96) (B8 (bz ++ rep yb))) ∧ Hid (Below W1.heap.size W1 W))
              case first =>
                as_aux_lemma =>
                have hzs : True := trivial
                have SB : ∀ W, Below W1.heap.size W1 W → Below W1.heap.size W1 W ∧ W.cell? ⟨xb, 4, none⟩ = some (.slice ba bl bcp) ∧ W.cell? ⟨xb, 2, none⟩ = some (.int .i64 xn) := fun W h => ⟨h, Below.cellAt h lxb y4, Below.cellAt h lxb y2⟩
                have HBLB := hid (show (B8 bz).length = bl by rw [B8_length]; exact HBL.out)
                have REL : ∀ (W : World) (v : Value), W.ownsRow W1.heap.size 5 1 v (0 + bl + 96) ([] ++ B8 bz ++ B8 (rep yb)) → W.ownsRow W1.heap.size 5 1 v (bl + 96) (B8 (bz ++ rep yb)) := fun W v h => by
                  rw [Nat.zero_add, List.nil_append] at h
                  rw [B8, List.map_append]
                  exact h
                clear DW AG1 HN HT HU hT hY S0 hzs
                refine wp_region_held_drew (S := fun w' => Below W1.heap.size W1 w' ∧ w'.cell? ⟨xb, 4, none⟩ = some (.slice ba bl bcp) ∧ w'.cell? ⟨xb, 2, none⟩ = some (.int .i64 xn)) (by kernel_rfl) (SB _ (Below.refl _ _).drew) (fun hHeld => ?_)
                refine wpAnyH_take (i := 1) (v := ?v1) (by simp only [List.getElem?_toArray, List.getElem?_cons_zero, List.getElem?_cons_succ]; rfl) (by kernel_rfl) (by kernel_rfl) (by kernel_rfl) (by exact fun _ _ _ h => h) (Or.inl ⟨by rfl, ?h1⟩) (by assumption) ?r1
                case h1 => (intro w hSw; (try dsimp only at hSw); go_simp; try with_reducible rfl)
                try simp only [Act.put, List.setIfInBounds_toArray, List.set_cons_zero, List.set_cons_succ]
                refine wpAnyH_take (i := 2) (v := ?v2) (by simp only [List.getElem?_toArray, List.getElem?_cons_zero, List.getElem?_cons_succ]; rfl) (by kernel_rfl) (by kernel_rfl) (by kernel_rfl) (by exact fun _ _ _ h => h) (Or.inl ⟨by rfl, ?h2⟩) (by assumption) ?r2
                case h2 => (intro w hSw; (try dsimp only at hSw); go_simp; try with_reducible rfl)
                try simp only [Act.put, List.setIfInBounds_toArray, List.set_cons_zero, List.set_cons_succ]
                refine wpAnyH_take (i := 4) (v := ?v4) (by simp only [List.getElem?_toArray, List.getElem?_cons_zero, List.getElem?_cons_succ]; rfl) (by kernel_rfl) (by kernel_rfl) (by kernel_rfl) (by exact fun _ _ _ h => h) (Or.inl ⟨by rfl, ?h4⟩) (by assumption) ?r4
                case h4 => (intro w hSw; (try dsimp only at hSw); go_simp; try with_reducible rfl)
                try simp only [Act.put, List.setIfInBounds_toArray, List.set_cons_zero, List.set_cons_succ]
                refine wpAnyH_take (i := 5) (v := ?v5) (by simp only [List.getElem?_toArray, List.getElem?_cons_zero, List.getElem?_cons_succ]; rfl) (by kernel_rfl) (by kernel_rfl) (by kernel_rfl) (by exact fun _ _ _ h => h) (Or.inl ⟨by rfl, ?h5⟩) (by assumption) ?r5
                case h5 => (intro w hSw; (try dsimp only at hSw); go_simp; try with_reducible rfl)
                try simp only [Act.put, List.setIfInBounds_toArray, List.set_cons_zero, List.set_cons_succ]
                refine wpAnyH_ready (rs := [0]) (by kernel_rfl) (by simp) ?_
                refine (AllReadyH.cons (by simp only [List.getElem?_toArray, List.getElem?_cons_zero]; rfl) (fun K hK => ?_) AllReadyH.nil)
                go_simp
                have Ba := ((Below.refl W1.heap.size W1).drew).alloc (Below.size ((Below.refl W1.heap.size W1).drew)) (.cells #[] 5)
                have Oa := own0 W1.drew (Below.size ((Below.refl W1.heap.size W1).drew))
                refine hK.out _ _ (SB _ Ba) (fun hHa => ?_)
                clear hK
                try simp only [Act.put, List.setIfInBounds_toArray, List.set_cons_zero, List.set_cons_succ]
                refine wpAnyH_ready (rs := [3]) (by kernel_rfl) (by simp) ?_
                refine (AllReadyH.cons (by simp only [List.getElem?_toArray, List.getElem?_cons_zero, List.getElem?_cons_succ]; rfl) (fun K hK => ?_) AllReadyH.nil)
                refine step_append_rowB (P := Try.prog) (by rfl) _ _ 29 (by rfl) W1.heap.size 5 i0 (.int .u8 0) Try.underlying29 hi0 hz0 hz1 hb1 rfl _ 0 [] (by rfl) (Oa) ba bl bcp (B8 bz) (by rfl) (RW.out.brow.below (Ba) (Nat.le_refl _)) HBLB.out RW.out.bnil (B8_one _) hc3 hc4 (Below.size (Ba)) ?_
                intro vp wp Op Cp Gp
                have Bp := (Ba).trans Cp
                refine hK.out _ _ (SB _ Bp) (fun hHp => ?_)
                clear hK
                try simp only [Act.put, List.setIfInBounds_toArray, List.set_cons_zero, List.set_cons_succ]
                refine wpAnyH_ready (rs := [6]) (by kernel_rfl) (by simp) ?_
                refine (AllReadyH.cons (by simp only [List.getElem?_toArray, List.getElem?_cons_zero, List.getElem?_cons_succ]; rfl) (fun K hK => ?_) AllReadyH.nil)
                go_simp
                go_at_call 12
                refine (all_any xn _).mono ?_
                rintro e wq ⟨g, rfl, hbq, hgq, Cq⟩
                rw [HYB.out] at hbq
                have Bq := (Bp).trans (Cq.mono (Below.size (Bp)))
                refine hK.out _ _ (SB _ Bq) (fun hHq => ?_)
                clear hK
                try simp only [Act.put, List.setIfInBounds_toArray, List.set_cons_zero, List.set_cons_succ]
                refine wpAnyH_ready (rs := [7]) (by kernel_rfl) (by simp) ?_
                refine (AllReadyH.cons (by simp only [List.getElem?_toArray, List.getElem?_cons_zero, List.getElem?_cons_succ]; rfl) (fun K hK => ?_) AllReadyH.nil)
                refine step_append_rowB (P := Try.prog) (by rfl) _ _ 29 (by rfl) W1.heap.size 5 i0 (.int .u8 0) Try.underlying29 hi0 hz0 hz1 hb1 rfl _ (0 + bl) ([] ++ B8 bz) (by rfl) (Below.owns Cq (Nat.le_refl _) Op) (some ⟨g, 0, none⟩) 96 96 (B8 (rep yb)) (by rfl) (row_blk hbq) (by rw [B8_length, rep_length]) (fun h => by cases h) (B8_one _) hc5 hc6 (Below.size (Bq)) ?_
                intro vs ws Os Cs Gs
                have Bs := (Bq).trans Cs
                refine hK.out _ _ (SB _ Bs) (fun hHs => ?_)
                clear hK
                try simp only [Act.put, List.setIfInBounds_toArray, List.set_cons_zero, List.set_cons_succ]
                refine wpAnyH_take (i := 8) (v := ?v8) (by simp only [List.getElem?_toArray, List.getElem?_cons_zero, List.getElem?_cons_succ]; rfl) (by kernel_rfl) (by kernel_rfl) (by kernel_rfl) (by exact fun _ _ _ h => h) (Or.inl ⟨by rfl, ?h8⟩) (by assumption) ?r8
                case h8 => (intro w hSw; (try dsimp only at hSw); go_simp; try with_reducible rfl)
                try simp only [Act.put, List.setIfInBounds_toArray, List.set_cons_zero, List.set_cons_succ]
                refine wpAnyH_done (by kernel_rfl) ?_ _
                obtain ⟨gg, cc, hvv⟩ : ∃ gg cc, vs = .slice (some ⟨gg, 0, none⟩) (bl + 96) cc := own_some Os ⟨by omega, by omega⟩
                subst hvv
                go_wp2_with fail
                go_meet
                exact ⟨gg, cc, rfl, hid (REL _ _ Os), hid Bs⟩
              case rest =>
                obtain ⟨g, c, rfl, OV, BV⟩ := hcut
                have hcc : bl + 96 ≤ c := by
                  obtain ⟨_, _, hh, hcap⟩ := owns_some OV.out (by omega)
                  cases hh
                  exact hcap
                have hc96 : (96 : Int) ≤ (c : Int) := by omega
                have hc95 : (95 : Int) ≤ (c : Int) := by omega
                have hn96 : 96 ≤ c := by omega
                have hn95 : 95 ≤ c := by omega
                have z3 := Below.cellAt BV.out lxb y3
                obtain ⟨n40, hn40, hn40b⟩ : ∃ n : Nat, xc % 40 = (n : Int) ∧ n < 40 := ⟨(xc % 40).toNat, by omega, by omega⟩
                have PA := fun W => pick_any xc 40 W bc (by omega) (by omega)
                rw [hn40] at PA
                clear hn40
                go_wp2_with fail
                refine (PA _).mono ?_
                rintro e w5 ⟨rfl, rfl⟩
                by_cases h39 : n40 = 39
                · subst h39
                  have hzl : ((bz ++ rep yb).take 95).length = 95 := by rw [List.length_take, List.length_append, rep_length]; omega
                  have hzb : IsBytes ((bz ++ rep yb).take 95) := fun n hn => by
                    have hn := List.mem_of_mem_take hn
                    rcases List.mem_append.1 hn with h | h
                    · exact RW.out.bby n h
                    · rw [← HYB.out] at h; exact rep_bytes n h
                  have hs9 : s.turns ≤ 999 := by have := HT.out; omega
                  obtain ⟨G1, G2, G3, G4⟩ := AG1.out.lay hs9 ((kk : Int) - 1) ((bz ++ rep yb).take 95)
                  have hrt : t.turns < 1000000 := by have := AG1.out.turns; omega
                  have hru : t.up.length < 1000000 := by have := AG1.out.up; have := HU.out; rw [AG1.out.up]; omega
                  have hgl := OV.out.lt g rfl
                  have RV : Row wc (some ⟨g, 0, none⟩) (B8 ((bz ++ rep yb).take 95)) := by
                    obtain ⟨_, _, e8, -, -, -, hrw, -, -⟩ := row_of_owns OV.out
                    cases e8
                    have := hrw.take 95
                    rwa [B8, ← List.map_take] at this
                  have DV := hid (DW.out.below BV.out)
                  have LA := lay_any DV.out.drum ((kk : Int) - 1) (some ⟨g, 0, none⟩) 95 c ((bz ++ rep yb).take 95) RV hzl hzb (fun h => by cases h) (fun _ hm => by have := DW.out.drum.ml g hm; omega) (by have := HU.out; omega)
                  rw [G2] at LA
                  obtain ⟨cd, hcd⟩ : ∃ cd, t.layCode ((kk : Int) - 1) ((bz ++ rep yb).take 95) = cd := ⟨_, rfl⟩
                  rw [hcd] at LA
                  have HCD := hid hcd
                  have RVH := hid RV
                  have HZ2 := hid (And.intro hzl hzb)
                  have GA := hid G1
                  have GT := hid G3
                  have GU := hid G4
                  clear hzl hzb G1 G2 G3 G4 hcd RV
                  go_wp2_with fail
                  refine LA.mono ?_
                  rintro e w6 ⟨rfl, M6, D6, S6⟩
                  have DU6 := hid (DV.out.dstep D6 S6)
                  have RL := rlay_any DU6.out.ref hrt ((kk : Int) - 1) (some ⟨g, 0, none⟩) 95 c ((bz ++ rep yb).take 95) (RVH.out.ext S6.ext (fun _ hm => by have := DW.out.drum.ml g hm; omega)) HZ2.out.1 HZ2.out.2 (fun _ hm => by have := DW.out.ref.rl g hm; omega) hru
                  rw [HCD.out] at RL
                  clear LA D6 S6
                  go_wp2_with fail
                  refine RL.mono ?_
                  rintro e w7 ⟨rfl, R7, H7, S7⟩
                  have DU7 := hid (DU6.out.rstep H7 S7)
                  clear RL H7 S7
                  go_wp2_with fail
                  go_meet
                  exact ⟨rfl, _, _, _, _, DU7, GA, hid (by rw [← HN.out]; exact DS.lay_n s _ _), hid (by have := GT.out; have := HT.out; omega), hid (by have := GU.out; have := HU.out; omega)⟩
                · have hq0 : Int.tdiv (n40 : Int) 39 = 0 := Int.tdiv_eq_zero_of_lt (by omega) (by omega)
                  have hzl : ((bz ++ rep yb).take 96).length = 96 := by rw [List.length_take, List.length_append, rep_length]; omega
                  have hzb : IsBytes ((bz ++ rep yb).take 96) := fun n hn => by
                    have hn := List.mem_of_mem_take hn
                    rcases List.mem_append.1 hn with h | h
                    · exact RW.out.bby n h
                    · rw [← HYB.out] at h; exact rep_bytes n h
                  have hs9 : s.turns ≤ 999 := by have := HT.out; omega
                  obtain ⟨G1, G2, G3, G4⟩ := AG1.out.lay hs9 ((kk : Int) - 1) ((bz ++ rep yb).take 96)
                  have hrt : t.turns < 1000000 := by have := AG1.out.turns; omega
                  have hru : t.up.length < 1000000 := by have := AG1.out.up; have := HU.out; rw [AG1.out.up]; omega
                  have hgl := OV.out.lt g rfl
                  have RV : Row wc (some ⟨g, 0, none⟩) (B8 ((bz ++ rep yb).take 96)) := by
                    obtain ⟨_, _, e8, -, -, -, hrw, -, -⟩ := row_of_owns OV.out
                    cases e8
                    have := hrw.take 96
                    rwa [B8, ← List.map_take] at this
                  have DV := hid (DW.out.below BV.out)
                  have LA := lay_any DV.out.drum ((kk : Int) - 1) (some ⟨g, 0, none⟩) 96 c ((bz ++ rep yb).take 96) RV hzl hzb (fun h => by cases h) (fun _ hm => by have := DW.out.drum.ml g hm; omega) (by have := HU.out; omega)
                  rw [G2] at LA
                  obtain ⟨cd, hcd⟩ : ∃ cd, t.layCode ((kk : Int) - 1) ((bz ++ rep yb).take 96) = cd := ⟨_, rfl⟩
                  rw [hcd] at LA
                  have HCD := hid hcd
                  have RVH := hid RV
                  have HZ2 := hid (And.intro hzl hzb)
                  have GA := hid G1
                  have GT := hid G3
                  have GU := hid G4
                  clear hzl hzb G1 G2 G3 G4 hcd RV
                  go_wp2_with fail
                  refine LA.mono ?_
                  rintro e w6 ⟨rfl, M6, D6, S6⟩
                  have DU6 := hid (DV.out.dstep D6 S6)
                  have RL := rlay_any DU6.out.ref hrt ((kk : Int) - 1) (some ⟨g, 0, none⟩) 96 c ((bz ++ rep yb).take 96) (RVH.out.ext S6.ext (fun _ hm => by have := DW.out.drum.ml g hm; omega)) HZ2.out.1 HZ2.out.2 (fun _ hm => by have := DW.out.ref.rl g hm; omega) hru
                  rw [HCD.out] at RL
                  clear LA D6 S6
                  go_wp2_with fail
                  refine RL.mono ?_
                  rintro e w7 ⟨rfl, R7, H7, S7⟩
                  have DU7 := hid (DU6.out.rstep H7 S7)
                  clear RL H7 S7
                  go_wp2_with fail
                  go_meet
                  exact ⟨rfl, _, _, _, _, DU7, GA, hid (by rw [← HN.out]; exact DS.lay_n s _ _), hid (by have := GT.out; have := HT.out; omega), hid (by have := GU.out; have := HU.out; omega)⟩
      case rest =>
        as_aux_lemma =>
        obtain ⟨rfl, M2, R2, s2, t2, D2, A2, N2, T2, U2⟩ := hcut
        obtain ⟨p, hp, HP⟩ := D2.out.ref
        obtain ⟨aa, ac, hav⟩ := owns_slice HP.arow
        have c1 := HP.cells.2.1
        have c3 := HP.cells.2.2.2.1
        have c4 := HP.cells.2.2.2.2
        rw [hav] at c1
        rw [hp] at c1 c3 c4
        have hbq := A2.out.broken
        have htq := A2.out.turns
        rw [hbq] at c3
        rw [htq] at c4
        have ul := HP.ul
        obtain ⟨L, hL⟩ : ∃ L, t2.up.length = L := ⟨_, rfl⟩
        rw [hL] at c1 ul
        obtain ⟨bb, hbb⟩ : ∃ bb, s2.broken = bb := ⟨_, rfl⟩
        rw [hbb] at c3
        obtain ⟨tt, htt⟩ : ∃ tt, s2.turns = tt := ⟨_, rfl⟩
        rw [htt] at c4
        have HL := hid hL
        have HAV := hid hav
        have HPP := hid HP
        have HBB := hid hbb
        have HTT := hid htt
        have lr : r < wc.heap.size := by rw [← hp]; exact lt_of_blk HP.obj
        obtain ⟨i0, hi0, hz0, hz1, hz2⟩ := info_parts iI
        clear hL hav HP hbb htt hbq htq hp
        go_wp2_with fail
        go_loopw [18, 19] (fun u v wx => ∃ (j : Nat) (o : Value), o = u ∧ v = .int .i64 j ∧ j ≤ L ∧ wx.ownsRow wc.heap.size 3 1 o j (I8 ((t2.up.take j).map fun p => (p.1 : Int))) ∧ Below wc.heap.size wc wx) (fun _ v _ => L - (intOf v).toNat)
        case atStart => exact ⟨0, _, rfl, rfl, Nat.zero_le _, World.ownsRow_nil _ _ _ _, Below.refl _ _⟩
        case round =>
          obtain ⟨j, o, rfl, rfl, hj, OW, BJ⟩ := hrel
          have cj := Below.cellAt BJ lr c1
          by_cases hjL : j < L
          · have hjl : j < t2.up.length := by rw [HL.out]; exact hjL
            obtain ⟨g, cg, e9, k1, -, -, -, -⟩ := HPP.out.get hjl
            have e9 := HAV.out.symm.trans e9
            obtain ⟨rfl, rfl⟩ : aa = some ⟨g, 0, none⟩ ∧ ac = cg := by cases e9; exact ⟨rfl, rfl⟩
            have kj := Below.cellAt BJ (lt_of_cell k1) k1
            have TK : t2.up.take (j + 1) = t2.up.take j ++ [t2.up[j]] := by rw [List.take_add_one, List.getElem?_eq_getElem hjl]; rfl
            obtain ⟨x, hx⟩ : ∃ x, t2.up[j].1 = x := ⟨_, rfl⟩
            rw [hx] at kj
            have HX := hid hx
            have HTK := hid TK
            have hbs : wc.heap.size ≤ (wr.alloc (.cells #[.int .i64 x] 3)).heap.size := by have := BJ.size; simp; omega
            clear e9 k1 hx TK
            go_wp2_with (at_builtin; refine wpList_append_row (P := Try.prog) rfl _ _ 23 rfl wc.heap.size 3 i0 (.int .i64 0) Try.underlying23 hi0 hz0 hz1 (by omega) rfl o j _ rfl (OW.alloc _) (some ⟨wr.heap.size, 0, none⟩) 1 1 [.int .i64 x] rfl (row_new _ _ _) rfl (fun h => by cases h) (fun u hu => by simp at hu; subst hu; rfl) ?c4 ?c5 ?_)
            case c4 => omega
            case c5 => exact hbs
            intro v' w4 o4 B4 _
            go_wp2_with fail
            go_roundw
            case measure => simp [intOf]; omega
            case rel =>
              refine ⟨j + 1, v', rfl, by go_num, by omega, ?_, (BJ.alloc (by have := BJ.size; omega) _).trans B4⟩
              rw [HTK.out, List.map_append]
              simp only [List.map_cons, List.map_nil, HX.out]
              simpa using o4
          · obtain rfl : L = j := by omega
            obtain ⟨ua, uc, rfl⟩ := owns_slice OW
            have DJ := hid (D2.out.below BJ)
            obtain ⟨XS, hXS⟩ : ∃ XS : List Int, (s2.up.map fun p => (p.1 : Int)) = XS := ⟨_, rfl⟩
            have hup : t2.up.take L = s2.up := by rw [← HL.out, List.take_length, A2.out.up]
            have hXL : XS.length = L := by rw [← hXS, List.length_map, ← A2.out.up, HL.out]
            have hsu : s2.up.length = L := by rw [← A2.out.up, HL.out]
            rw [hup, hXS] at OW
            have RU : Row wr ua (I8 XS) := by
              obtain ⟨_, _, e8, -, -, -, hrw, -, -⟩ := row_of_owns OW
              cases e8
              exact hrw
            have RU := hid RU
            have HXL := hid hXL
            have DJd := hid (DJ.out.below (Below.refl _ wr).drew)
            have KB := broken_any DJd.out.drum
            rw [HBB.out] at KB
            have KT := turns_any DJd.out.drum
            rw [HTT.out] at KT
            have AF := afloat_any DJd.out.drum
            rw [hXS, hsu] at AF
            have d3 := Below.cellAt BJ lr c3
            have d4 := Below.cellAt BJ lr c4
            have d3d : wr.drew.cell? ⟨r, 3, none⟩ = some (.bool bb) := d3
            have d4d : wr.drew.cell? ⟨r, 4, none⟩ = some (.int .i64 tt) := d4
            clear hXS hup hsu hXL OW c1 c3 c4
            go_upto_region 39 with fail
            go_cut [201] (fun v W => v = .bool false ∧ Hid (Duo w W M2 R2 d r s2 t2))
            case first =>
              as_aux_lemma =>
              have S0 : wr.drew.cell? ⟨r, 3, none⟩ = some (.bool bb) ∧ wr.drew.cell? ⟨r, 4, none⟩ = some (.int .i64 tt) := ⟨d3, d4⟩
              have lrd : r < wr.drew.heap.size := Nat.lt_of_lt_of_le lr BJ.size
              go_region_held3 (fun w' => w'.cell? ⟨r, 3, none⟩ = some (.bool bb) ∧ w'.cell? ⟨r, 4, none⟩ = some (.int .i64 tt)) (first | exact S0 | exact S6 | exact S7 | assumption)
                (first
                | (go_at_call 17; refine KB.mono ?_; rintro e w5 ⟨rfl, rfl⟩)
                | (go_at_call 24; refine KT.mono ?_; rintro e w5 ⟨rfl, rfl⟩)
                | (go_at_call 16; refine AF.mono ?_; rintro e w6 ⟨vv, rfl, hv, B6⟩; obtain ⟨fa, fc, rfl⟩ := owns_slice hv; have RF : Row w6 fa (I8 XS) := (by (obtain ⟨_, _, e8, -, -, -, hrw, -, -⟩ := row_of_owns hv); cases e8; exact hrw); have SI := sameInts_any fa L fc XS ua L uc XS w6 RF ((RU.out.below (Below.refl _ _).drew (Nat.le_refl _)).below B6 (Nat.le_refl _)) HXL.out HXL.out ul; have S6 := And.intro (Below.cellAt B6 lrd d3d) (Below.cellAt B6 lrd d4d))
                | (go_at_call 25; refine SI.mono ?_; rintro e w7 ⟨rr, he, hrr, B7⟩; obtain rfl : rr = true := (by simpa using hrr); subst he; have S7 := And.intro (Below.cellAt B7 (Nat.lt_of_lt_of_le lrd B6.size) S6.1) (Below.cellAt B7 (Nat.lt_of_lt_of_le lrd B6.size) S6.2)))
              all_goals
                go_wp2_with fail
                go_meet
                exact ⟨rfl, hid ((DJd.out.below B6).below B7)⟩
            case rest =>
              as_aux_lemma =>
              obtain ⟨rfl, DK⟩ := hcut
              have AH := A2
              have hNn := N2.out
              clear KB KT AF d3 d4 d3d d4d RU DJ DJd HBB HTT HPP HAV HL D2
              go_wp2_with fail
              go_loopw [20] (fun v wx => ∃ j : Int, v = .int .i64 j ∧ -1 ≤ j ∧ j ≤ (N : Int) + 1 ∧ Hid (Duo w wx M2 R2 d r s2 t2)) (fun v _ => N + 2 - (intOf v + 1).toNat)
              case atStart => exact ⟨-1, rfl, Int.le_refl _, by omega, DK⟩
              case round =>
                obtain ⟨j, rfl, hj1, hj2, DX⟩ := hrel
                obtain ⟨wj, rfl⟩ : ∃ W, W = wr := ⟨wr, rfl⟩
                by_cases hjN : j ≤ (N : Int)
                · have L1 := look2_any DX.out.drum j
                  obtain ⟨z, hz⟩ : ∃ z, s2.lookZ j = z := ⟨_, rfl⟩
                  obtain ⟨c9, hc9⟩ : ∃ c9, s2.lookC j = c9 := ⟨_, rfl⟩
                  rw [hz, hc9] at L1
                  obtain ⟨L0, hL0⟩ : ∃ L0, z.length = L0 := ⟨_, rfl⟩
                  rw [hL0] at L1
                  have hL96 : L0 ≤ 96 := by rw [← hL0, ← hz]; exact lookZ_len DX.out.drum j
                  have HZ := hid hz
                  have HC9 := hid hc9
                  have HL0 := hid hL0
                  clear hz hc9 hL0
                  go_wp2_with fail
                  refine L1.mono ?_
                  rintro e w8 ⟨a1, c1, rfl, ho, B8'⟩
                  have DX8 := hid (DX.out.below B8')
                  have L2 := rlook2_any DX8.out.ref AH.out DX8.out.drum.wfn j
                  rw [HZ.out, HC9.out, HL0.out] at L2
                  have HO := hid ho
                  clear L1 ho
                  go_wp2_with fail
                  refine L2.mono ?_
                  rintro e w9 ⟨a2, c2, rfl, hr2, B9⟩
                  have DX9 := hid (DX8.out.below B9)
                  have O9 := Below.owns B9 (Nat.le_refl _) HO.out
                  have kc1 : (convert 29 9 (.slice a1 L0 c1)).run Try.prog w9 = .ok (.string (strOfNums z)) w9 := by
                    obtain ⟨_, _, e8, -, -, -, hrw, -, -⟩ := row_of_owns O9
                    cases e8
                    exact conv_row Try.underlying29 Try.underlying5 Try.underlying9 c1 hrw HL0.out
                  have kc2 : (convert 29 9 (.slice a2 L0 c2)).run Try.prog w9 = .ok (.string (strOfNums z)) w9 := conv_row Try.underlying29 Try.underlying5 Try.underlying9 c2 hr2 HL0.out
                  have O9h := hid O9
                  have s8 := B8'.size
                  have s9 := B9.size
                  clear L2 hr2 O9
                  go_wp2_with fail
                  go_loopw [231] (fun v wy => ∃ (m : Nat) (vs : List Value), v = .int .i64 m ∧ m ≤ L0 ∧ wy.ownsRow wj.heap.size 5 1 (.slice a1 L0 c1) L0 vs ∧ Below wj.heap.size wj wy) (fun v _ => L0 - (intOf v).toNat)
                  case atStart => exact ⟨0, _, rfl, Nat.zero_le _, O9h.out, B8'.trans (B9.mono s8)⟩
                  case round =>
                    obtain ⟨m, vs, rfl, hm, OV, BV⟩ := hrel
                    by_cases hmL : m < L0
                    · obtain ⟨g, gc, e7, -⟩ := owns_some OV (by omega)
                      obtain ⟨rfl, rfl⟩ : a1 = some ⟨g, 0, none⟩ ∧ c1 = gc := by cases e7; exact ⟨rfl, rfl⟩
                      have hvl : vs.length = L0 := OV.1.trans (Nat.mul_one _)
                      have cg : wr.cell? ⟨g, m, none⟩ = some (vs[m]'(hvl ▸ hmL)) := (OV.cellAt m (by rw [Nat.mul_one]; exact hmL)).trans (List.getElem?_eq_getElem (hvl ▸ hmL))
                      have fg := OV.frozenAt m
                      have gl := (OV.lt g rfl).1
                      have HOV := hid OV
                      clear e7 OV
                      go_wp2_with fail
                      go_roundw
                      case measure => simp [intOf]; omega
                      case rel => exact ⟨m + 1, _, by go_num, by omega, (HOV.out.stored m _).1, Below.setCell BV gl _⟩
                    · obtain rfl : L0 = m := by omega
                      go_wp2_with fail
                      go_roundw
                      case measure => simp [intOf]; omega
                      case rel => exact ⟨j + 1, rfl, by omega, by omega, hid (DX.out.below BV)⟩
                · have hjn2 : (N : Int) < j := by omega
                  go_wp2_with fail
                  go_roundg (50 - (i + 1))
                  case measure => have := hq.out; omega
                  case rel => exact ⟨i + 1, M2, R2, s2, t2, hid rfl, by go_num, by omega, by omega, DX, AH, N2, hid (by have := T2.out; omega), U2⟩
    · by_cases h50 : i < len
      · obtain rfl : i = 50 := by omega
        have h51 : (50 : Int) < (len : Int) := by omega
        clear hlt
        go_wp2_with fail
        go_ret
        exact ⟨rfl, DU1.out.bel⟩
      · obtain rfl : len = i := by omega
        clear hlt
        go_wp2_with fail
        go_ret
        exact ⟨rfl, DU1.out.bel⟩

end Go.Proofs.Ytfijglkealnopaa
