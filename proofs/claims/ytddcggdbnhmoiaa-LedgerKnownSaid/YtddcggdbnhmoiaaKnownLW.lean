/- LedgerKnown: the walk -/
import Derived.Test.YtddcggdbnhmoiaaKnownLA
import Derived.Test.YtddcggdbnhmoiaaEntsW
open Go Go.RowKit
namespace Go.Proofs.Ytddcggdbnhmoiaa

/-- the first entries of the example -/
def entK (k : Nat) : List Ent := (List.range k).map fun (j : Nat) => ((j : Int), pageE (j : Int))
theorem entK_succ (k : Nat) : entK (k + 1) = entK k ++ [((k : Int), pageE k)] := by unfold entK; rw [List.range_succ, List.map_append]; rfl
theorem entK_length (k : Nat) : (entK k).length = k := by simp [entK]

set_option maxRecDepth 100000 in
set_option maxHeartbeats 8000000 in
theorem ledgerKnown_any (w : World) : Calls Try.prog 6 #[] w fun e w' => e = .returned (.bool true) ∧ Below w.heap.size w w' := by
  obtain ⟨ie, hie, hez0, hez1, hez2⟩ := info_parts iEnt
  have hH : homes 20 6 = 12 := by decide
  go_enter Try.func6, Try.ntmps6
  go_wp2_with fail
  refine (known5_any w).mono ?_
  rintro e w1 ⟨rfl, B1⟩
  have FO := found5_any 20 6 w1 (by omega) (by omega) (by decide)
  simp only [show ((20 : Nat) : Int) = 20 from rfl] at FO
  go_wp2_with fail
  refine FO.mono ?_
  rintro e w2 ⟨M, B, d, l, mb, s, L, rfl, b⟩
  have SI := hid b.since
  have LV := hid b.live
  have US : Hid (L.used = 0) := hid b.full.used
  have NW := newn_any 20 w2 (by omega) (by omega)
  simp only [show ((20 : Nat) : Int) = 20 from rfl] at NW
  clear b FO
  go_wp2_with fail
  refine NW.mono ?_
  rintro e w3 ⟨dr, Mr, rfl, Dr, hMr, B3⟩
  have SR3 : Hid (Since w2 w3 Mr none') := hid ⟨B3, fun q hq => hq.elim (hMr q) (fun h => h.elim)⟩
  have DR3 := hid Dr
  clear NW Dr hMr B3
  go_wp2_with fail
  refine (known5_any w3).mono ?_
  rintro e w4 ⟨rfl, B4⟩
  have SR4 := hid (SR3.out.to B4)
  have DR4 := hid (DR3.out.below B4)
  clear B4 SR3 DR3
  go_wp2_with fail
  refine (openNil_any w4).mono ?_
  rintro e w5 ⟨rfl, B5⟩
  have SR5 := hid (SR4.out.to B5)
  have DR5 := hid (DR4.out.below B5)
  clear B5 SR4 DR4
  go_wp2_with fail
  refine (openRaw_any DR5.out).mono ?_
  rintro e w6 ⟨rfl, M6, D6, T6⟩
  have SR6 := hid (SR5.out.lstep T6)
  have DR6 := hid D6
  clear T6 D6 SR5 DR5
  go_wp2_with fail
  refine (foundNil_any 6 w6).mono ?_
  rintro e w7 ⟨rfl, B7⟩
  have SR7 := hid (SR6.out.to B7)
  have DR7 := hid (DR6.out.below B7)
  clear B7 SR6 DR6
  go_wp2_with fail
  refine (foundBad_any DR7.out 4 (by omega) (by decide)).mono ?_
  rintro e w8 ⟨rfl, M8, D8, T8⟩
  have SR8 := hid (SR7.out.lstep T8)
  have DR8 := hid D8
  clear T8 D8 SR7 DR7
  go_wp2_with fail
  refine (foundBad_any DR8.out 17 (by omega) (by decide)).mono ?_
  rintro e w9 ⟨rfl, M9, D9, T9⟩
  have SR9 := hid (SR8.out.lstep T9)
  clear T9 D9 SR8 DR8
  have LV9 := hid (LV.out.below SR9.out.below)
  have SI9 := hid (SI.out.to SR9.out.below)
  clear LV SI SR9
  go_wp2_with fail
  refine (badWrite LV9.out (by omega) none 0 0 [] (EntsAt.nil _ _) (by omega) (by decide)).mono ?_
  rintro e w10 ⟨rfl, M10, B10, mb10, T10, LV10'⟩
  have LV10 := hid LV10'
  have SI10 := hid (SI9.out.lstep T10)
  clear T10 LV10' LV9 SI9
  go_wp2_with fail
  refine (page_any 1 w10).mono ?_
  rintro e w11 ⟨g11, rfl, hb11, hg11, B11⟩
  have kB11 := B11.alloc B11.size (.cells #[.int .i64 12, .slice (some ⟨g11, 0, none⟩) 96 96] 47)
  have hE11 : EntsAt (w11.alloc (.cells #[.int .i64 12, .slice (some ⟨g11, 0, none⟩) 96 96] 47)) (inD M10) (some ⟨w11.heap.size, 0, none⟩) 1 [(12, pageE 1)] :=
    ents_one (blk_new _ _) (((Below.refl _ _).alloc (Nat.le_refl _) _).block g11 (lt_of_blk hb11) |>.trans hb11) (pageE_length 1) (pageE_bytes 1) (by omega) (LV10.out.sys.free B11.size) (LV10.out.sys.free hg11)
  have LV11 := hid (LV10.out.below kB11)
  have SI11 := hid (SI10.out.to kB11)
  have BW11 := badWrite LV11.out (by omega) _ 1 1 _ hE11 (by omega) (by rw [hH]; unfold mayE mayFrom; simp)
  clear hb11 hg11 B11 kB11 hE11 LV10 SI10
  go_wp2_with fail
  refine BW11.mono ?_
  rintro e w12 ⟨rfl, M12, B12, mb12, T12, LV12'⟩
  have LV12 := hid LV12'
  have SI12 := hid (SI11.out.lstep T12)
  clear T12 LV12' LV11 SI11 BW11
  go_wp2_with fail
  refine (page_any 1 w12).mono ?_
  rintro e w13 ⟨g13, rfl, hb13, hg13, B13⟩
  have HB13 := hid hb13
  have HG13 := hid hg13
  have B13H := hid B13
  clear hb13 hg13 B13
  go_wp2_with fail
  refine (page_any 2 w13).mono ?_
  rintro e w14 ⟨g14, rfl, hb14, hg14, B14⟩
  have B24 := B13H.out.trans (B14.mono B13H.out.size)
  have kB14 := B24.alloc B24.size (.cells #[.int .i64 1, .slice (some ⟨g13, 0, none⟩) 96 96, .int .i64 1, .slice (some ⟨g14, 0, none⟩) 96 96] 47)
  have hb13' := (B14.block g13 (lt_of_blk HB13.out)).trans HB13.out
  have hE14 : EntsAt (w14.alloc (.cells #[.int .i64 1, .slice (some ⟨g13, 0, none⟩) 96 96, .int .i64 1, .slice (some ⟨g14, 0, none⟩) 96 96] 47)) (inD M12) (some ⟨w14.heap.size, 0, none⟩) 2 [(1, pageE 1), (1, pageE 2)] :=
    ents_two (blk_new _ _) (((Below.refl _ _).alloc (Nat.le_refl _) _).block g13 (lt_of_blk hb13') |>.trans hb13') (((Below.refl _ _).alloc (Nat.le_refl _) _).block g14 (lt_of_blk hb14) |>.trans hb14) (pageE_length 1) (pageE_length 2) (pageE_bytes 1) (pageE_bytes 2) (by omega) (by omega) (LV12.out.sys.free B24.size) (LV12.out.sys.free HG13.out) (LV12.out.sys.free (Nat.le_trans B13H.out.size hg14))
  have LV14 := hid (LV12.out.below kB14)
  have SI14 := hid (SI12.out.to kB14)
  have BW14 := badWrite LV14.out (by omega) _ 2 2 _ hE14 (by omega) (by rw [hH]; unfold mayE mayFrom mayFrom; simp)
  clear HB13 HG13 B13H hb13' hb14 hg14 B14 B24 kB14 hE14 LV12 SI12
  go_wp2_with fail
  refine BW14.mono ?_
  rintro e w15 ⟨rfl, M15, B15, mb15, T15, LV15'⟩
  have LV15 := hid LV15'
  have SI15 := hid (SI14.out.lstep T15)
  clear T15 LV15' LV14 SI14 BW14
  have kB15 := (Below.refl w15.heap.size w15).alloc (Nat.le_refl _) (.cells #[.int .i64 1, .slice none 0 0] 47)
  have hE15 : EntsAt (w15.alloc (.cells #[.int .i64 1, .slice none 0 0] 47)) (inD M15) (some ⟨w15.heap.size, 0, none⟩) 1 [(1, [])] := ents_short (blk_new _ _) (by omega) (LV15.out.sys.free (Nat.le_refl _))
  have LV16 := hid (LV15.out.below kB15)
  have SI16 := hid (SI15.out.to kB15)
  have BW16 := badWrite LV16.out (by omega) _ 1 1 _ hE15 (by omega) (by rw [hH]; unfold mayE mayFrom; simp)
  clear kB15 hE15 LV15 SI15
  go_wp2_with fail
  refine BW16.mono ?_
  rintro e w17 ⟨rfl, M17, B17, mb17, T17, LV17'⟩
  have LV17 := hid LV17'
  have SI17 := hid (SI16.out.lstep T17)
  clear T17 LV17' LV16 SI16 BW16
  obtain ⟨p, hp⟩ : ∃ p, w17.heap.size = p := ⟨_, rfl⟩
  go_wp2_with fail
  go_loopw [16, 17] (fun a v wr => ∃ (k : Nat) (va : Value), va = a ∧ v = .int .i64 k ∧ k ≤ 5 ∧ Hid (EntsOwn wr p va (entK k)) ∧ Below p w17 wr) (fun _ v _ => 5 - (Go.RowKit.intOf v).toNat)
  case atStart => exact ⟨0, _, rfl, rfl, by omega, hid (EntsOwn.nil _ _), Below.refl _ _⟩
  case round =>
    obtain ⟨k, va, rfl, rfl, hk, EO, BR⟩ := hrel
    by_cases hk5 : k < 5
    · go_wp2_with fail
      refine (page_any (k : Int) wr).mono ?_
      rintro e w3 ⟨gp, rfl, hb3, hg3, B3⟩
      have sz3 : p ≤ wr.heap.size := by rw [← hp]; exact BR.size
      have sz4 := B3.size
      have EO3 := (EO.out.below B3 (Nat.le_refl _)).alloc (.cells #[.int .i64 (k : Int), .slice (some ⟨gp, 0, none⟩) 96 96] 47)
      obtain ⟨us, u0, u1, u2⟩ := EO3.row
      rw [entK_length] at u1
      have pg3 : (w3.alloc (.cells #[.int .i64 (k : Int), .slice (some ⟨gp, 0, none⟩) 96 96] 47)).ownsRow p 5 1 (.slice (some ⟨gp, 0, none⟩) 96 96) 96 (B8 (pageE (k : Int))) := World.ownsRow.alloc (page_owns hb3 (by omega)) _
      have BR3 : Below p w17 (w3.alloc (.cells #[.int .i64 (k : Int), .slice (some ⟨gp, 0, none⟩) 96 96] 47)) := (BR.trans (B3.mono sz3)).alloc (by omega) _
      clear EO EO3
      go_wp2_with (at_builtin; refine wpList_append_own (P := Try.prog) _ rfl _ _ 41 rfl p 47 ie (.agg #[.int .i64 0, .slice none 0 0]) 2 32 Try.underlying41 hie hez0 hez1 hez2 rfl (by decide) va k (entCells (entK k) us) rfl u1 ⟨w3.heap.size, 0, none⟩ 1 1 [.int .i64 (k : Int), .slice (some ⟨gp, 0, none⟩) 96 96] rfl rfl (row_new w3 #[.int .i64 (k : Int), .slice (some ⟨gp, 0, none⟩) 96 96] 47).news (fun u hu => by simp at hu; rcases hu with rfl | rfl <;> rfl) ?c3 ?c4 ?c5 ?_)
      case c3 => simp only [maxLen]; omega
      case c4 => omega
      case c5 => simp; omega
      intro v4 w4 O4 G4 _
      have B4 := (Below.refl _ _).grown (B := p) G4 (by simp; omega) (own_base u1)
      have u1' : (w3.alloc (.cells #[.int .i64 (k : Int), .slice (some ⟨gp, 0, none⟩) 96 96] 47)).ownsRow p 47 2 va (entK k).length (entCells (entK k) us) := by rw [entK_length]; exact u1
      have O4' : w4.ownsRow p 47 2 v4 ((entK k).length + 1) (entCells (entK k) us ++ [.int .i64 (k : Int), .slice (some ⟨gp, 0, none⟩) 96 96]) := by rw [entK_length]; exact O4
      have LP : Hid (EntsOwn w4 p v4 (entK (k + 1))) := hid (by rw [entK_succ]; exact EntsOwn.push (x := ((k : Int), pageE k)) u0 u1' u2 pg3 (pageE_bytes k) ⟨by show (0 : Int) ≤ k; omega, by show (k : Int) < 65536; omega⟩ O4' G4)
      have BR4 := BR3.trans B4
      clear u0 u1 u2 pg3 O4 G4 u1' O4' BR3
      go_wp2_with fail
      go_roundw
      case measure => simp [Go.RowKit.intOf]; omega
      case rel => exact ⟨k + 1, v4, rfl, by go_num, by omega, LP, BR4⟩
    · obtain rfl : k = 5 := by omega
      have BRH : Below w17.heap.size w17 wr := hp ▸ BR
      have LV18 := hid (LV17.out.below BRH)
      have SI18 := hid (SI17.out.to BRH)
      obtain ⟨ea, ec, rfl, EA, hec⟩ := EO.out.out (N := inD M17) (fun q hq _ => by
        rcases Nat.lt_or_ge q w17.heap.size with h | h
        · omega
        · exact absurd hq (LV17.out.sys.free h))
      rw [entK_length] at EA hec
      simp only [entK_length]
      have EAH := hid EA
      have hec1 : (1 : Int) ≤ (ec : Int) := by omega
      have hm5 : mayE (entK 5) 12 = true := by
        show mayE [(0, pageE 0), (1, pageE 1), (2, pageE 2), (3, pageE 3), (4, pageE 4)] 12 = true
        unfold mayE
        simp [mayFrom, pageE_length]
      have BW := bigWrite LV18.out (by omega) ea 5 ec _ EA (by omega) (by rw [hH]; exact hm5) (by rw [entK_length]; decide)
      clear EA EO BRH BR LV17 SI17 hm5
      go_wp2_with fail
      refine BW.mono ?_
      rintro e w19 ⟨rfl, M19, B19, mb19, T19, LV19'⟩
      have LV19 := hid LV19'
      have SI19 := hid (SI18.out.lstep T19)
      have EA19 := hid (EAH.out.lstep T19 (fun q hq => (LV18.out.sys.led.bx q hq).1))
      clear T19 LV19' BW EAH LV18 SI18
      go_wp2_with fail
      refine (lookFar LV19.out 12 (by rw [hH]; omega)).mono ?_
      rintro e w20 ⟨v20, rfl, LV20', T20⟩
      have LV20 := hid LV20'
      have SI20 := hid (SI19.out.lstep T20)
      have EA20 := hid (EA19.out.lstep T20 (fun q hq => (LV19.out.sys.led.bx q hq).1))
      have EF20 : EntsAt w20 (inD M19) ea 1 [(0, pageE 0)] := EntsAt.first (l := [(1, pageE 1), (2, pageE 2), (3, pageE 3), (4, pageE 4)]) EA20.out
      have GW := goodWrite LV20.out (by omega) US.out ea ec 0 (pageE 0) EF20 (by rw [hH]; omega) (pageE_length 0) (pageE_bytes 0)
      clear T20 LV20' LV19 SI19 EA19 EF20
      go_wp2_with fail
      refine GW.mono ?_
      rintro e w21 ⟨rfl, M21, B21, mb21, s21, L21, V21, T21, LV21', U21⟩
      have LV21 := hid LV21'
      have SI21 := hid (SI20.out.lstep T21)
      have EA21 := hid (EA20.out.lstep T21 (fun q hq => (LV20.out.sys.led.bx q hq).1))
      have BK := blankU LV21'
      rw [U21] at BK
      clear T21 LV21' GW LV20 SI20 EA20 U21
      go_wp2_with fail
      refine BK.mono ?_
      rintro e w22 ⟨rfl, B22⟩
      have LV22 := hid (LV21.out.below B22)
      have SI22 := hid (SI21.out.to B22)
      have EA22 := hid (EA21.out.below B22 (Nat.le_refl _))
      have BA := balanceU LV22.out (by omega)
      clear B22 BK LV21 SI21 EA21
      go_wp2_with fail
      refine BA.mono ?_
      rintro e w23 ⟨rfl, M23, B23, mb23, s23, L23, T23, LV23', Q23', U23'⟩
      have LV23 := hid LV23'
      have Q23 := hid Q23'
      have U23 := hid U23'
      have SI23 := hid (SI22.out.lstep T23)
      have EA23 := hid (EA22.out.lstep T23 (fun q hq => (LV22.out.sys.led.bx q hq).1))
      have BL := blankU LV23'
      rw [U23'] at BL
      clear T23 LV23' Q23' U23' BA LV22 SI22 EA22
      go_wp2_with fail
      refine BL.mono ?_
      rintro e w24 ⟨rfl, B24⟩
      have LV24 := hid (LV23.out.below B24)
      have SI24 := hid (SI23.out.to B24)
      have EA24 := hid (EA23.out.below B24 (Nat.le_refl _))
      clear B24 BL LV23 SI23 EA23
      go_wp2_with fail
      refine (breakU LV24.out).mono ?_
      rintro e w25 ⟨rfl, M25, SY25, T25⟩
      have SI25 := hid (SI24.out.lstep T25)
      have EA25 := EA24.out.lstep T25 (fun q hq => (LV24.out.sys.led.bx q hq).1)
      have EF25 : EntsAt w25 (inD M25) ea 1 [(0, pageE 0)] := EntsAt.first (l := [(1, pageE 1), (2, pageE 2), (3, pageE 3), (4, pageE 4)]) EA25
      obtain ⟨P25, f25⟩ := LV24.out.full
      have WD := writeDown SY25 f25 LV24.out.leaves LV24.out.n (by omega) (by rw [Q23.out.up]; exact Nat.zero_le _) LV24.out.round LV24.out.last U23.out 0 (pageE 0) ea ec EF25 (by rw [hH]; omega) (pageE_length 0) (pageE_bytes 0)
      have hLeq : Hid (L23.leaves = 6 ∧ s23.n = 20) := hid ⟨LV24.out.leaves, LV24.out.n⟩
      clear SY25 T25 EA25 EF25 f25 EA24 LV24 SI24
      go_wp2_with fail
      refine WD.mono ?_
      rintro e w26 ⟨rfl, M26, B26, mb26, s26, L26, T26, D26⟩
      have SI26 := hid (SI25.out.lstep T26)
      have FD := fallDown D26
      clear WD T26 SI25
      go_wp2_with fail
      refine FD.mono ?_
      rintro e w27 ⟨rfl, M27, s27, T27, D27⟩
      have SI27 := hid (SI26.out.lstep T27)
      have LD := lookDown D27 1 (by rw [hH]; omega)
      clear FD D26 T27 SI26
      go_wp2_with fail
      refine LD.mono ?_
      rintro e w28 ⟨v28, rfl, D28, T28⟩
      have SI28 := hid (SI27.out.lstep T28)
      have LO := lostDown D28
      have SD := settleDown D28
      clear LD D27 T28 SI27 D28
      go_wp2_with fail
      refine LO.mono ?_
      rintro e w29 ⟨rfl, rfl⟩
      clear LO
      go_wp2_with fail
      refine SD.mono ?_
      rintro e w30 ⟨rfl, M30, B30, mb30, T30, D30⟩
      have SI30 := hid (SI28.out.lstep T30)
      have BD := balanceDown D30
      clear SD T30 SI28 D30
      go_wp2_with fail
      refine BD.mono ?_
      rintro e w31 ⟨rfl, M31, B31, mb31, T31, D31⟩
      have SI31 := hid (SI30.out.lstep T31)
      clear BD T31 SI30 D31
      go_wp2_with fail
      refine (leaves_any 0 w31 (by omega)).mono ?_
      rintro e w32 ⟨rfl, rfl⟩
      rw [show leavesN 0 = 0 by decide]
      go_wp2_with fail
      refine (leaves_any (-3) w31 (by omega)).mono ?_
      rintro e w32 ⟨rfl, rfl⟩
      rw [show leavesN (-3) = 0 by decide]
      go_wp2_with fail
      go_ret
      exact ⟨rfl, B1.trans ((SI31.out.below).mono B1.size)⟩

end Go.Proofs.Ytddcggdbnhmoiaa
