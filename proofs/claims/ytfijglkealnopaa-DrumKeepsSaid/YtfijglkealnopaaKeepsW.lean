/- DrumKeeps: the walk -/
import Derived.Test.YtfijglkealnopaaKeepsR
import Derived.Test.YtfijglkealnopaaTurnsArg
import Derived.Test.YtfijglkealnopaaHand
open Go Go.RowKit
namespace Go.Proofs.Ytfijglkealnopaa

set_option maxRecDepth 100000 in
set_option maxHeartbeats 4000000 in
theorem drumKeeps_walk (a : Option Addr) (len cap : Nat) (X : Nat → TurnN) (st : Int) (ka : Option Addr) (kl kc : Nat) (kz : List Int) (torn cut : Int) (w : World) (hT : TurnsAt w a len X) (hs : bd st) (hK : IntsAt w ka kl kc kz) (hto : bd torn) (hcu : bd cut) :
    Calls Try.prog 3 #[.slice a len cap, .int .i64 st, .slice ka kl kc, .int .i64 torn, .int .i64 cut] w fun e w' => e = .returned (.bool true) ∧ Below w.heap.size w w' := by
  have hlen := hT.len
  obtain ⟨i0, hi0, hz0, hz1, hz2⟩ := info_parts iB
  simp only [maxLen] at hlen
  go_enter Try.func3, Try.ntmps3
  go_wp2_with fail
  refine (known4_any w).mono ?_
  rintro e w1 ⟨rfl, B1⟩
  go_wp2_with fail
  refine (newn_any 12 w1 (by omega) (by omega)).mono ?_
  rintro e w2 ⟨d, M, rfl, D2, hM2, B2⟩
  go_wp2_with fail
  refine (known4_any w2).mono ?_
  rintro e w3 ⟨rfl, B3⟩
  have D3 := D2.below B3
  have hM3 := D2.ml
  go_wp2_with fail
  obtain ⟨wa, hwa⟩ : ∃ wa, w3.heap.size = wa := ⟨_, rfl⟩
  obtain ⟨W5, hW5⟩ : ∃ W5, w3.alloc (.cells #[.slice none 0 0, .slice none 0 0, .slice none 0 0, .slice none 0 0, .slice none 0 0, .slice none 0 0, .slice none 0 0, .slice none 0 0, .slice none 0 0, .slice none 0 0, .slice none 0 0, .slice none 0 0] 30) = W5 := ⟨_, rfl⟩
  have A0 : Was W5 wa wa (fun _ => .slice none 0 0) (fun _ => []) := by
    refine ⟨?_, fun k _ => World.ownsRow_nil _ _ _ _, fun j k _ _ _ b h => by cases h⟩
    rw [← hW5, ← hwa]
    exact blk_new w3 _
  have B5 : Below wa w3 W5 := by rw [← hW5, ← hwa]; exact (Below.refl _ _).alloc (Nat.le_refl _) _
  rw [hW5, hwa]
  have HWA := hid hwa
  have hwa5 : wa < W5.heap.size := lt_of_blk A0.arr
  have b1 := B1.size
  have b2 := B2.size
  have b3 := B3.size
  have B03 : Below w.heap.size w w3 := (B1.trans (B2.mono b1)).trans (B3.mono (by omega))
  clear hW5 hwa
  go_loopw [41] (fun v wr => ∃ (k : Nat) (H : Nat → Value), v = .int .i64 k ∧ k ≤ 12 ∧ Was wr wa wa H (fun i => if i < k then [0] else []) ∧ Below wa w3 wr ∧ wa < wr.heap.size) (fun v _ => 12 - (intOf v).toNat)
  case atStart => exact ⟨0, _, rfl, by omega, A0.congr (fun k _ => by simp), B5, hwa5⟩
  case round =>
    obtain ⟨k, H, rfl, hk, AW, BW, hws⟩ := hrel
    by_cases hk12 : k < 12
    · have cw := AW.cell hk12
      have fz := blk_free (o := k) AW.arr
      have k1 : (0 : Int) ≤ (k : Int) := by omega
      have k2 : (k : Int) < 12 := by omega
      have HAW := hid AW
      go_wp2_with fail
      go_roundw
      case measure => simp [intOf]; omega
      case rel =>
        have X1 : Ext (fun _ => False) wr (wr.alloc (.cells #[.int .u8 0] 5)) := (Ext.refl _ _).alloc _
        have own1 : (wr.alloc (.cells #[.int .u8 0] 5)).ownsRow wa 5 1 (.slice (some ⟨wr.heap.size, 0, none⟩) 1 1) 1 (B8 [0]) := owns_mono (World.ownsRow_lit wr #[.int .u8 0] 1 (Nat.le_refl _) (by simp [maxLen]) rfl) (by omega)
        have S1 := HAW.out.store hk12 X1 (fun q h => h.elim) (zs := [0]) own1 (fun b hb => .inr (by cases hb; exact Nat.le_refl _))
        have HC : (wr.alloc (.cells #[.int .u8 0] 5)).setCell ⟨wa, k, none⟩ (.slice (some ⟨wr.heap.size, 0, none⟩) 1 1) = (wr.setCell ⟨wa, k, none⟩ (.slice (some ⟨wr.heap.size, 0, none⟩) 1 1)).alloc (.cells #[.int .u8 0] 5) := World.setCell_alloc_past _ _ _ _ hws
        rw [← HC]
        refine ⟨k + 1, _, by go_num, by omega, S1.congr (fun i _ => ?_), Below.setCell (BW.alloc (by omega) _) (Nat.le_refl _) _, by simp; omega⟩
        by_cases e : i = k
        · subst e; rw [upd_same, if_pos (by omega)]
        · rw [upd_ne _ _ e]
          by_cases h : i < k
          · rw [if_pos h, if_pos (by omega)]
          · rw [if_neg h, if_neg (by omega)]
    · obtain rfl : k = 12 := by omega
      have BT : Both w wr (M.addX fun q => wa ≤ q ∧ q < wr.heap.size) d (DS.new 12) wa H (fun _ => [0]) := by
        have hw3 := HWA.out
        refine ⟨D3.addX (by rw [hw3]; exact BW) (fun q hq => by rw [hw3]; exact hq), AW.congr (fun i hi => by rw [if_pos hi]), fun q hq => ?_, fun q hq => by have := hM2 q hq; omega, B03.trans (BW.mono (by omega)), by omega⟩
        have h1 := AW.lt hq
        have h2 : wa ≤ q := by
          rcases hq with rfl | ⟨j, hj, hb⟩
          · exact Nat.le_refl _
          · exact ((AW.row j hj).lt q hb).1
        exact ⟨.inr ⟨h2, h1⟩, fun hm => by have := hM3 q hm; omega⟩
      have BT := hid BT
      obtain ⟨n, hn, hn1, hn2⟩ : ∃ n : Nat, min (len : Int) 30 = (n : Int) ∧ n ≤ len ∧ n ≤ 30 := ⟨min len 30, by omega, by omega, by omega⟩
      obtain ⟨m, hm, hmn⟩ : ∃ m : Nat, st % ((n : Int) + 1) = (m : Int) ∧ m ≤ n := by
        have h1 := Int.emod_nonneg st (show ((n : Int) + 1) ≠ 0 by omega)
        have h2 := Int.emod_lt_of_pos st (show (0 : Int) < (n : Int) + 1 by omega)
        exact ⟨(st % ((n : Int) + 1)).toNat, by omega, by omega⟩
      have PK := pick_any st ((n : Int) + 1) wr hs (by omega) (by omega)
      rw [hm] at PK
      clear hm AW BW D3 D2 A0 B5
      go_wp2_with fail
      refine PK.mono ?_
      rintro e w6 ⟨rfl, rfl⟩
      go_wp2_with fail
      go_loopw [16] (fun v wx => ∃ (i : Nat) (M : Dom) (S : DS) (H : Nat → Value) (Q : Nat → List Int), v = .int .i64 i ∧ i ≤ n ∧ Hid (Both w wx M d S wa H Q) ∧ Hid S.Up ∧ S.n = 12 ∧ S.up.length ≤ i ∧ Hid ((i < m ∧ Pre S Q) ∨ (m ≤ i ∧ Post S Q)) ∧ Hid (∀ k, k < 12 → (Q k).length ≤ i + 1)) (fun v _ => n - (intOf v).toNat)
      case atStart =>
        refine ⟨0, _, DS.new 12, H, _, rfl, Nat.zero_le _, BT, hid (DS.Up.new 12), rfl, Nat.zero_le _, hid ?_, hid (fun k _ => by simp)⟩
        rcases Nat.lt_or_ge 0 m with h | h
        · exact .inl ⟨h, Pre.new 12⟩
        · exact .inr ⟨h, Post.new 12⟩
      case round =>
        obtain ⟨i, M', S, H', Q, rfl, hi, BO, UP, hS, hSu, PP, HQ⟩ := hrel
        by_cases hin : i < n
        · have hil : i < len := by omega
          have hix := fun (h0 : i < len) => idx_at (P := Try.prog) (T := 22) Try.underlying22 (show (Try.prog.info? 33).map (·.size) = some 6 by kernel_rfl) (cap := cap) hT.nn h0
          have hixi := hix hil
          have TT := hT.below BO.out.bel (Nat.le_refl _)
          have cK := TT.c1 i hil
          have cN := TT.c2 i hil
          obtain ⟨-, bk, bn, -⟩ := hT.bd i hil
          obtain ⟨kk, hkk, hkk2⟩ : ∃ kk : Nat, (X i).k % 12 = (kk : Int) ∧ kk < 12 := ⟨((X i).k % 12).toNat, by omega, by omega⟩
          obtain ⟨c0, hc0, hc1⟩ : ∃ c0 : Nat, (X i).n % 250 = (c0 : Int) ∧ c0 < 250 := ⟨((X i).n % 250).toNat, by omega, by omega⟩
          have PK1 := pick_any (X i).k 12 wr bk (by omega) (by omega)
          have PK2 := pick_any (X i).n 250 wr bn (by omega) (by omega)
          rw [hkk] at PK1
          rw [hc0] at PK2
          obtain ⟨xk, hxk⟩ : ∃ x, (X i).k = x := ⟨_, rfl⟩
          obtain ⟨xn, hxn⟩ : ∃ x, (X i).n = x := ⟨_, rfl⟩
          rw [hxk] at PK1 cK
          rw [hxn] at PK2 cN
          clear hkk hc0 hxk hxn hix TT
          go_wp2_with fail
          refine PK1.mono ?_
          rintro e w7 ⟨rfl, rfl⟩
          go_wp2_with fail
          refine PK2.mono ?_
          rintro e w7 ⟨rfl, rfl⟩
          go_wp2_with fail
          refine (all_any (1 + (c0 : Int)) wr).mono ?_
          rintro e w8 ⟨g, rfl, hb, hg, B8'⟩
          go_wp2_with fail
          refine (layall_any BO.out.drum UP.out kk (by omega) g (1 + (c0 : Int)) hb hg B8' (by omega)).mono ?_
          rintro e w9 ⟨rfl, M9, D9, S9⟩
          have BO9 := BO.out.step D9 S9
          obtain ⟨y, hy⟩ : ∃ y, IntKind.u8.wrap (1 + (c0 : Int)) = y := ⟨_, rfl⟩
          rw [hy] at BO9
          have BO9 := hid BO9
          clear hb S9 D9
          have k1 : (0 : Int) ≤ (kk : Int) := by omega
          have k2 : (kk : Int) < 12 := by omega
          -- ROUND 2
          by_cases him : i < m
          · have P0 := hid (show Pre S Q from PP.out.elim (fun h => h.2) (fun h => by omega))
            have cw9 := BO9.out.was.cell hkk2
            have fz9 := blk_free (o := kk) BO9.out.was.arr
            have BOa := BO9.out.store hkk2 (Ext.refl (fun _ => False) w9) (fun _ h => h.elim) (v := .slice none 0 0) (zs := []) (World.ownsRow_nil _ _ _ _) (fun b hb => by cases hb)
            have cwa := BOa.was.cell hkk2
            rw [upd_same] at cwa
            have OV : (w9.setCell ⟨wa, kk, none⟩ (.slice none 0 0)).ownsRow wa 5 1 (.slice none 0 0) 0 (B8 []) := World.ownsRow_nil _ _ _ _
            have HV := hid (upd_same H' kk (Value.slice none 0 0))
            have BOa := hid BOa
            obtain ⟨wx, hwx0⟩ : ∃ wx, w9.setCell ⟨wa, kk, none⟩ (.slice none 0 0) = wx := ⟨_, rfl⟩
            rw [hwx0] at BOa cwa OV
            have hbs : wa ≤ (wx.alloc (.cells #[.int .u8 y] 5)).heap.size := by have := lt_of_blk BOa.out.was.arr; simp; omega
            have hwx : wa < wx.heap.size := lt_of_blk BOa.out.was.arr
            have hnw : (Value.slice none 0 0).ownBlock ≠ some wa := fun e => owns_ne OV BOa.out.was.arr (by decide) e
            go_wp2_with (at_builtin; refine wpList_append_lies (P := Try.prog) (w := wx.alloc (.cells #[.int .u8 y] 5)) rfl _ _ 29 rfl wa 5 i0 (.int .u8 0) 1 1 Try.underlying29 hi0 hz0 hz1 hz2 rfl (by decide) (Value.slice none 0 0) 0 (B8 []) rfl (OV.alloc _) ⟨wx.heap.size, 0, none⟩ 1 1 [.int .u8 y] rfl rfl (row_new wx #[.int .u8 y] 5).news (fun u hu => by simp at hu; subst hu; rfl) (by decide) (by simp only [maxLen]; omega) (by omega) hbs (wx.heap.size + 1) (by simp) ?_)
            intro gg cc w11 O11 G11 hat hlt
            have arr11 := (G11.block wa (by simp; omega) (Ne.symm hnw)).trans (blk_old _ BOa.out.was.arr)
            have cw11 : w11.cell? ⟨wa, kk, none⟩ = some (upd H' kk (Value.slice none 0 0) kk) := blk_cell (o := kk) arr11 (by simp [hkk2])
            have fz11 := blk_free (o := kk) arr11
            have hx11 : Ext (fun q => (Value.slice none 0 0).ownBlock = some q) wx w11 := ((Ext.refl (fun q => (Value.slice none 0 0).ownBlock = some q) wx).alloc _).trans (Ext.of_grown G11) (fun _ _ h => h)
            have BO12 := BOa.out.store hkk2 hx11 (fun q h => (congrArg (fun v => Value.ownBlock v = some q) HV.out).mpr h) (v := .slice (some ⟨gg, 0, none⟩) (0 + 1) cc) (zs := [y]) ?o12 (fun b hb => by
              cases hb
              exact hat.imp (fun h => (congrArg (fun v => Value.ownBlock v = some gg) HV.out).mpr h) (fun h => by have h : gg = wx.heap.size + 1 := h; show wx.heap.size ≤ gg; omega))
            case o12 => exact O11
            have BO12 := hid BO12
            have HQ2 := hid (show ∀ k, k < 12 → (upd (upd Q kk []) kk [y] k).length ≤ i + 1 + 1 from fun k hk => by
              by_cases e : k = kk
              · subst e; rw [upd_same]; simp
              · rw [upd_ne _ _ e, upd_ne _ _ e]; have := HQ.out k hk; omega)
            have UU : upd (upd Q kk []) kk [y] = upd Q kk [y] := by funext k; unfold upd; split <;> rfl
            have PR := hid (show Pre (S.lay1 kk (rep y)) (upd (upd Q kk []) kk [y]) from UU ▸ P0.out.lay kk y)
            clear O11 G11 hat hx11 arr11 UU OV
            by_cases hm1 : i + 1 = m
            · have im1 : ((i : Int) + 1 == (m : Int)) = true := by simp; omega
              have im2 : (i : Int) + 1 = (m : Int) := by omega
              have ST := settle_any BO12.out.drum
              rw [(UP.out.lay1 kk (rep y)).settle, (UP.out.lay1 kk (rep y)).code] at ST
              go_wp2_with fail
              refine ST.mono ?_
              rintro e w13 ⟨rfl, M13, D13, S13⟩
              have BO13 := hid (BO12.out.step D13 S13)
              clear D13 S13
              go_wp2_with fail
              go_roundw
              case measure => simp [intOf]; omega
              case rel => exact ⟨i + 1, M13, _, _, _, by go_num, by omega, BO13, hid (UP.out.lay1 kk (rep y)).settle1, hS, Nat.zero_le _, hid (.inr ⟨by omega, PR.out.settle⟩), HQ2⟩
            · have im1 : ((i : Int) + 1 == (m : Int)) = false := by simp; omega
              have im2 : ¬ ((i : Int) + 1 = (m : Int)) := by omega
              have him2 : i + 1 < m := by omega
              go_wp2_with fail
              go_roundw
              case measure => simp [intOf]; omega
              case rel => exact ⟨i + 1, _, _, _, _, by go_num, by omega, BO12, hid (UP.out.lay1 kk (rep y)), hS, by show (S.up ++ [(kk, rep y)]).length ≤ _; simp; omega, hid (.inl ⟨him2, PR.out⟩), HQ2⟩
          · have P0 := hid (show Post S Q from PP.out.elim (fun h => by omega) (fun h => h.2))
            have cw9 := BO9.out.was.cell hkk2
            have OV := BO9.out.was.row kk hkk2
            obtain ⟨va, vc, hv⟩ := owns_slice OV
            have hN := HQ.out kk hkk2
            obtain ⟨N, hNN⟩ : ∃ N, (Q kk).length = N := ⟨_, rfl⟩
            rw [hNN] at hv OV hN
            have HN := hid hNN
            rw [hv] at cw9 OV
            have HV := hid hv
            have im1 : ((i : Int) + 1 == (m : Int)) = false := by simp; omega
            have im2 : ¬ ((i : Int) + 1 = (m : Int)) := by omega
            have im3 : ¬ ((i : Int) < (m : Int)) := by omega
            clear hv hNN
            have hbs : wa ≤ (w9.alloc (.cells #[.int .u8 y] 5)).heap.size := by have := lt_of_blk BO9.out.was.arr; simp; omega
            have hwx : wa < w9.heap.size := lt_of_blk BO9.out.was.arr
            have hnw : (Value.slice va N vc).ownBlock ≠ some wa := fun e => owns_ne OV BO9.out.was.arr (by decide) e
            go_wp2_with (at_builtin; refine wpList_append_lies (P := Try.prog) (w := w9.alloc (.cells #[.int .u8 y] 5)) rfl _ _ 29 rfl wa 5 i0 (.int .u8 0) 1 1 Try.underlying29 hi0 hz0 hz1 hz2 rfl (by decide) (Value.slice va N vc) N (B8 (Q kk)) rfl (OV.alloc _) ⟨w9.heap.size, 0, none⟩ 1 1 [.int .u8 y] rfl rfl (row_new w9 #[.int .u8 y] 5).news (fun u hu => by simp at hu; subst hu; rfl) (by decide) (by simp only [maxLen]; omega) (by omega) hbs (w9.heap.size + 1) (by simp) ?_)
            intro gg cc w11 O11 G11 hat hlt
            have arr11 := (G11.block wa (by simp; omega) (Ne.symm hnw)).trans (blk_old _ BO9.out.was.arr)
            have cw11 : w11.cell? ⟨wa, kk, none⟩ = some (H' kk) := blk_cell (o := kk) arr11 (by simp [hkk2])
            have fz11 := blk_free (o := kk) arr11
            have hx11 : Ext (fun q => (Value.slice va N vc).ownBlock = some q) w9 w11 := ((Ext.refl (fun q => (Value.slice va N vc).ownBlock = some q) w9).alloc _).trans (Ext.of_grown G11) (fun _ _ h => h)
            have BO12 := BO9.out.store hkk2 hx11 (fun q h => (congrArg (fun v => Value.ownBlock v = some q) HV.out).mpr h) (v := .slice (some ⟨gg, 0, none⟩) (N + 1) cc) (zs := Q kk ++ [y]) ?o12 (fun b hb => by
              cases hb
              exact hat.imp (fun h => (congrArg (fun v => Value.ownBlock v = some gg) HV.out).mpr h) (fun h => by have h : gg = w9.heap.size + 1 := h; show w9.heap.size ≤ gg; omega))
            case o12 =>
              rw [List.length_append, HN.out, B8, List.map_append]
              exact O11
            have BO12 := hid BO12
            have HQ2 := hid (show ∀ k, k < 12 → (upd Q kk (Q kk ++ [y]) k).length ≤ i + 1 + 1 from fun k hk => by
              by_cases e : k = kk
              · subst e; rw [upd_same, List.length_append]; have := HQ.out k hk; simp; omega
              · rw [upd_ne _ _ e]; have := HQ.out k hk; omega)
            have PR := hid (P0.out.lay kk y)
            clear O11 G11 hat hx11 arr11 OV
            go_wp2_with fail
            go_roundw
            case measure => simp [intOf]; omega
            case rel => exact ⟨i + 1, _, _, _, _, by go_num, by omega, BO12, hid (UP.out.lay1 kk (rep y)), hS, by show (S.up ++ [(kk, rep y)]).length ≤ _; simp; omega, hid (.inr ⟨by omega, PR.out⟩), HQ2⟩
          -- END 2
        · obtain rfl : n = i := by omega
          have hKM : 0 < kl → ¬ M' (sB ka) := fun h0 hm => by
            have h1 := BO.out.low _ hm
            have h2 := hK.row.lt (by rw [I8_length, hK.len]; exact h0)
            omega
          have FA := fall_any BO.out.drum ka kl kc kz torn cut (hK.below BO.out.bel (Nat.le_refl _)) hKM
          have P0 : Post S Q := PP.out.elim (fun h => by omega) (fun h => h.2)
          have FI := hid (fun k hk => P0.fall kz torn cut (k := k) (by rw [hS]; exact hk))
          have QP := hid (fun k (hk : k < 12) => (P0.kept k (by rw [hS]; exact hk)))
          clear P0 PP hKM
          go_wp2_with fail
          refine FA.mono ?_
          rintro e w10 ⟨rfl, M10, D10, S10⟩
          have BF := hid (BO.out.step D10 S10)
          obtain ⟨SF, hSF⟩ : ∃ SF, S.fall kz torn cut = SF := ⟨_, rfl⟩
          rw [hSF] at BF FI
          have UF := hid (show SF.Up from hSF ▸ DS.Up.fall S kz torn cut)
          have hSn : SF.n = 12 := by rw [← hSF]; exact hS
          have hSu0 : SF.up.length = 0 := by rw [← hSF]; rfl
          clear FA D10 S10 BO hSF
          go_wp2_with fail
          go_loopw [107] (fun v wx => ∃ k : Nat, v = .int .i64 k ∧ k ≤ 12 ∧ Hid (Both w wx M10 d SF wa H' Q)) (fun v _ => 12 - (intOf v).toNat)
          case atStart => exact ⟨0, rfl, by omega, BF⟩
          case round =>
            obtain ⟨k, rfl, hk, BX⟩ := hrel
            by_cases hk12 : k < 12
            · go_wp2_with fail
              refine (looku_any BX.out.drum UF.out k (by omega)).mono ?_
              rintro e w11 ⟨a5, c5, rfl, ho, hl5, hy5, B11⟩
              obtain ⟨g5, c5', e5, -⟩ := owns_some ho (by omega)
              cases e5
              have BY := hid (BX.out.below B11)
              have FK := FI.out k hk12
              obtain ⟨z, hz⟩ : ∃ z, SF.now k = z := ⟨_, rfl⟩
              rw [hz] at ho FK hl5
              have OV := BY.out.was.row k hk12
              have cw0 := BY.out.was.cell hk12
              obtain ⟨x0, hx0, -⟩ := QP.out k hk12
              have hpos : 0 < (Q k).length := by rw [hx0]; simp
              obtain ⟨qg, qc, hv, -⟩ := owns_some OV hpos
              obtain ⟨N, hN⟩ : ∃ N, (Q k).length = N := ⟨_, rfl⟩
              rw [hv] at cw0 OV
              rw [hN] at cw0 OV hpos
              have hN32 := HQ.out k hk12
              rw [hN] at hN32
              have HN := hid hN
              have HL5 := hid hl5
              have FKH := hid FK
              have ck1 : (0 : Int) ≤ (k : Int) := by omega
              have ck2 : (k : Int) < 12 := by omega
              have hq5 := owns_blk ho
              have hqg := owns_blk OV
              have lg5 : g5 < w11.heap.size := by obtain ⟨_, h⟩ := hq5; exact lt_of_blk h
              have lqg : qg < w11.heap.size := by obtain ⟨_, h⟩ := hqg; exact lt_of_blk h
              have lwa : wa < w11.heap.size := lt_of_blk BY.out.was.arr
              have HO := hid ho
              have HOV := hid OV
              clear hz hx0 hv hN hl5 FK hq5 hqg ho OV hy5
              go_wp2_with fail
              go_loopw [120] (fun v wx => ∃ i : Nat, v = .int .i64 i ∧ i ≤ 96 ∧ Below w11.heap.size w11 wx) (fun v _ => 96 - (intOf v).toNat)
              case atStart => exact ⟨0, rfl, by omega, Below.refl _ _⟩
              case round =>
                obtain ⟨i, rfl, hi96, BI⟩ := hrel
                by_cases hi : i < 96
                · have cwx := Below.cellAt BI lwa cw0
                  obtain ⟨u, hu⟩ : ∃ u, z[i]?.getD 0 = u := ⟨_, rfl⟩
                  have huz : u ∈ z := by
                    rw [← hu, List.getElem?_eq_getElem (by rw [HL5.out]; exact hi)]
                    exact List.getElem_mem _
                  have HM := hid (FKH.out.mem u huz)
                  have cb0 : w11.cell? ⟨g5, i, none⟩ = some (.int .u8 u) := (HO.out.cellAt i (by omega)).trans (by simp [B8, List.getElem?_map, ← hu, List.getElem?_eq_getElem (show i < z.length by rw [HL5.out]; exact hi)])
                  have HU := hid hu
                  clear hu huz
                  have i1 : (0 : Int) ≤ (i : Int) := by omega
                  have i2 : (i : Int) < 96 := by omega
                  go_wp2_with fail
                  go_loopw [23, 127] (fun b v wy => ∃ (j : Nat) (β : Bool), b = .bool β ∧ v = .int .i64 j ∧ j ≤ N ∧ Hid (β = true ↔ u ∈ (Q k).take j) ∧ Below w11.heap.size w11 wy) (fun _ v _ => N - (intOf v).toNat)
                  case atStart => exact ⟨0, false, rfl, rfl, by omega, hid (by simp), BI⟩
                  case round =>
                    obtain ⟨j, β, rfl, rfl, hj, HB, BJ⟩ := hrel
                    by_cases hjN : j < N
                    · have hjl : j < (Q k).length := by rw [HN.out]; exact hjN
                      have TK := hid (take_succ_get hjl)
                      obtain ⟨t, ht⟩ : ∃ t, (Q k)[j]?.getD 0 = t := ⟨_, rfl⟩
                      rw [ht] at TK
                      have cq : wr.cell? ⟨qg, j, none⟩ = some (.int .u8 t) := Below.cellAt BJ lqg ((HOV.out.cellAt j (by omega)).trans (by simp [B8, List.getElem?_map, ← ht, List.getElem?_eq_getElem hjl]))
                      have cb := Below.cellAt BJ lg5 cb0
                      have cwj := Below.cellAt BJ lwa cw0
                      have j1 : (0 : Int) ≤ (j : Int) := by omega
                      have j2 : (j : Int) < (N : Int) := by omega
                      clear ht hjl
                      cases β with
                      | true =>
                        go_wp2_with fail
                        go_quiet (fail)
                        go_wp2_with fail
                        go_roundw
                        case measure => simp [intOf]; omega
                        case rel => exact ⟨j + 1, true, rfl, by go_num, by omega, hid (by rw [TK.out, List.mem_append, ← HB.out]; simp), Below.drewN BJ _⟩
                      | false =>
                        go_wp2_with fail
                        go_quiet (fail)
                        go_wp2_with fail
                        go_roundw
                        case measure => simp [intOf]; omega
                        case rel => exact ⟨j + 1, _, rfl, by go_num, by omega, hid (by rw [TK.out, List.mem_append, ← HB.out]; simp only [List.mem_singleton, Bool.false_eq_true, false_or, beq_iff_eq]; exact ⟨fun h => h.symm, fun h => h.symm⟩), Below.drewN BJ _⟩
                    · obtain rfl : N = j := by omega
                      have hβ : β = true := HB.out.2 (by rw [List.take_of_length_le (by rw [HN.out]; exact Nat.le_refl _)]; exact HM.out)
                      subst hβ
                      have cb := Below.cellAt BJ lg5 cb0
                      have cwj := Below.cellAt BJ lwa cw0
                      by_cases hN1 : N = 1
                      · subst hN1
                        have hz0 : z[0]?.getD 0 = u := (FKH.out.rest HN.out hi).symm.trans HU.out
                        have c00 : w11.cell? ⟨g5, 0, none⟩ = some (.int .u8 u) := (HO.out.cellAt 0 (by omega)).trans (by simp [B8, List.getElem?_map, ← hz0, List.getElem?_eq_getElem (show 0 < z.length by rw [HL5.out]; omega)])
                        have cb2 := Below.cellAt BJ lg5 c00
                        clear hz0 c00
                        go_wp2_with fail
                        go_quiet (fail)
                        go_wp2_with fail
                        go_roundw
                        case measure => simp [intOf]; omega
                        case rel => exact ⟨i + 1, by go_num, by omega, Below.drewN BJ _⟩
                      · have n1 : ((N : Int) == 1) = false := by simp; omega
                        have n2 : ¬ ((N : Int) = 1) := by omega
                        go_wp2_with fail
                        go_quiet (fail)
                        go_wp2_with fail
                        go_roundw
                        case measure => simp [intOf]; omega
                        case rel => exact ⟨i + 1, by go_num, by omega, Below.drewN BJ _⟩
                · obtain rfl : i = 96 := by omega
                  go_wp2_with fail
                  go_roundw
                  case measure => simp [intOf]; omega
                  case rel => exact ⟨k + 1, by go_num, by omega, hid (BY.out.below BI)⟩
            · obtain rfl : k = 12 := by omega
              have AF := afloat_any BX.out.drum
              rw [hSu0] at AF
              have hbr := UF.out.broken
              go_wp2_with fail
              refine AF.mono ?_
              rintro e w12 ⟨v, rfl, hv, B12⟩
              obtain ⟨av, ac, rfl⟩ := owns_slice hv
              have BK := broken_any (BX.out.below B12).drum
              rw [hbr] at BK
              have HB2 := hid (BX.out.below B12).bel
              clear hv hbr
              go_wp2_with fail
              refine BK.mono ?_
              rintro e w13 ⟨rfl, rfl⟩
              go_wp2_with fail
              go_ret
              exact ⟨rfl, HB2.out⟩

end Go.Proofs.Ytfijglkealnopaa
