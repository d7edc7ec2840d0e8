/- DrumBreaks: the walk -/
import Derived.Test.YtfijglkealnopaaBreaksP
import Derived.Test.YtfijglkealnopaaHand
open Go Go.RowKit
namespace Go.Proofs.Ytfijglkealnopaa

theorem u8_7 : IntKind.u8.wrap 7 = 7 := by decide

set_option maxRecDepth 100000 in
set_option maxHeartbeats 4000000 in
theorem drumBreaks_walk (after : Int) (oa : Option Addr) (ol oc : Nat) (oz : List Int) (w : World) (h1 : -9223372036854775808 ≤ after ∧ after ≤ 9223372036854775807) (hO : Ints w oa ol oz) :
    Calls Try.prog 6 #[.int .i64 after, .slice oa ol oc] w fun e w' => e = .returned (.bool true) ∧ Below w.heap.size w w' := by
  have hix := fun k (hk : k < ol) => idx_at1 (P := Try.prog) (T := 23) Try.underlying23 szI (cap := oc) hO.nn hk
  have hol := hO.bound
  obtain ⟨af, haf, haf2⟩ : ∃ af : Nat, after % 15 = (af : Int) ∧ af ≤ 14 := ⟨(after % 15).toNat, by omega, by omega⟩
  have PK := fun W => pick_any after 15 W h1 (by omega) (by omega)
  rw [haf] at PK
  clear haf
  go_enter Try.func6, Try.ntmps6
  go_wp2_with fail
  refine (known4_any w).mono ?_
  rintro e w1 ⟨rfl, B1⟩
  go_wp2_with fail
  refine (newn_any 14 w1 (by omega) (by omega)).mono ?_
  rintro e w2 ⟨d, M, rfl, D2, hM2, B2⟩
  go_wp2_with fail
  refine (known4_any w2).mono ?_
  rintro e w3 ⟨rfl, B3⟩
  have O3 : One w w3 M d (DS.new 14) := One.below ⟨D2, fun q hq => Nat.le_trans B1.size (hM2 q hq), B1.trans (B2.mono B1.size)⟩ B3
  have O3 := hid O3
  clear D2 hM2 B1 B2 B3
  go_wp2_with fail
  refine (all_any 7 w3).mono ?_
  rintro e w4 ⟨g4, rfl, hb4, hg4, B4⟩
  go_wp2_with fail
  refine (layall_any O3.out.drum (DS.Up.new 14) 0 (by decide) g4 7 hb4 hg4 B4 (by decide)).mono ?_
  rintro e w5 ⟨rfl, M5, D5, S5⟩
  have O5 := hid (O3.out.step D5 S5)
  have ST := settle_any O5.out.drum
  rw [((DS.Up.new 14).lay1 0 _).settle, ((DS.Up.new 14).lay1 0 _).code] at ST
  clear D5 S5 hb4
  go_wp2_with fail
  refine ST.mono ?_
  rintro e w6 ⟨rfl, M6, D6, S6⟩
  have O6 := hid (O5.out.step D6 S6)
  clear ST D6 S6
  go_wp2_with fail
  refine (PK w6).mono ?_
  rintro e w6' ⟨rfl, rfl⟩
  go_wp2_with fail
  refine (break_any O6.out.drum (af : Int)).mono ?_
  rintro e w7 ⟨rfl, M7, D7, S7⟩
  have O7 := hid (O6.out.step D7 S7)
  have HB7 := hid (Brk.start af haf2)
  rw [u8_7] at O7
  obtain ⟨SB, hSB⟩ : ∃ SB, (((DS.new 14).lay1 0 (rep 7)).settle1).brk (af : Int) = SB := ⟨_, rfl⟩
  rw [hSB] at O7 HB7
  clear D7 S7 hSB O6 O5 O3
  go_wp2_with fail
  go_loopw [7] (fun v wr => ∃ (i : Nat) (M : Dom) (S : DS), v = .int .i64 i ∧ i ≤ ol ∧ i ≤ 25 ∧ Hid (One w wr M d S) ∧ Hid (Brk S i af)) (fun v _ => 25 - (intOf v).toNat)
  case atStart => exact ⟨0, M7, SB, rfl, by omega, by omega, O7, HB7⟩
  case round =>
    obtain ⟨i, M1, S, rfl, hi1, hi2, BO, BR⟩ := hrel
    by_cases hlt : i < ol ∧ i < 25
    · obtain ⟨hlt1, hlt2⟩ := hlt
      have hixi := hix i hlt1
      have hc := (hO.below BO.out.bel (Nat.le_refl _)).cell i hlt1
      have hbd : -9223372036854775808 ≤ oz[i]?.getD 0 ∧ oz[i]?.getD 0 ≤ 9223372036854775807 := by
        rw [List.getElem?_eq_getElem (by rw [hO.length]; exact hlt1)]
        exact hO.wf _ (List.getElem_mem _)
      obtain ⟨x, hx⟩ : ∃ x, oz[i]?.getD 0 = x := ⟨_, rfl⟩
      rw [hx] at hc hbd
      obtain ⟨r, hr, hr2⟩ : ∃ r : Nat, x % 4 = (r : Int) ∧ r < 4 := ⟨(x % 4).toNat, by omega, by omega⟩
      obtain ⟨kk, hkk, hkk2⟩ : ∃ kk : Nat, x % 13 = (kk : Int) ∧ kk < 13 := ⟨(x % 13).toNat, by omega, by omega⟩
      have PK1 := pick_any x 4 wr hbd (by omega) (by omega)
      have PK2 := pick_any x 13 wr hbd (by omega) (by omega)
      rw [hr] at PK1
      rw [hkk] at PK2
      have hm1 : min ((i : Int) + 1) (af : Int) = ((min (i + 1) af : Nat) : Int) := by omega
      obtain ⟨mm, hmm⟩ : ∃ mm, min (i + 1) af = mm := ⟨_, rfl⟩
      rw [hmm] at hm1
      have HMM := hid hmm
      have hml : mm ≤ 14 := by omega
      have CD := BR.out.code haf2
      clear hx hr hkk hmm
      -- ROUND 1
      by_cases hia : i < af
      · rw [if_pos hia] at CD
        by_cases hr0 : r = 0
        · subst hr0
          have ST := settle_any BO.out.drum
          rw [CD] at ST
          clear CD
          go_wp2_with fail
          refine PK1.mono ?_
          rintro e w8 ⟨rfl, rfl⟩
          go_wp2_with fail
          refine ST.mono ?_
          rintro e w9 ⟨rfl, M9, D9, S9⟩
          have BO9 := hid (BO.out.step D9 S9)
          have BR9 := hid (BR.out.settle haf2)
          clear ST D9 S9
          have g1 : ((i : Int) < (af : Int)) := by omega
          have g2 : decide ((i : Int) < (af : Int)) = true := by simp; omega
          have g3 : decide ((af : Int) ≤ (i : Int)) = false := by simp; omega
          have g4 : ¬ ((af : Int) ≤ (i : Int)) := by omega
          have hbr := BR9.out.broken
          rw [show decide (af < i + 1) = false by simp; omega] at hbr
          have htu := BR9.out.turns
          rw [HMM.out] at htu
          have KB := broken_any BO9.out.drum
          rw [hbr] at KB
          have KT := turns_any BO9.out.drum
          rw [htu] at KT
          clear hbr htu
          go_wp2_with fail
          refine KB.mono ?_
          rintro e w10 ⟨rfl, rfl⟩
          go_wp2_with fail
          refine KT.mono ?_
          rintro e w10 ⟨rfl, rfl⟩
          go_wp2_with fail
          go_roundw
          case measure => simp [intOf]; omega
          case rel => exact ⟨i + 1, M9, _, by go_num, by omega, by omega, BO9, BR9⟩
        · have nr1 : ((r : Int) == 0) = false := by simp; omega
          have nr2 : ¬ ((r : Int) = 0) := by omega
          clear hr0
          go_wp2_with fail
          refine PK1.mono ?_
          rintro e w8 ⟨rfl, rfl⟩
          go_wp2_with fail
          refine PK2.mono ?_
          rintro e w8 ⟨rfl, rfl⟩
          go_wp2_with fail
          refine (all_any (i : Int) wr).mono ?_
          rintro e w8 ⟨g, rfl, hb, hg, B8'⟩
          obtain ⟨BL, CL⟩ := BR.out.lay haf2 (k := 1 + kk) (by omega) (by omega) (zs := rep (IntKind.u8.wrap (i : Int))) (rep_length _)
          have LA := lay_any (BO.out.drum.below B8') ((1 + kk : Nat) : Int) (some ⟨g, 0, none⟩) 96 96 (rep (IntKind.u8.wrap (i : Int))) (row_blk hb) (rep_length _) rep_bytes (fun h => by cases h) (fun _ hm => by have h9 := BO.out.drum.ml g hm; omega) (by have := BR.out.up; omega)
          rw [CL, CD] at LA
          rw [show ((1 + kk : Nat) : Int) = 1 + (kk : Int) by omega] at LA BL
          have BR9 := hid BL
          have BO8 := hid (BO.out.below B8')
          clear BL CL CD hb
          go_wp2_with fail
          refine LA.mono ?_
          rintro e w9 ⟨rfl, M9, D9, S9⟩
          have BO9 := hid (BO8.out.step D9 S9)
          clear LA D9 S9
          have g1 : ((i : Int) < (af : Int)) := by omega
          have g2 : decide ((i : Int) < (af : Int)) = true := by simp; omega
          have g3 : decide ((af : Int) ≤ (i : Int)) = false := by simp; omega
          have g4 : ¬ ((af : Int) ≤ (i : Int)) := by omega
          have hbr := BR9.out.broken
          rw [show decide (af < i + 1) = false by simp; omega] at hbr
          have htu := BR9.out.turns
          rw [HMM.out] at htu
          have KB := broken_any BO9.out.drum
          rw [hbr] at KB
          have KT := turns_any BO9.out.drum
          rw [htu] at KT
          clear hbr htu
          go_wp2_with fail
          refine KB.mono ?_
          rintro e w10 ⟨rfl, rfl⟩
          go_wp2_with fail
          refine KT.mono ?_
          rintro e w10 ⟨rfl, rfl⟩
          go_wp2_with fail
          go_roundw
          case measure => simp [intOf]; omega
          case rel => exact ⟨i + 1, M9, _, by go_num, by omega, by omega, BO9, BR9⟩
      · rw [if_neg hia] at CD
        by_cases hr0 : r = 0
        · subst hr0
          have ST := settle_any BO.out.drum
          rw [CD] at ST
          clear CD
          go_wp2_with fail
          refine PK1.mono ?_
          rintro e w8 ⟨rfl, rfl⟩
          go_wp2_with fail
          refine ST.mono ?_
          rintro e w9 ⟨rfl, M9, D9, S9⟩
          have BO9 := hid (BO.out.step D9 S9)
          have BR9 := hid (BR.out.settle haf2)
          clear ST D9 S9
          have g1 : ¬ ((i : Int) < (af : Int)) := by omega
          have g2 : decide ((i : Int) < (af : Int)) = false := by simp; omega
          have g3 : decide ((af : Int) ≤ (i : Int)) = true := by simp; omega
          have g4 : (af : Int) ≤ (i : Int) := by omega
          have hbr := BR9.out.broken
          rw [show decide (af < i + 1) = true by simp; omega] at hbr
          have htu := BR9.out.turns
          rw [HMM.out] at htu
          have KB := broken_any BO9.out.drum
          rw [hbr] at KB
          have KT := turns_any BO9.out.drum
          rw [htu] at KT
          clear hbr htu
          go_wp2_with fail
          refine KB.mono ?_
          rintro e w10 ⟨rfl, rfl⟩
          go_wp2_with fail
          refine KT.mono ?_
          rintro e w10 ⟨rfl, rfl⟩
          go_wp2_with fail
          go_roundw
          case measure => simp [intOf]; omega
          case rel => exact ⟨i + 1, M9, _, by go_num, by omega, by omega, BO9, BR9⟩
        · have nr1 : ((r : Int) == 0) = false := by simp; omega
          have nr2 : ¬ ((r : Int) = 0) := by omega
          clear hr0
          go_wp2_with fail
          refine PK1.mono ?_
          rintro e w8 ⟨rfl, rfl⟩
          go_wp2_with fail
          refine PK2.mono ?_
          rintro e w8 ⟨rfl, rfl⟩
          go_wp2_with fail
          refine (all_any (i : Int) wr).mono ?_
          rintro e w8 ⟨g, rfl, hb, hg, B8'⟩
          obtain ⟨BL, CL⟩ := BR.out.lay haf2 (k := 1 + kk) (by omega) (by omega) (zs := rep (IntKind.u8.wrap (i : Int))) (rep_length _)
          have LA := lay_any (BO.out.drum.below B8') ((1 + kk : Nat) : Int) (some ⟨g, 0, none⟩) 96 96 (rep (IntKind.u8.wrap (i : Int))) (row_blk hb) (rep_length _) rep_bytes (fun h => by cases h) (fun _ hm => by have h9 := BO.out.drum.ml g hm; omega) (by have := BR.out.up; omega)
          rw [CL, CD] at LA
          rw [show ((1 + kk : Nat) : Int) = 1 + (kk : Int) by omega] at LA BL
          have BR9 := hid BL
          have BO8 := hid (BO.out.below B8')
          clear BL CL CD hb
          go_wp2_with fail
          refine LA.mono ?_
          rintro e w9 ⟨rfl, M9, D9, S9⟩
          have BO9 := hid (BO8.out.step D9 S9)
          clear LA D9 S9
          have g1 : ¬ ((i : Int) < (af : Int)) := by omega
          have g2 : decide ((i : Int) < (af : Int)) = false := by simp; omega
          have g3 : decide ((af : Int) ≤ (i : Int)) = true := by simp; omega
          have g4 : (af : Int) ≤ (i : Int) := by omega
          have hbr := BR9.out.broken
          rw [show decide (af < i + 1) = true by simp; omega] at hbr
          have htu := BR9.out.turns
          rw [HMM.out] at htu
          have KB := broken_any BO9.out.drum
          rw [hbr] at KB
          have KT := turns_any BO9.out.drum
          rw [htu] at KT
          clear hbr htu
          go_wp2_with fail
          refine KB.mono ?_
          rintro e w10 ⟨rfl, rfl⟩
          go_wp2_with fail
          refine KT.mono ?_
          rintro e w10 ⟨rfl, rfl⟩
          go_wp2_with fail
          go_roundw
          case measure => simp [intOf]; omega
          case rel => exact ⟨i + 1, M9, _, by go_num, by omega, by omega, BO9, BR9⟩
    · -- REST
      by_cases h10 : i < ol
      · obtain rfl : i = 25 := by omega
        have h11 : (25 : Int) < (ol : Int) := by omega
        clear hlt
        obtain ⟨hf1, hf2⟩ := fall_none (s := S) (t := -1) (by omega) 0
        have hn14 : (S.fall [] (-1) 0).n = 14 := BR.out.n
        have hnow : (S.fall [] (-1) 0).now 0 = rep 7 := by rw [hf1]; exact BR.out.kept
        have UF := hid (DS.Up.fall S [] (-1) 0)
        obtain ⟨SF, hSF⟩ : ∃ SF, S.fall [] (-1) 0 = SF := ⟨_, rfl⟩
        have FA := fall_any BO.out.drum none 0 0 [] (-1) 0 (IntsAt.none _) (fun h => by omega)
        rw [hSF] at FA hn14 hnow UF
        clear hf1 hf2 hSF
        go_wp2_with fail
        refine FA.mono ?_
        rintro e w10 ⟨rfl, M10, D10, S10⟩
        have BF := hid (BO.out.step D10 S10)
        clear D10 S10 FA
        go_wp2_with fail
        refine (looku_any BF.out.drum UF.out 0 (by omega)).mono ?_
        rintro e w11 ⟨a5, c5, rfl, ho, hl5, hy5, B11⟩
        obtain ⟨g5, c5', e5, -⟩ := owns_some ho (by omega)
        cases e5
        have BY := hid (BF.out.below B11)
        rw [hnow] at ho hl5
        have CBW := fun W (B : Below w11.heap.size w11 W) => (by
          obtain ⟨_, _, e7, -, -, -, hrow5, -, -⟩ := row_of_owns (Below.owns B (Nat.le_refl _) ho)
          cases e7
          exact conv_row (P := Try.prog) Try.underlying29 Try.underlying5 Try.underlying9 c5 hrow5 (len := 96) hl5 : (convert 29 9 (.slice (some ⟨g5, 0, none⟩) 96 c5)).run Try.prog W = .ok (.string (strOfNums (rep 7))) W)
        have kcb := CBW w11.drew (Below.refl _ _).drew
        have HCB := hid CBW
        have AL := all_any 7 w11.drew
        rw [u8_7] at AL
        clear CBW ho hl5 hy5 hnow
        go_wp2_with fail
        go_region_law (first
          | (go_simp; go_at_call 12; refine AL.mono ?_; rintro e w12 ⟨g6, rfl, hb6, hg6, B12⟩; have B112 := (Below.refl w11.heap.size w11).drew.trans B12; have kcA : (convert 29 9 (.slice (some ⟨g6, 0, none⟩) 96 96)).run Try.prog w12 = .ok (.string (strOfNums (rep 7))) w12 := conv_row Try.underlying29 Try.underlying5 Try.underlying9 96 (row_blk hb6) (rep_length _); have kcb2 := HCB.out w12 B112; have BZ := hid (BY.out.below B112); have KB := broken_any BZ.out.drum; have ST := settle_any BZ.out.drum; rw [UF.out.broken] at KB; rw [UF.out.settle, UF.out.code] at ST)
          | (go_simp; go_at_call 17; refine KB.mono ?_; rintro e w13 ⟨rfl, rfl⟩)
          | (go_simp; go_at_call 13; refine ST.mono ?_; rintro e w14 ⟨rfl, M14, D14, S14⟩))
        all_goals
          go_wp2_with fail
          go_ret
          exact ⟨rfl, (BZ.out.step D14 S14).bel⟩
      · obtain rfl : ol = i := by omega
        clear hlt
        obtain ⟨hf1, hf2⟩ := fall_none (s := S) (t := -1) (by omega) 0
        have hn14 : (S.fall [] (-1) 0).n = 14 := BR.out.n
        have hnow : (S.fall [] (-1) 0).now 0 = rep 7 := by rw [hf1]; exact BR.out.kept
        have UF := hid (DS.Up.fall S [] (-1) 0)
        obtain ⟨SF, hSF⟩ : ∃ SF, S.fall [] (-1) 0 = SF := ⟨_, rfl⟩
        have FA := fall_any BO.out.drum none 0 0 [] (-1) 0 (IntsAt.none _) (fun h => by omega)
        rw [hSF] at FA hn14 hnow UF
        clear hf1 hf2 hSF
        go_wp2_with fail
        refine FA.mono ?_
        rintro e w10 ⟨rfl, M10, D10, S10⟩
        have BF := hid (BO.out.step D10 S10)
        clear D10 S10 FA
        go_wp2_with fail
        refine (looku_any BF.out.drum UF.out 0 (by omega)).mono ?_
        rintro e w11 ⟨a5, c5, rfl, ho, hl5, hy5, B11⟩
        obtain ⟨g5, c5', e5, -⟩ := owns_some ho (by omega)
        cases e5
        have BY := hid (BF.out.below B11)
        rw [hnow] at ho hl5
        have CBW := fun W (B : Below w11.heap.size w11 W) => (by
          obtain ⟨_, _, e7, -, -, -, hrow5, -, -⟩ := row_of_owns (Below.owns B (Nat.le_refl _) ho)
          cases e7
          exact conv_row (P := Try.prog) Try.underlying29 Try.underlying5 Try.underlying9 c5 hrow5 (len := 96) hl5 : (convert 29 9 (.slice (some ⟨g5, 0, none⟩) 96 c5)).run Try.prog W = .ok (.string (strOfNums (rep 7))) W)
        have kcb := CBW w11.drew (Below.refl _ _).drew
        have HCB := hid CBW
        have AL := all_any 7 w11.drew
        rw [u8_7] at AL
        clear CBW ho hl5 hy5 hnow
        go_wp2_with fail
        go_region_law (first
          | (go_simp; go_at_call 12; refine AL.mono ?_; rintro e w12 ⟨g6, rfl, hb6, hg6, B12⟩; have B112 := (Below.refl w11.heap.size w11).drew.trans B12; have kcA : (convert 29 9 (.slice (some ⟨g6, 0, none⟩) 96 96)).run Try.prog w12 = .ok (.string (strOfNums (rep 7))) w12 := conv_row Try.underlying29 Try.underlying5 Try.underlying9 96 (row_blk hb6) (rep_length _); have kcb2 := HCB.out w12 B112; have BZ := hid (BY.out.below B112); have KB := broken_any BZ.out.drum; have ST := settle_any BZ.out.drum; rw [UF.out.broken] at KB; rw [UF.out.settle, UF.out.code] at ST)
          | (go_simp; go_at_call 17; refine KB.mono ?_; rintro e w13 ⟨rfl, rfl⟩)
          | (go_simp; go_at_call 13; refine ST.mono ?_; rintro e w14 ⟨rfl, M14, D14, S14⟩))
        all_goals
          go_wp2_with fail
          go_ret
          exact ⟨rfl, (BZ.out.step D14 S14).bel⟩

end Go.Proofs.Ytfijglkealnopaa
