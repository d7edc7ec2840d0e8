/- DrumTorn: the walk -/
import Derived.Test.YtfijglkealnopaaTornP
import Derived.Test.YtfijglkealnopaaTurnsArg
import Derived.Test.YtfijglkealnopaaHand
open Go Go.RowKit
namespace Go.Proofs.Ytfijglkealnopaa

/-- the byte of track k -/
def oldB (old : Int) (k : Nat) : Int := IntKind.u8.wrap (IntKind.i64.wrap (old + (k : Int)))

set_option maxRecDepth 100000 in
set_option maxHeartbeats 4000000 in
theorem drumTorn_walk (old fresh track cut : Int) (oa : Option Addr) (ol oc : Nat) (oz : List Int) (w : World) (h1 : -9223372036854775808 ≤ old ∧ old ≤ 9223372036854775807) (h2 : -9223372036854775808 ≤ fresh ∧ fresh ≤ 9223372036854775807) (h3 : -9223372036854775808 ≤ track ∧ track ≤ 9223372036854775807) (h4 : -9223372036854775808 ≤ cut ∧ cut ≤ 9223372036854775807) (hO : Ints w oa ol oz) :
    Calls Try.prog 4 #[.int .i64 old, .int .i64 fresh, .int .i64 track, .int .i64 cut, .slice oa ol oc] w fun e w' => e = .returned (.bool true) ∧ Below w.heap.size w w' := by
  have hix := fun k (hk : k < ol) => idx_at1 (P := Try.prog) (T := 23) Try.underlying23 szI (cap := oc) hO.nn hk
  have hol := hO.bound
  obtain ⟨tk, htk, htk2⟩ : ∃ tk : Nat, track % 11 = (tk : Int) ∧ tk < 11 := ⟨(track % 11).toNat, by omega, by omega⟩
  obtain ⟨q, hq1, hq2⟩ : ∃ q : Int, min cut 96 = q ∧ max 0 q = (cutOf cut : Int) := ⟨_, rfl, by unfold cutOf; omega⟩
  have hc96 : cutOf cut ≤ 96 := by unfold cutOf; omega
  obtain ⟨c, hc0⟩ : ∃ c, cutOf cut = c := ⟨_, rfl⟩
  rw [hc0] at hq2 hc96
  have hc1 : (0 : Int) ≤ (c : Int) := by omega
  have hc2 : (c : Int) ≤ 96 := by omega
  have HC0 := hid hc0
  clear hc0
  have PK := fun W => pick_any track 11 W h3 (by omega) (by omega)
  rw [htk] at PK
  clear htk
  go_enter Try.func4, Try.ntmps4
  go_wp2_with fail
  refine (known4_any w).mono ?_
  rintro e w1 ⟨rfl, B1⟩
  go_wp2_with fail
  refine (newn_any 11 w1 (by omega) (by omega)).mono ?_
  rintro e w2 ⟨d, M, rfl, D2, hM2, B2⟩
  go_wp2_with fail
  refine (PK w2).mono ?_
  rintro e w2' ⟨rfl, rfl⟩
  go_wp2_with fail
  refine (known4_any w2).mono ?_
  rintro e w3 ⟨rfl, B3⟩
  have O3 : One w w3 M d (DS.new 11) := One.below ⟨D2, fun q hq => Nat.le_trans B1.size (hM2 q hq), B1.trans (B2.mono B1.size)⟩ B3
  have O3 := hid O3
  clear D2 hM2 B1 B2 B3
  go_wp2_with fail
  go_loopw [13] (fun v wr => ∃ (i : Nat) (M : Dom) (S : DS), v = .int .i64 i ∧ i ≤ 11 ∧ Hid (One w wr M d S) ∧ Hid S.Up ∧ S.n = 11 ∧ S.up.length ≤ i ∧ Hid (∀ j, j < i → S.now j = rep (oldB old j))) (fun v _ => 11 - (intOf v).toNat)
  case atStart => exact ⟨0, M, _, rfl, by omega, O3, hid (DS.Up.new 11), rfl, Nat.zero_le _, hid (fun j hj => by omega)⟩
  case round =>
    obtain ⟨i, M1, S, rfl, hi, BO, UP, hS, hSu, HN⟩ := hrel
    by_cases hi11 : i < 11
    · obtain ⟨ek, hek⟩ : ∃ ek, IntKind.i64.wrap (old + (i : Int)) = ek := ⟨_, rfl⟩
      have HB := hid (show oldB old i = IntKind.u8.wrap ek by unfold oldB; rw [hek])
      have i1 : (0 : Int) ≤ (i : Int) := by omega
      have i2 : (i : Int) < 11 := by omega
      go_wp2_with fail
      refine (all_any ek wr).mono ?_
      rintro e w8 ⟨g, rfl, hb, hg, B8'⟩
      go_wp2_with fail
      refine (layall_any BO.out.drum UP.out i (by omega) g ek hb hg B8' (by omega)).mono ?_
      rintro e w9 ⟨rfl, M9, D9, S9⟩
      have BO9 := hid (BO.out.step D9 S9)
      clear hb S9 D9
      go_wp2_with fail
      go_roundw
      case measure => simp [intOf]; omega
      case rel =>
        refine ⟨i + 1, M9, _, by go_num, by omega, BO9, hid (UP.out.lay1 i _), hS, by show (S.up ++ [_]).length ≤ _; simp; omega, hid (fun j hj => ?_)⟩
        show upd S.now i _ j = _
        by_cases e : j = i
        · subst e; rw [upd_same, HB.out]
        · rw [upd_ne _ _ e]; exact HN.out j (by omega)
    · obtain rfl : i = 11 := by omega
      have ST := settle_any BO.out.drum
      rw [UP.out.settle, UP.out.code] at ST
      go_wp2_with fail
      refine ST.mono ?_
      rintro e w4 ⟨rfl, M4, D4, S4⟩
      have BO4 := hid (BO.out.step D4 S4)
      have KP := hid (show ∀ j, j < 11 → S.settle1.kept j = rep (oldB old j) from HN.out)
      have US := hid UP.out.settle1
      have hn4 : S.settle1.n = 11 := hS
      have hu4 : S.settle1.up.length = 0 := rfl
      obtain ⟨S1, hS1⟩ : ∃ S1, S.settle1 = S1 := ⟨_, rfl⟩
      rw [hS1] at BO4 KP US hn4 hu4
      clear ST D4 S4 hS1 BO HN UP
      go_wp2_with fail
      go_loopw [14] (fun v wr => ∃ (i : Nat) (M : Dom) (S : DS), v = .int .i64 i ∧ i ≤ ol ∧ i ≤ 10 ∧ Hid (One w wr M d S) ∧ Hid S.Up ∧ S.n = 11 ∧ Hid (S.up.length = i) ∧ Hid (∀ j, j < 11 → S.kept j = rep (oldB old j))) (fun v _ => 10 - (intOf v).toNat)
      case atStart => exact ⟨0, M4, S1, rfl, by omega, by omega, BO4, US, hn4, hid hu4, KP⟩
      case round =>
        obtain ⟨i, M5, S5, rfl, hi1, hi2, BO5, UP5, hS5, hSu5, KP5⟩ := hrel
        by_cases hlt : i < ol ∧ i < 10
        · obtain ⟨hlt1, hlt2⟩ := hlt
          have hixi := hix i hlt1
          have hc := (hO.below BO5.out.bel (Nat.le_refl _)).cell i hlt1
          have hbd : -9223372036854775808 ≤ oz[i]?.getD 0 ∧ oz[i]?.getD 0 ≤ 9223372036854775807 := by
            rw [List.getElem?_eq_getElem (by rw [hO.length]; exact hlt1)]
            exact hO.wf _ (List.getElem_mem _)
          obtain ⟨x, hx⟩ : ∃ x, oz[i]?.getD 0 = x := ⟨_, rfl⟩
          rw [hx] at hc hbd
          obtain ⟨kk, hkk, hkk2⟩ : ∃ kk : Nat, x % 11 = (kk : Int) ∧ kk < 11 := ⟨(x % 11).toNat, by omega, by omega⟩
          have PK1 := pick_any x 11 wr hbd (by omega) (by omega)
          rw [hkk] at PK1
          have hl5 : S5.up.length < 1000000000 := by rw [hSu5.out]; omega
          clear hx hkk
          go_wp2_with fail
          refine PK1.mono ?_
          rintro e w7 ⟨rfl, rfl⟩
          go_wp2_with fail
          refine (all_any 99 wr).mono ?_
          rintro e w8 ⟨g, rfl, hb, hg, B8'⟩
          go_wp2_with fail
          refine (layall_any BO5.out.drum UP5.out kk (by omega) g 99 hb hg B8' hl5).mono ?_
          rintro e w9 ⟨rfl, M9, D9, S9⟩
          have BO9 := hid (BO5.out.step D9 S9)
          clear hb S9 D9
          go_wp2_with fail
          go_roundw
          case measure => simp [intOf]; omega
          case rel => exact ⟨i + 1, M9, _, by go_num, by omega, by omega, BO9, hid (UP5.out.lay1 kk _), hS5, hid (by show (S5.up ++ [_]).length = _; rw [List.length_append, hSu5.out]; rfl), KP5⟩
        -- REST
        · by_cases h10 : i < ol
          · obtain rfl : i = 10 := by omega
            have h11 : (10 : Int) < (ol : Int) := by omega
            clear hlt
            have AF := afloat_any BO5.out.drum
            obtain ⟨n, hn⟩ : ∃ n, S5.up.length = n := ⟨_, rfl⟩
            rw [hn] at AF
            have HNN := hid hn
            have hn10 : n ≤ 10 := by have := hSu5.out; omega
            have BO6 := fun W B => BO5.out.below (w' := W) B
            clear hn
            go_wp2_with fail
            refine AF.mono ?_
            rintro e wA ⟨v, rfl, hv, BA⟩
            obtain ⟨av, ac, rfl⟩ := owns_slice hv
            have BO7 := hid (BO6 wA BA)
            clear hv AF BO6
            go_wp2_with fail
            refine (all_any fresh wA).mono ?_
            rintro e w8 ⟨g, rfl, hb, hg, B8'⟩
            go_wp2_with fail
            refine (layall_any BO7.out.drum UP5.out tk (by omega) g fresh hb hg B8' (by rw [HNN.out]; omega)).mono ?_
            rintro e w9 ⟨rfl, M9, D9, S9⟩
            have BO9 := hid (BO7.out.step D9 S9)
            clear hb S9 D9
            go_wp2_with fail
            refine (fall_any BO9.out.drum none 0 0 [] n cut (IntsAt.none _) (fun h => by omega)).mono ?_
            rintro e w10 ⟨rfl, M10, D10, S10⟩
            have BF := hid (BO9.out.step D10 S10)
            have TN := fun k => torn_now (tk := tk) (zs := rep (IntKind.u8.wrap fresh)) HNN.out cut k
            obtain ⟨SF, hSF⟩ : ∃ SF, (S5.lay1 tk (rep (IntKind.u8.wrap fresh))).fall [] n cut = SF := ⟨_, rfl⟩
            rw [hSF] at BF
            have UF := hid (show SF.Up from hSF ▸ DS.Up.fall _ _ _ _)
            have hSn : SF.n = 11 := by rw [← hSF]; exact hS5
            rw [hSF] at TN
            rw [HC0.out] at TN
            have TN := hid TN
            clear D10 S10 BO9 hSF BO7
            go_wp2_with fail
            go_loopw [16] (fun v wx => ∃ k : Nat, v = .int .i64 k ∧ k ≤ 11 ∧ Hid (One w wx M10 d SF)) (fun v _ => 11 - (intOf v).toNat)
            case atStart => exact ⟨0, rfl, by omega, BF⟩
            case round =>
              obtain ⟨k, rfl, hk, BX⟩ := hrel
              by_cases hk11 : k < 11
              · obtain ⟨ek, hek⟩ : ∃ ek, IntKind.i64.wrap (old + (k : Int)) = ek := ⟨_, rfl⟩
                have HB := hid (show oldB old k = IntKind.u8.wrap ek by unfold oldB; rw [hek])
                have k1 : (0 : Int) ≤ (k : Int) := by omega
                have k2 : (k : Int) < 11 := by omega
                go_wp2_with fail
                refine (looku_any BX.out.drum UF.out k (by omega)).mono ?_
                rintro e w11 ⟨a5, c5, rfl, ho, hl5, hy5, B11⟩
                obtain ⟨g5, c5', e5, -⟩ := owns_some ho (by omega)
                cases e5
                have BY := hid (BX.out.below B11)
                have hlg5 := (ho.lt g5 rfl).2
                go_wp2_with fail
                refine (all_any ek w11).mono ?_
                rintro e w12 ⟨g6, rfl, hb6, hg6, B12⟩
                have ho12 := Below.owns B12 (Nat.le_refl _) ho
                have BZ := hid (BY.out.below B12)
                have kc1 : (convert 29 9 (.slice (some ⟨g6, 0, none⟩) 96 96)).run Try.prog w12 = .ok (.string (strOfNums (rep (oldB old k)))) w12 := by
                  rw [HB.out]
                  exact conv_row Try.underlying29 Try.underlying5 Try.underlying9 96 (row_blk hb6) (rep_length _)
                obtain ⟨_, _, e7, -, -, -, hrow5, -, -⟩ := row_of_owns ho12
                cases e7
                have kc2 := conv_row (P := Try.prog) Try.underlying29 Try.underlying5 Try.underlying9 c5 hrow5 (len := 96) hl5
                have HR5 := hid hrow5
                have H5 := hid hl5
                have lt12 : g5 < w12.heap.size := by have := B12.size; omega
                by_cases hkt : k = tk
                · subst hkt
                  have hz : SF.now k = (rep (IntKind.u8.wrap fresh)).take c ++ (rep (oldB old k)).drop c := by rw [TN.out k, if_pos rfl, KP5.out k hk11]
                  obtain ⟨z, hz2⟩ : ∃ z, (rep (IntKind.u8.wrap fresh)).take c ++ (rep (oldB old k)).drop c = z := ⟨_, rfl⟩
                  rw [hz2] at hz
                  have ex1 : (strOfNums (rep (IntKind.u8.wrap fresh))).extract 0 c = strOfNums ((rep (IntKind.u8.wrap fresh)).take c) := str_take _ _
                  have ex2 : (strOfNums (rep (oldB old k))).extract c 96 = strOfNums ((rep (oldB old k)).drop c) := str_drop _ _ _ (by rw [rep_length]; exact Nat.le_refl _)
                  have ex3 : strOfNums ((rep (IntKind.u8.wrap fresh)).take c) ++ strOfNums ((rep (oldB old k)).drop c) = strOfNums z := by rw [str_append, hz2]
                  have sz1 : (strOfNums (rep (IntKind.u8.wrap fresh))).size = 96 := by rw [strOfNums_size, rep_length]
                  have sz2 : (strOfNums (rep (oldB old k))).size = 96 := by rw [strOfNums_size, rep_length]
                  have hle : ¬ (9223372036854775807 < (strOfNums ((rep (IntKind.u8.wrap fresh)).take c)).size + (strOfNums ((rep (oldB old k)).drop c)).size) := by
                    rw [strOfNums_size, strOfNums_size, List.length_take, List.length_drop, rep_length, rep_length]
                    omega
                  have hr5' := HR5.out
                  have h5' := H5.out
                  rw [hz] at hr5' h5'
                  have CW := hid (fun W (B : Below w12.heap.size w12 W) => (conv_row (P := Try.prog) Try.underlying29 Try.underlying5 Try.underlying9 c5 (hr5'.below B (Nat.le_refl _)) (len := 96) h5' : (convert 29 9 (.slice (some ⟨g5, 0, none⟩) 96 c5)).run Try.prog W = .ok (.string (strOfNums z)) W))
                  have AL := all_any fresh w12.drew
                  clear hz hz2 ho ho12 hrow5 hl5 hy5 hb6 kc2 hr5' h5'
                  go_wp2_with fail
                  go_region_law (first | (go_simp; go_at_call 12; refine AL.mono ?_; rintro e w13 ⟨g7, rfl, hb7, hg7, B13⟩; have kc3 : (convert 29 9 (.slice (some ⟨g7, 0, none⟩) 96 96)).run Try.prog w13 = .ok (.string (strOfNums (rep (IntKind.u8.wrap fresh)))) w13 := conv_row Try.underlying29 Try.underlying5 Try.underlying9 96 (row_blk hb7) (rep_length _); have kc4 := CW.out w13 ((Below.refl _ _).drew.trans B13); have BU := hid (BZ.out.below ((Below.refl _ _).drew.trans B13))))
                  all_goals
                    go_wp2_with fail
                    go_roundw
                    case measure => simp [intOf]; omega
                    case rel => exact ⟨k + 1, by go_num, by omega, BU⟩
                · have n1 : ((k : Int) == (tk : Int)) = false := by simp; omega
                  have n2 : ¬ ((k : Int) = (tk : Int)) := by omega
                  have hz : SF.now k = rep (oldB old k) := by rw [TN.out k, if_neg hkt]; exact KP5.out k hk11
                  rw [hz] at kc2
                  clear hz ho ho12 hrow5 hl5 hy5 hb6 hkt
                  go_wp2_with fail
                  go_roundw
                  case measure => simp [intOf]; omega
                  case rel => exact ⟨k + 1, by go_num, by omega, BZ⟩
              · obtain rfl : k = 11 := by omega
                go_wp2_with fail
                go_ret
                exact ⟨rfl, BX.out.bel⟩
          · obtain rfl : ol = i := by omega
            clear hlt
            have AF := afloat_any BO5.out.drum
            obtain ⟨n, hn⟩ : ∃ n, S5.up.length = n := ⟨_, rfl⟩
            rw [hn] at AF
            have HNN := hid hn
            have hn10 : n ≤ 10 := by have := hSu5.out; omega
            have BO6 := fun W B => BO5.out.below (w' := W) B
            clear hn
            go_wp2_with fail
            refine AF.mono ?_
            rintro e wA ⟨v, rfl, hv, BA⟩
            obtain ⟨av, ac, rfl⟩ := owns_slice hv
            have BO7 := hid (BO6 wA BA)
            clear hv AF BO6
            go_wp2_with fail
            refine (all_any fresh wA).mono ?_
            rintro e w8 ⟨g, rfl, hb, hg, B8'⟩
            go_wp2_with fail
            refine (layall_any BO7.out.drum UP5.out tk (by omega) g fresh hb hg B8' (by rw [HNN.out]; omega)).mono ?_
            rintro e w9 ⟨rfl, M9, D9, S9⟩
            have BO9 := hid (BO7.out.step D9 S9)
            clear hb S9 D9
            go_wp2_with fail
            refine (fall_any BO9.out.drum none 0 0 [] n cut (IntsAt.none _) (fun h => by omega)).mono ?_
            rintro e w10 ⟨rfl, M10, D10, S10⟩
            have BF := hid (BO9.out.step D10 S10)
            have TN := fun k => torn_now (tk := tk) (zs := rep (IntKind.u8.wrap fresh)) HNN.out cut k
            obtain ⟨SF, hSF⟩ : ∃ SF, (S5.lay1 tk (rep (IntKind.u8.wrap fresh))).fall [] n cut = SF := ⟨_, rfl⟩
            rw [hSF] at BF
            have UF := hid (show SF.Up from hSF ▸ DS.Up.fall _ _ _ _)
            have hSn : SF.n = 11 := by rw [← hSF]; exact hS5
            rw [hSF] at TN
            rw [HC0.out] at TN
            have TN := hid TN
            clear D10 S10 BO9 hSF BO7
            go_wp2_with fail
            go_loopw [16] (fun v wx => ∃ k : Nat, v = .int .i64 k ∧ k ≤ 11 ∧ Hid (One w wx M10 d SF)) (fun v _ => 11 - (intOf v).toNat)
            case atStart => exact ⟨0, rfl, by omega, BF⟩
            case round =>
              obtain ⟨k, rfl, hk, BX⟩ := hrel
              by_cases hk11 : k < 11
              · obtain ⟨ek, hek⟩ : ∃ ek, IntKind.i64.wrap (old + (k : Int)) = ek := ⟨_, rfl⟩
                have HB := hid (show oldB old k = IntKind.u8.wrap ek by unfold oldB; rw [hek])
                have k1 : (0 : Int) ≤ (k : Int) := by omega
                have k2 : (k : Int) < 11 := by omega
                go_wp2_with fail
                refine (looku_any BX.out.drum UF.out k (by omega)).mono ?_
                rintro e w11 ⟨a5, c5, rfl, ho, hl5, hy5, B11⟩
                obtain ⟨g5, c5', e5, -⟩ := owns_some ho (by omega)
                cases e5
                have BY := hid (BX.out.below B11)
                have hlg5 := (ho.lt g5 rfl).2
                go_wp2_with fail
                refine (all_any ek w11).mono ?_
                rintro e w12 ⟨g6, rfl, hb6, hg6, B12⟩
                have ho12 := Below.owns B12 (Nat.le_refl _) ho
                have BZ := hid (BY.out.below B12)
                have kc1 : (convert 29 9 (.slice (some ⟨g6, 0, none⟩) 96 96)).run Try.prog w12 = .ok (.string (strOfNums (rep (oldB old k)))) w12 := by
                  rw [HB.out]
                  exact conv_row Try.underlying29 Try.underlying5 Try.underlying9 96 (row_blk hb6) (rep_length _)
                obtain ⟨_, _, e7, -, -, -, hrow5, -, -⟩ := row_of_owns ho12
                cases e7
                have kc2 := conv_row (P := Try.prog) Try.underlying29 Try.underlying5 Try.underlying9 c5 hrow5 (len := 96) hl5
                have HR5 := hid hrow5
                have H5 := hid hl5
                have lt12 : g5 < w12.heap.size := by have := B12.size; omega
                by_cases hkt : k = tk
                · subst hkt
                  have hz : SF.now k = (rep (IntKind.u8.wrap fresh)).take c ++ (rep (oldB old k)).drop c := by rw [TN.out k, if_pos rfl, KP5.out k hk11]
                  obtain ⟨z, hz2⟩ : ∃ z, (rep (IntKind.u8.wrap fresh)).take c ++ (rep (oldB old k)).drop c = z := ⟨_, rfl⟩
                  rw [hz2] at hz
                  have ex1 : (strOfNums (rep (IntKind.u8.wrap fresh))).extract 0 c = strOfNums ((rep (IntKind.u8.wrap fresh)).take c) := str_take _ _
                  have ex2 : (strOfNums (rep (oldB old k))).extract c 96 = strOfNums ((rep (oldB old k)).drop c) := str_drop _ _ _ (by rw [rep_length]; exact Nat.le_refl _)
                  have ex3 : strOfNums ((rep (IntKind.u8.wrap fresh)).take c) ++ strOfNums ((rep (oldB old k)).drop c) = strOfNums z := by rw [str_append, hz2]
                  have sz1 : (strOfNums (rep (IntKind.u8.wrap fresh))).size = 96 := by rw [strOfNums_size, rep_length]
                  have sz2 : (strOfNums (rep (oldB old k))).size = 96 := by rw [strOfNums_size, rep_length]
                  have hle : ¬ (9223372036854775807 < (strOfNums ((rep (IntKind.u8.wrap fresh)).take c)).size + (strOfNums ((rep (oldB old k)).drop c)).size) := by
                    rw [strOfNums_size, strOfNums_size, List.length_take, List.length_drop, rep_length, rep_length]
                    omega
                  have hr5' := HR5.out
                  have h5' := H5.out
                  rw [hz] at hr5' h5'
                  have CW := hid (fun W (B : Below w12.heap.size w12 W) => (conv_row (P := Try.prog) Try.underlying29 Try.underlying5 Try.underlying9 c5 (hr5'.below B (Nat.le_refl _)) (len := 96) h5' : (convert 29 9 (.slice (some ⟨g5, 0, none⟩) 96 c5)).run Try.prog W = .ok (.string (strOfNums z)) W))
                  have AL := all_any fresh w12.drew
                  clear hz hz2 ho ho12 hrow5 hl5 hy5 hb6 kc2 hr5' h5'
                  go_wp2_with fail
                  go_region_law (first | (go_simp; go_at_call 12; refine AL.mono ?_; rintro e w13 ⟨g7, rfl, hb7, hg7, B13⟩; have kc3 : (convert 29 9 (.slice (some ⟨g7, 0, none⟩) 96 96)).run Try.prog w13 = .ok (.string (strOfNums (rep (IntKind.u8.wrap fresh)))) w13 := conv_row Try.underlying29 Try.underlying5 Try.underlying9 96 (row_blk hb7) (rep_length _); have kc4 := CW.out w13 ((Below.refl _ _).drew.trans B13); have BU := hid (BZ.out.below ((Below.refl _ _).drew.trans B13))))
                  all_goals
                    go_wp2_with fail
                    go_roundw
                    case measure => simp [intOf]; omega
                    case rel => exact ⟨k + 1, by go_num, by omega, BU⟩
                · have n1 : ((k : Int) == (tk : Int)) = false := by simp; omega
                  have n2 : ¬ ((k : Int) = (tk : Int)) := by omega
                  have hz : SF.now k = rep (oldB old k) := by rw [TN.out k, if_neg hkt]; exact KP5.out k hk11
                  rw [hz] at kc2
                  clear hz ho ho12 hrow5 hl5 hy5 hb6 hkt
                  go_wp2_with fail
                  go_roundw
                  case measure => simp [intOf]; omega
                  case rel => exact ⟨k + 1, by go_num, by omega, BZ⟩
              · obtain rfl : k = 11 := by omega
                go_wp2_with fail
                go_ret
                exact ⟨rfl, BX.out.bel⟩

end Go.Proofs.Ytfijglkealnopaa
