/- DrumKnown: the walk -/
import Derived.Test.YtfijglkealnopaaTornP
import Derived.Test.YtfijglkealnopaaSame
open Go Go.RowKit
namespace Go.Proofs.Ytfijglkealnopaa

def kB : DS := (((DS.new 10).lay1 2 (rep 2)).lay1 3 (rep 3)).lay1 2 (rep 4)
def kC : DS := kB.fall [0, 9, -1] 2 50
def kD : DS := kC.brk 1
def kE : DS := kD.lay 4 (rep 5)
def kF : DS := kE.settle
def kG : DS := kF.fall [] 0 1000
theorem kB_up : (kB.up.map fun p => (p.1 : Int)) = [2, 3, 2] := by decide
theorem kC_two : (kC.now 2)[0]? = some 4 ∧ (kC.now 2)[49]? = some 4 ∧ (kC.now 2)[50]? = some 2 := by decide
theorem kC_three : (kC.now 3)[0]? = some 0 := by decide
theorem kD_code : kD.layCode 4 (rep 5) = 0 := by decide
theorem kE_code : kE.code = 4 := by decide
theorem kF_broken : kF.broken = true := by decide
theorem kG_four : (kG.now 4)[95]? = some 5 := by decide
theorem kG_turns : kG.turns = 4 := by decide
theorem kG_n : kG.n = 10 := by decide
theorem u8s : IntKind.u8.wrap 1 = 1 ∧ IntKind.u8.wrap 2 = 2 ∧ IntKind.u8.wrap 3 = 3 ∧ IntKind.u8.wrap 4 = 4 ∧ IntKind.u8.wrap 5 = 5 := by decide
theorem DS.Up.kC : kC.Up := DS.Up.fall _ _ _ _
theorem DS.Up.kG : kG.Up := DS.Up.fall _ _ _ _
theorem DS.Up.kB : kB.Up := (((DS.Up.new 10).lay1 _ _).lay1 _ _).lay1 _ _

theorem newn_no (n : Int) (w : World) (h : ¬ (10 ≤ n ∧ n ≤ 4096)) :
    Calls Try.prog 9 #[.int .i64 n] w fun e w' => e = .returned (.tuple #[.pointer none, .int .i64 1]) ∧ Below w.heap.size w w' := by
  refine (new_any n w).mono ?_
  rintro e w' ⟨h' | ⟨h1, h2, -⟩, hB⟩
  · exact ⟨h'.2, hB⟩
  · exact absurd ⟨h1, h2⟩ h
theorem lay_no {w : World} {M : Dom} {d : Nat} {s : DS} (h : DrumAt w M d s) (k : Int) (a : Option Addr) (lb cb : Nat) (zs : List Int) (hrow : Row w a (B8 zs)) (hl : zs.length = lb) (hby : IsBytes zs) (hnil : a = none → lb = 0) (hM : 0 < lb → ¬ M (sB a)) (hu : s.up.length < 1000000000) (hf : s.fits k zs = false) :
    Calls Try.prog 11 #[.pointer (some ⟨d, 0, none⟩), .int .i64 k, .slice a lb cb] w fun e w' => e = .returned (.int .i64 1) ∧ ∃ M', DrumAt w' M' d s ∧ Step M w M' w' := by
  refine (lay_any h k a lb cb zs hrow hl hby hnil hM hu).mono ?_
  have e1 : s.lay k zs = s := by unfold DS.lay; rw [hf]; rfl
  have e2 : s.layCode k zs = 1 := by unfold DS.layCode; rw [hf]; rfl
  rw [e1, e2]
  exact fun _ _ h => h
theorem One.lay {w0 w w1 w' : World} {M M' : Dom} {d : Nat} {s s' : DS} (h : One w0 w M d s) (hd : DrumAt w' M' d s') (k : Step M w M' w') : One w0 w' M' d s' := h.step hd k

set_option maxRecDepth 100000 in
set_option maxHeartbeats 4000000 in
theorem drumKnown_walk (w : World) : Calls Try.prog 7 #[] w fun e w' => e = .returned (.bool true) ∧ Below w.heap.size w w' := by
  obtain ⟨v1, v2, v3, v4, v5⟩ := u8s
  have V := hid u8s
  clear v1 v2 v3 v4 v5
  go_enter Try.func7, Try.ntmps7
  go_wp2_with fail
  refine (known4_any w).mono ?_
  rintro e w1 ⟨rfl, B1⟩
  go_wp2_with fail
  refine (newn_no 9 w1 (by omega)).mono ?_
  rintro e w2 ⟨rfl, B2⟩
  go_wp2_with fail
  refine (newn_no 4097 w2 (by omega)).mono ?_
  rintro e w3 ⟨rfl, B3⟩
  go_wp2_with fail
  refine (newn_any 10 w3 (by omega) (by omega)).mono ?_
  rintro e w4 ⟨d, M4, rfl, D4, hM4, B4⟩
  have b1 := B1.size
  have b2 := B2.size
  have b3 := B3.size
  have O4 : One w w4 M4 d (DS.new 10) := ⟨D4, fun q hq => by have := hM4 q hq; omega, ((B1.trans (B2.mono (by omega))).trans (B3.mono (by omega))).trans (B4.mono (by omega))⟩
  have O4 := hid O4
  clear D4 hM4 B1 B2 B3 B4
  go_wp2_with fail
  refine (known4_any w4).mono ?_
  rintro e w5 ⟨rfl, B5⟩
  have O5 := hid (O4.out.below B5)
  clear O4 B5
  go_wp2_with fail
  refine (all_any 1 w5).mono ?_
  rintro e w6 ⟨g6, rfl, hb6, hg6, B6⟩
  have O6 := hid (O5.out.below B6)
  go_wp2_with fail
  refine (lay_no O6.out.drum 10 (some ⟨g6, 0, none⟩) 96 96 (rep (IntKind.u8.wrap 1)) (row_blk hb6) (rep_length _) rep_bytes (fun h => by cases h) (fun _ hm => by have := O5.out.drum.ml g6 hm; omega) (by decide) (by decide)).mono ?_
  rintro e w7 ⟨rfl, M7, D7, S7⟩
  have O7 := hid (O6.out.step D7 S7)
  clear D7 S7 O5 O6 B6 hb6
  go_wp2_with fail
  refine (all_any 1 w7).mono ?_
  rintro e w8 ⟨g8, rfl, hb8, hg8, B8'⟩
  have O8 := hid (O7.out.below B8')
  have r8 := (row_blk hb8).drop 1
  go_wp2_with fail
  refine (lay_no O8.out.drum 1 (some ⟨g8, 1, none⟩) 95 95 (List.replicate 95 (IntKind.u8.wrap 1)) r8 (by simp) (fun n hn => rep_bytes (c := 1) n (by have h := List.mem_replicate.1 hn; unfold rep; exact List.mem_replicate.2 ⟨by omega, h.2⟩)) (fun h => by cases h) (fun _ hm => by have := O7.out.drum.ml g8 hm; omega) (by decide) (by decide)).mono ?_
  rintro e w9 ⟨rfl, M9, D9, S9⟩
  have O9 := hid (O8.out.step D9 S9)
  clear D9 S9 O7 O8 B8' hb8 r8
  go_wp2_with fail
  refine (all_any 2 w9).mono ?_
  rintro e w10 ⟨g10, rfl, hb10, hg10, B10⟩
  go_wp2_with fail
  refine (layall_any O9.out.drum (DS.Up.new 10) 2 (by decide) g10 2 hb10 hg10 B10 (by decide)).mono ?_
  rintro e w11 ⟨rfl, M11, D11, S11⟩
  have O11 := hid (O9.out.step D11 S11)
  rw [V.out.2.1] at O11
  clear D11 S11 O9 B10 hb10
  go_wp2_with fail
  refine (all_any 3 w11).mono ?_
  rintro e w12 ⟨g12, rfl, hb12, hg12, B12⟩
  go_wp2_with fail
  refine (layall_any O11.out.drum ((DS.Up.new 10).lay1 _ _) 3 (by decide) g12 3 hb12 hg12 B12 (by decide)).mono ?_
  rintro e w13 ⟨rfl, M13, D13, S13⟩
  have O13 := hid (O11.out.step D13 S13)
  rw [V.out.2.2.1] at O13
  clear D13 S13 O11 B12 hb12
  go_wp2_with fail
  refine (all_any 4 w13).mono ?_
  rintro e w14 ⟨g14, rfl, hb14, hg14, B14⟩
  go_wp2_with fail
  refine (layall_any O13.out.drum (((DS.Up.new 10).lay1 _ _).lay1 _ _) 2 (by decide) g14 4 hb14 hg14 B14 (by decide)).mono ?_
  rintro e w15 ⟨rfl, M15, D15, S15⟩
  have O15 : Hid (One w w15 M15 d kB) := hid (by
    have := O13.out.step D15 S15
    rw [V.out.2.2.2.1] at this
    exact this)
  clear D15 S15 O13 B14 hb14
  go_wp2_with fail
  refine (afloat_any O15.out.drum).mono ?_
  rintro e w16 ⟨vu, rfl, hu16, B16⟩
  rw [kB_up, show kB.up.length = 3 from rfl] at hu16
  obtain ⟨gu, cu, rfl, -⟩ := owns_some hu16 (by omega)
  have O16 := hid (O15.out.below B16)
  have LU := (hu16.lt gu rfl)
  obtain ⟨_, _, eu, -, -, -, ru16, -, -⟩ := row_of_owns hu16
  cases eu
  have RU := hid ru16
  have NMu := hid (fun hm => by have := O15.out.drum.ml gu hm; omega : ¬ M15 gu)
  clear O15 B16 hu16 ru16
  have FA := fall_any (w := w16.alloc (.cells #[.int .i64 0, .int .i64 9, .int .i64 (-1)] 3)) (O16.out.below ((Below.refl _ _).alloc (Nat.le_refl _) _)).drum (some ⟨w16.heap.size, 0, none⟩) 3 3 [0, 9, -1] 2 50 ⟨row_new w16 _ _, rfl, (fun h => by cases h), by omega⟩ (fun _ hm => by have h9 := O16.out.drum.ml _ hm; exact absurd h9 (Nat.lt_irrefl _))
  go_wp2_with fail
  refine FA.mono ?_
  rintro e w17 ⟨rfl, M17, D17, S17⟩
  have BAL : Below w16.heap.size w16 (w16.alloc (.cells #[.int .i64 0, .int .i64 9, .int .i64 (-1)] 3)) := (Below.refl _ _).alloc (Nat.le_refl _) _
  have O17 : Hid (One w w17 M17 d kC) := hid ((O16.out.below BAL).step D17 S17)
  have RU17 := hid ((RU.out.below BAL (Nat.le_refl _)).ext S17.ext (fun _ hm => NMu.out hm))
  have NM17 := hid (fun hm => (S17.new gu hm).elim NMu.out (fun h => by have := BAL.size; have := LU.2; omega) : ¬ M17 gu)
  have lgu17 : gu < w17.heap.size := by have := S17.ext.size; have := BAL.size; omega
  clear FA D17 S17 O16 RU BAL NMu
  go_wp2_with fail
  refine (looku_any O17.out.drum DS.Up.kC 2 (by decide)).mono ?_
  rintro e w18 ⟨a18, c18, rfl, ho18, hl18, hy18, B18⟩
  obtain ⟨g18, c18', e18, -⟩ := owns_some ho18 (by omega)
  cases e18
  have O18 := hid (O17.out.below B18)
  have L18 := ho18.lt g18 rfl
  have x1 : w18.cell? ⟨g18, 0, none⟩ = some (.int .u8 4) := (ho18.cellAt 0 (by omega)).trans (by rw [B8, List.getElem?_map, kC_two.1]; rfl)
  have x2 : w18.cell? ⟨g18, 49, none⟩ = some (.int .u8 4) := (ho18.cellAt 49 (by omega)).trans (by rw [B8, List.getElem?_map, kC_two.2.1]; rfl)
  have x3 : w18.cell? ⟨g18, 50, none⟩ = some (.int .u8 2) := (ho18.cellAt 50 (by omega)).trans (by rw [B8, List.getElem?_map, kC_two.2.2]; rfl)
  have X18 := hid (And.intro x1 (And.intro x2 x3))
  have N18 := hid (fun hm => by have := O17.out.drum.ml g18 hm; omega : ¬ M17 g18)
  clear ho18 hl18 hy18 x1 x2 x3
  go_wp2_with fail
  refine (looku_any O18.out.drum DS.Up.kC 3 (by decide)).mono ?_
  rintro e w19 ⟨a19, c19, rfl, ho19, hl19, hy19, B19⟩
  obtain ⟨g19, c19', e19, -⟩ := owns_some ho19 (by omega)
  cases e19
  have O19 := hid (O18.out.below B19)
  have L19 := ho19.lt g19 rfl
  have x4 : w19.cell? ⟨g19, 0, none⟩ = some (.int .u8 0) := (ho19.cellAt 0 (by omega)).trans (by rw [B8, List.getElem?_map, kC_three]; rfl)
  have X19 := hid x4
  have N19 := hid (fun hm => by have := O18.out.drum.ml g19 hm; omega : ¬ M17 g19)
  clear ho19 hl19 hy19 x4
  go_wp2_with fail
  refine (break_any O19.out.drum 1).mono ?_
  rintro e w20 ⟨rfl, M20, D20, S20⟩
  have O20 : Hid (One w w20 M20 d kD) := hid (O19.out.step D20 S20)
  have SS20 := hid S20
  clear D20 S20
  go_wp2_with fail
  refine (all_any 5 w20).mono ?_
  rintro e w21 ⟨g21, rfl, hb21, hg21, B21⟩
  have LA := lay_any (O20.out.below B21).drum 4 (some ⟨g21, 0, none⟩) 96 96 (rep (IntKind.u8.wrap 5)) (row_blk hb21) (rep_length _) rep_bytes (fun h => by cases h) (fun _ hm => by have := O20.out.drum.ml g21 hm; omega) (by decide)
  rw [V.out.2.2.2.2, kD_code] at LA
  have O21 := hid (O20.out.below B21)
  clear hb21
  go_wp2_with fail
  refine LA.mono ?_
  rintro e w22 ⟨rfl, M22, D22, S22⟩
  have O22 : Hid (One w w22 M22 d kE) := hid (O21.out.step D22 S22)
  have SS22 := hid (SS20.out.trans ((Step.of_below B21).trans S22))
  have ST := settle_any O22.out.drum
  rw [kE_code] at ST
  clear LA D22 S22
  go_wp2_with fail
  refine ST.mono ?_
  rintro e w23 ⟨rfl, M23, D23, S23⟩
  have O23 : Hid (One w w23 M23 d kF) := hid (O22.out.step D23 S23)
  have SS23 := hid (SS22.out.trans S23)
  clear ST D23 S23
  go_wp2_with fail
  have LK : Calls Try.prog 15 #[.pointer (some ⟨d, 0, none⟩), .int .i64 4] w23 fun e w' => e = .returned (.tuple #[.slice none 0 0, .int .i64 4]) ∧ Below w23.heap.size w23 w' := by
    refine (look_any O23.out.drum 4).mono ?_
    rintro e w' ⟨h | h | h, hB⟩
    · exact absurd (by decide) h.1
    · exact ⟨h.2.2.2, hB⟩
    · exact absurd (kF_broken.symm.trans h.2.2.1) (by decide)
  refine LK.mono ?_
  rintro e w24 ⟨rfl, B24⟩
  have O24 := hid (O23.out.below B24)
  clear LK
  go_wp2_with fail
  have LK : Calls Try.prog 15 #[.pointer (some ⟨d, 0, none⟩), .int .i64 (-1)] w24 fun e w' => e = .returned (.tuple #[.slice none 0 0, .int .i64 1]) ∧ Below w24.heap.size w24 w' := by
    refine (look_any O24.out.drum (-1)).mono ?_
    rintro e w' ⟨h | h | h, hB⟩
    · exact ⟨h.2, hB⟩
    · exact absurd h.1 (by decide)
    · exact absurd h.1 (by decide)
  refine LK.mono ?_
  rintro e w25 ⟨rfl, B25⟩
  have O25 := hid (O24.out.below B25)
  have KB := broken_any O25.out.drum
  rw [kF_broken] at KB
  clear LK
  go_wp2_with fail
  refine KB.mono ?_
  rintro e w26 ⟨rfl, rfl⟩
  clear KB
  go_wp2_with fail
  refine (fall_any O25.out.drum none 0 0 [] 0 1000 (IntsAt.none _) (fun h => by omega)).mono ?_
  rintro e w27 ⟨rfl, M27, D27, S27⟩
  have O27 : Hid (One w w27 M27 d kG) := hid (O25.out.step D27 S27)
  have SS27 := hid (SS23.out.trans ((Step.of_below B24).trans ((Step.of_below B25).trans S27)))
  clear D27 S27
  go_wp2_with fail
  refine (looku_any O27.out.drum DS.Up.kG 4 (by decide)).mono ?_
  rintro e w28 ⟨a28, c28, rfl, ho28, hl28, hy28, B28⟩
  obtain ⟨g28, c28', e28, -⟩ := owns_some ho28 (by omega)
  cases e28
  have O28 := hid (O27.out.below B28)
  have y5 : w28.cell? ⟨g28, 95, none⟩ = some (.int .u8 5) := (ho28.cellAt 95 (by omega)).trans (by rw [B8, List.getElem?_map, kG_four]; rfl)
  -- what was looked at ahead is still there
  have E19 : Ext M17.M w19 w28 := ((SS27.out.trans (Step.of_below B28)).ext)
  have y1 := E19.cell N18.out (Below.cellAt B19 L18.2 X18.out.1)
  have y2 := E19.cell N18.out (Below.cellAt B19 L18.2 X18.out.2.1)
  have y3 := E19.cell N18.out (Below.cellAt B19 L18.2 X18.out.2.2)
  have y4 := E19.cell N19.out X19.out
  have RU28 := hid (((RU17.out.below B18 (Nat.le_refl _)).below B19 (Nat.le_refl _)).ext E19 (fun _ hm => NM17.out hm))
  have BAL : Below w28.heap.size w28 (w28.alloc (.cells #[.int .i64 2, .int .i64 3, .int .i64 2] 3)) := (Below.refl _ _).alloc (Nat.le_refl _) _
  have SI := sameInts_any (some ⟨gu, 0, none⟩) 3 cu [2, 3, 2] (some ⟨w28.heap.size, 0, none⟩) 3 3 [2, 3, 2] (w28.alloc (.cells #[.int .i64 2, .int .i64 3, .int .i64 2] 3)) (RU28.out.below BAL (Nat.le_refl _)) (row_new w28 _ _) rfl rfl (by omega)
  have l18 : g18 < w28.heap.size := lt_of_cell y1
  have l19 : g19 < w28.heap.size := lt_of_cell y4
  have l28 : g28 < w28.heap.size := lt_of_cell y5
  clear ho28 hl28 hy28
  go_wp2_with fail
  refine SI.mono ?_
  rintro e w29 ⟨r, he, hr, B29⟩
  obtain rfl : r = true := by simpa using hr
  subst he
  have B28' : Below w28.heap.size w28 w29 := BAL.trans (B29.mono BAL.size)
  have z1 := Below.cellAt B28' l18 y1
  have z2 := Below.cellAt B28' l18 y2
  have z3 := Below.cellAt B28' l18 y3
  have z4 := Below.cellAt B28' l19 y4
  have z5 := Below.cellAt B28' l28 y5
  have O29 := hid (O28.out.below B28')
  have KB := broken_any O29.out.drum
  rw [DS.Up.kG.broken] at KB
  have KT := turns_any O29.out.drum
  rw [kG_turns] at KT
  have KN := tracks_any O29.out.drum
  rw [kG_n] at KN
  have ST := settle_any O29.out.drum
  rw [DS.Up.kG.settle, DS.Up.kG.code] at ST
  clear y1 y2 y3 y4 y5 hr SI
  go_wp2_with fail
  refine KB.mono ?_
  rintro e w30 ⟨rfl, rfl⟩
  go_wp2_with fail
  refine KT.mono ?_
  rintro e w30 ⟨rfl, rfl⟩
  go_wp2_with fail
  refine KN.mono ?_
  rintro e w30 ⟨rfl, rfl⟩
  go_wp2_with fail
  refine ST.mono ?_
  rintro e w30 ⟨rfl, M30, D30, S30⟩
  go_wp2_with fail
  go_ret
  exact ⟨rfl, (O29.out.step D30 S30).bel⟩

end Go.Proofs.Ytfijglkealnopaa
