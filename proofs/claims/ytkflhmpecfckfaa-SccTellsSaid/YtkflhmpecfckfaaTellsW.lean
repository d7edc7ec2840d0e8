/- SccTells: the walk -/
import Derived.Test.YtkflhmpecfckfaaGoodR
import Derived.Test.YtkflhmpecfckfaaGoodLn
import Derived.Test.YtkflhmpecfckfaaGoodP0
import Derived.Test.YtkflhmpecfckfaaGoodG
import Derived.Test.YtkflhmpecfckfaaRowsArg
open Go Go.RowKit
namespace Go.Proofs.Ytkflhmpecfckfaa
open Tj

theorem tabB_succ (n : Nat) (f : Nat → Bool) : tabB (n + 1) f = tabB n f ++ [.bool (f n)] := by simp [tabB, List.range_succ]
theorem bools_owns {w : World} {B n : Nat} {v : Value} {f : Nat → Bool} (h : w.ownsRow B 4 1 v n (tabB n f)) : ∃ a c, v = .slice a n c ∧ BoolsAt w a n f := by
  obtain ⟨a, c, rfl, h3, h4, h5, h6, _, h7⟩ := row_of_owns h
  refine ⟨a, c, rfl, fun h0 => h6.nn (by rw [tabB_length]; exact h0), fun i hi => h6.cell i _ ?_, by omega⟩
  simp [tabB, hi]
set_option maxRecDepth 100000 in
theorem goodRLen_any (ea : Option Addr) (n ec : Nat) (a : Option Addr) (m c : Nat) (first : Int) (h : n ≠ m) (w : World) : Calls Try.prog 13 #[.slice ea n ec, .slice a m c, .int .i64 first] w fun e w' => e = .returned (.slice none 0 0) ∧ w = w' := by
  have hne : ((m : Int) == (n : Int)) = false := by simp; omega
  go_enter Try.func13, Try.ntmps13
  go_wp2_with fail
  go_ret
  exact ⟨rfl, rfl⟩
theorem wrap_small {x : Int} (h1 : -1000 ≤ x) (h2 : x ≤ 1000000000) : wrap64 x = x := by unfold wrap64; omega
theorem good_eq {n m : Nat} {E : Nat → List Nat} {p p' : Nat → Nat} {rs b b' f f' o : Nat → Bool} {zs : List Int} (hz : zs.Pairwise (· < ·)) (hzs : ∀ x, x ∈ zs ↔ x ∈ goodL p b rs f n) (hp : IsPart n E p) (hp' : IsPart n E p') (hb : ∀ i, i < n → (b i = true ↔ Lds E i i)) (hb' : ∀ i, i < n → (b' i = true ↔ Lds E i i))
    (hf : ∀ v, f v = true ↔ ∃ j, j < m ∧ Rch E j v) (hf' : ∀ v, f' v = true ↔ ∃ j, j < m ∧ Rch E j v) (ho : OutP p' (fun k => f' k && rs k && b' k) n o) : zs = outL o n := by
  refine asc_ext hz (outL_asc o n) fun x => ?_
  rw [hzs, mem_goodL, mem_outL]
  constructor
  · rintro ⟨k, h1, h2, h3, h4, rfl⟩
    have e := hp.unique hp' k h1
    have hk : p' k ≤ k := part_le hp' h1
    refine ⟨p k, rfl, by omega, (ho.iff _).2 ⟨k, h1, ?_, e.symm⟩⟩
    rw [(hf' k).2 ((hf k).1 h4), h3, (hb' k h1).2 ((hb k h1).1 h2)]
    rfl
  · rintro ⟨v, rfl, h1, h2⟩
    obtain ⟨k, h3, h4, h5⟩ := (ho.iff v).1 h2
    simp only [Bool.and_eq_true] at h4
    refine ⟨k, h3, (hb k h3).2 ((hb' k h3).1 h4.2), h4.1.2, (hf k).2 ((hf' k).1 h4.1.1), ?_⟩
    rw [hp.unique hp' k h3, h5]

set_option maxRecDepth 100000 in
set_option maxHeartbeats 16000000 in
theorem sccTells_walk (a : Option Addr) (len cap : Nat) (ra : Option Addr) (lr rc : Nat) (bR : Nat → Bool) (first : Int) (sh : Bool) (w : World) (h : RowsIn w a len) (hlen : len ≤ maxLen)
    (hR : BoolsAt w ra lr bR) (hf : -9223372036854775808 ≤ first ∧ first ≤ 9223372036854775807) :
    Calls Try.prog 3 #[.slice a len cap, .slice ra lr rc, .int .i64 first, .bool sh] w fun e w' => e = .returned (.bool true) ∧ Below w.heap.size w w' := by
  obtain ⟨i0, hi, hz0, hz1, hz2⟩ := info_parts iB
  have szb : (Try.prog.info? 4).map (·.size) = some 1 := by kernel_rfl
  have hixr := fun k (hk : k < lr) => idx_at1 (P := Try.prog) (T := 23) Try.underlying23 szb (cap := rc) hR.nn hk
  clear szb
  have hlb : len ≤ 9223372036854775807 := by simp only [maxLen] at hlen; omega
  have hlr := hR.len
  simp only [maxLen] at hlr
  clear hlen
  go_enter Try.func3, Try.ntmps3
  go_wp2_with fail
  refine (known20_any w).mono ?_
  rintro e w1 ⟨rfl, B1⟩
  have R1 := h.below B1 (Nat.le_refl _)
  go_wp2_with fail
  refine (edges_any a len cap 30 w1 R1 (by omega) hlb).mono ?_
  rintro e w2 ⟨ea, n, ec, LL, rfl, hLL, hn, ED, H4, B2⟩
  have hL4 : ∀ v, v < n → (LL[v]?.getD []).length ≤ 4 := fun v hv => by rw [List.getElem?_eq_getElem (by omega)]; exact H4 _ (List.getElem_mem _)
  obtain ⟨L, hL⟩ : ∃ L : Nat → List Int, (fun v => LL[v]?.getD []) = L := ⟨_, rfl⟩
  have hL4' : ∀ v, v < n → (L v).length ≤ 4 := by rw [← hL]; exact hL4
  rw [hL] at ED
  have HL4 := hid hL4'
  have s1 : w.heap.size ≤ w1.heap.size := B1.size
  have s2 : w1.heap.size ≤ w2.heap.size := B2.size
  have B02 : Below w.heap.size w w2 := B1.trans (B2.mono (by omega))
  have R2 := hid (hR.below B02 (Nat.le_refl _))
  have B02h := hid B02
  have HED := hid (fun W (hW : Below w2.heap.size w2 W) => ED.below hW (Nat.le_refl _))
  clear hL hLL H4 hR h R1 B1 B2 hL4 hL4' ED
  obtain ⟨ps, hps⟩ : ∃ ps : Nat → Bool, ps = fun k => decide (k < lr) && bR k := ⟨_, rfl⟩
  have PS := hid (fun k => congrFun hps k)
  clear hps
  go_wp2_with fail
  go_loopw [10, 21] (fun vp' v wr => ∃ (k : Nat) (vp : Value), vp = vp' ∧ v = .int .i64 k ∧ k ≤ n ∧ Hid (wr.ownsRow w2.heap.size 4 1 vp k (tabB k ps)) ∧ Below w2.heap.size w2 wr) (fun _ v _ => n - (intOf v).toNat)
  case atStart => exact ⟨0, _, rfl, rfl, Nat.zero_le _, hid (World.ownsRow_nil _ _ _ _), Below.refl _ _⟩
  case round =>
    obtain ⟨k, vp, rfl, rfl, hk, OP, B⟩ := hrel
    by_cases hkn : k < n
    · have hsz : w2.heap.size ≤ wr.heap.size := B.size
      have h8 : (k + 1) * 8 ≤ 140737488355328 := by omega
      have hP := PS.out k
      have OPo := OP.out
      obtain ⟨KS, hKS⟩ : ∃ x, tabB k ps = x := ⟨_, rfl⟩
      rw [hKS] at OPo
      have HKS := hid hKS
      have SU := hid (tabB_succ k ps)
      clear hKS OP
      by_cases hkr : k < lr
      · have hixrk := hixr k hkr
        have cr := (R2.out.below B (Nat.le_refl _)).cell k hkr
        cases br : bR k with
        | true =>
          rw [br] at cr
          have EP := hid (show ps k = true by rw [hP]; simp [hkr, br])
          clear hP br
          have hbs1 : w2.heap.size ≤ (wr.alloc (.cells #[.bool true] 4)).heap.size := by simp; omega
          go_wp2_with (at_builtin; refine wpList_append_row rfl _ _ 23 rfl w2.heap.size 4 i0 (.bool false) Try.underlying23 hi hz0 hz1 (by omega) rfl vp k KS rfl (OPo.alloc _) (some ⟨wr.heap.size, 0, none⟩) 1 1 [.bool true] rfl (row_new _ _ _) rfl (fun h => by cases h) (fun u hu => by simp at hu; subst hu; rfl) ?ya1 ?yb1 ?_)
          try case ya1 => exact h8
          try case yb1 => first | exact hbs1 | (clear hbs1 OPo; omega)
          · intro v' w4 o4 B4 _
            have o4 := hid o4
            go_wp2_with fail
            go_roundw
            case measure => simp [intOf] <;> omega
            case rel =>
              refine ⟨k + 1, v', rfl, by go_num, by omega, hid ?_, (B.alloc B.size _).trans B4⟩
              have o4 := o4.out
              rw [← HKS.out] at o4
              rw [SU.out, EP.out]
              exact o4
        | false =>
          rw [br] at cr
          have EP := hid (show ps k = false by rw [hP]; simp [br])
          clear hP br
          have hbs1 : w2.heap.size ≤ (wr.alloc (.cells #[.bool false] 4)).heap.size := by simp; omega
          go_wp2_with (at_builtin; refine wpList_append_row rfl _ _ 23 rfl w2.heap.size 4 i0 (.bool false) Try.underlying23 hi hz0 hz1 (by omega) rfl vp k KS rfl (OPo.alloc _) (some ⟨wr.heap.size, 0, none⟩) 1 1 [.bool false] rfl (row_new _ _ _) rfl (fun h => by cases h) (fun u hu => by simp at hu; subst hu; rfl) ?ya2 ?yb2 ?_)
          try case ya2 => exact h8
          try case yb2 => first | exact hbs1 | (clear hbs1 OPo; omega)
          · intro v' w4 o4 B4 _
            have o4 := hid o4
            go_wp2_with fail
            go_roundw
            case measure => simp [intOf] <;> omega
            case rel =>
              refine ⟨k + 1, v', rfl, by go_num, by omega, hid ?_, (B.alloc B.size _).trans B4⟩
              have o4 := o4.out
              rw [← HKS.out] at o4
              rw [SU.out, EP.out]
              exact o4
      · have hkr2 : ¬ ((k : Int) < (lr : Int)) := by omega
        have EP := hid (show ps k = false by rw [hP]; simp [hkr])
        clear hP
        have hbs1 : w2.heap.size ≤ (wr.alloc (.cells #[.bool false] 4)).heap.size := by simp; omega
        go_wp2_with (at_builtin; refine wpList_append_row rfl _ _ 23 rfl w2.heap.size 4 i0 (.bool false) Try.underlying23 hi hz0 hz1 (by omega) rfl vp k KS rfl (OPo.alloc _) (some ⟨wr.heap.size, 0, none⟩) 1 1 [.bool false] rfl (row_new _ _ _) rfl (fun h => by cases h) (fun u hu => by simp at hu; subst hu; rfl) ?ya3 ?yb3 ?_)
        try case ya3 => exact h8
        try case yb3 => first | exact hbs1 | (clear hbs1 OPo; omega)
        · intro v' w4 o4 B4 _
          have o4 := hid o4
          go_wp2_with fail
          go_roundw
          case measure => simp [intOf] <;> omega
          case rel =>
            refine ⟨k + 1, v', rfl, by go_num, by omega, hid ?_, (B.alloc B.size _).trans B4⟩
            have o4 := o4.out
            rw [← HKS.out] at o4
            rw [SU.out, EP.out]
            exact o4
    · obtain rfl : n = k := by omega
      obtain ⟨rb, rbc, rfl, BO⟩ := bools_owns OP.out
      have OPh := hid OP.out
      have BOh := hid BO
      clear BO
      have BO := BOh
      clear BOh
      have hkk := hkn
      have hsz : w2.heap.size ≤ wr.heap.size := B.size
      have BWr := B02.trans (B.mono B02.size)
      have hd3 : (0 : Int) < (n : Int) + 3 := by omega
      have hd4 : (n : Int) + 3 ≤ 1000000000 := by omega
      have PK := pick_any first ((n : Int) + 3) wr hf hd3 hd4
      have hfb : 0 ≤ first % ((n : Int) + 3) ∧ first % ((n : Int) + 3) < (n : Int) + 3 := ⟨Int.emod_nonneg _ (Int.ne_of_gt hd3), Int.emod_lt_of_pos _ hd3⟩
      obtain ⟨fq, hfq⟩ : ∃ fq, first % ((n : Int) + 3) = fq := ⟨_, rfl⟩
      rw [hfq] at hfb PK
      clear hfq
      have hx1 : -1000 ≤ fq - 1 := by clear PK; obtain ⟨u1, u2⟩ := hfb; omega
      have hx2 : fq - 1 ≤ 1000000000 := by clear PK; obtain ⟨u1, u2⟩ := hfb; omega
      obtain ⟨q, hq⟩ : ∃ q, min (fq - 1) (n : Int) = q := ⟨_, rfl⟩
      obtain ⟨m, hm, hmn⟩ : ∃ m : Nat, max 0 q = (m : Int) ∧ m ≤ n := by
        have hq2 : q ≤ (n : Int) := by rw [← hq]; exact Int.min_le_right _ _
        clear hq PK
        exact ⟨(max 0 q).toNat, by omega, by omega⟩
      have HW34 := hid (And.intro (wrap_small (x := (n : Int) + 3) (by omega) (by omega)) (wrap_small hx1 hx2))
      have HQ := hid hq
      have HM := hid hm
      have EDr := hid (HED.out wr B)
      clear OP hq hm B02 R2
      by_cases hcase : sh = true ∧ 0 < n
      · obtain ⟨rfl, hn0⟩ := hcase
        obtain ⟨g, c, hv, hgc⟩ := owns_some OPh.out hn0
        cases hv
        have hn1 : (0 : Int) < (n : Int) := by omega
        have hn2 : (1 : Int) ≤ (n : Int) := by omega
        have hn3 : 1 ≤ n := hn0
        have hn4 : n ≤ rbc := hgc
        have hn5 : n - 1 ≤ rbc - 1 := by omega
        have hdl : n ≠ n - 1 := by omega
        have hdl0 := hid hdl; clear hdl; have hdl := hdl0; clear hdl0
        clear OPh BO
        clear hixr hf hi hz0 hz1 hz2 hlb hlr s1 s2 hk hkn hkk hd3 hd4 hfb hx1 hx2
        obtain ⟨hw3, hw4⟩ := HW34.out
        by_cases hrb : rbc = 1
        · go_wp2_with fail
          clear hw3
          refine PK.mono ?_
          rintro e w5 ⟨rfl, rfl⟩
          clear PK
          go_wp2_with fail
          clear hw4
          have BK := back_any ea n ec L wr EDr.out (by omega)
          refine BK.mono ?_
          rintro e w6 ⟨gb, o, rfl, hb, HO, hgb, B6⟩
          have B26 := B.trans (B6.mono hsz)
          have HO := hid HO
          have hb := hid hb
          clear BK
          have BR := backR_any ea n ec L w6 (HED.out w6 B26) HL4.out hn
          go_wp2_with fail
          refine BR.mono ?_
          rintro e w7 ⟨gb2, o2, rfl, hb2, HO2, hgb2, B7⟩
          have B27 := B26.trans (B7.mono B26.size)
          have HO2 := hid HO2
          have hb7 := (B7.block gb (lt_of_blk hb.out)).trans hb.out
          have l1 := lt_of_blk hb7
          have l2 := lt_of_blk hb2
          have hb7 := hid hb7
          have hb2 := hid hb2
          clear BR hb B26
          have W7s := B27.size
          go_wp2_with fail
          go_loopw [63] (fun v wx => ∃ (i : Nat), v = .int .i64 i ∧ i ≤ n ∧ Below w7.heap.size w7 wx) (fun v _ => n - (intOf v).toNat)
          case atStart => exact ⟨0, rfl, Nat.zero_le _, Below.refl _ _⟩
          case round =>
            obtain ⟨i, rfl, hi5, B8⟩ := hrel
            by_cases hin : i < n
            · have i1 : (0 : Int) ≤ (i : Int) := by omega
              have i2 : (i : Int) < (n : Int) := by omega
              have c1 := blk_cell ((B8.block gb l1).trans hb7.out) (tabB_get hin)
              have c2 := blk_cell ((B8.block gb2 l2).trans hb2.out) (tabB_get hin)
              have eo : o2 i = o i := Bool.eq_iff_iff.2 ((HO2.out i hin).trans (HO.out i hin).symm)
              rw [eo] at c2
              obtain ⟨β, hβ⟩ : ∃ β, o i = β := ⟨_, rfl⟩
              rw [hβ] at c1 c2
              have hbb : (β != β) = false := by simp
              have S0 : wr.drew.cell? ⟨gb, i, none⟩ = some (.bool β) ∧ wr.drew.cell? ⟨gb2, i, none⟩ = some (.bool β) := ⟨c1, c2⟩
              clear eo hβ
              go_wp2_with fail
              go_region_held3 (fun w' => w'.cell? ⟨gb, i, none⟩ = some (.bool β) ∧ w'.cell? ⟨gb2, i, none⟩ = some (.bool β)) (first | exact S0 | assumption) (fail)
              go_wp2_with fail
              go_roundw
              case measure => simp [intOf] <;> omega
              case rel => exact ⟨i + 1, by go_num, by omega, B8.drew⟩
            · obtain rfl : n = i := by omega
              have B28 := B27.trans (B8.mono W7s)
              have KN := known20_any wr
              clear hb7 hb2 HO HO2
              go_wp2_with fail
              refine KN.mono ?_
              rintro e w8 ⟨rfl, B9⟩
              have B29 := B28.trans (B9.mono B28.size)
              have PA := parts_any ea n ec L w8 (HED.out w8 B29) (by omega)
              clear KN
              go_wp2_with fail
              refine PA.mono ?_
              rintro e w9 ⟨gp, p, rfl, hp, IP, hgp, B10⟩
              have B210 := B29.trans (B10.mono B29.size)
              have hp := hid hp
              have IP := hid IP
              have PB := partsR_any ea n ec L w9 (HED.out w9 B210) HL4.out hn
              clear PA
              go_wp2_with fail
              refine PB.mono ?_
              rintro e w10 ⟨gp2, p2, rfl, hp2, IP2, hgp2, B11⟩
              have B211 := B210.trans (B11.mono B210.size)
              have hpe : (List.range n).map (fun v => (p2 v : Int)) = (List.range n).map (fun v => (p v : Int)) := List.map_congr_left fun v hv => by rw [IP.out.unique IP2 v (List.mem_range.1 hv)]
              have row1 := tab_row ((B11.block gp (lt_of_blk hp.out)).trans hp.out)
              have row2 := tab_row hp2
              rw [hpe] at row2
              have SI := sameInts_any (some ⟨gp, 0, none⟩) n n _ (some ⟨gp2, 0, none⟩) n n _ w10 row1 row2 (by simp) (by simp) (by omega)
              have HSI := hid SI
              clear PB hp2 IP2 hpe row1 row2 SI
              go_wp2_with fail
              refine HSI.out.mono ?_
              rintro e w11 ⟨r11, rfl, hr11, B12⟩
              obtain rfl : r11 = true := hr11.2 (by first | exact rfl | trivial)
              have B212 := B211.trans (B12.mono B211.size)
              clear HSI hr11
              have GA := fun a9 c9 => goodLen_any ea n ec a9 (n - 1) c9 (fq - 1) hdl.out w11
              rw [← HW34.out.2] at GA
              go_wp2_with fail
              refine (GA _ _).mono ?_
              rintro e w12 ⟨rfl, rfl⟩
              have GB := fun a9 c9 => goodRLen_any ea n ec a9 (n - 1) c9 (fq - 1) hdl.out w11
              clear GA
              rw [← HW34.out.2] at GB
              go_wp2_with fail
              refine (GB _ _).mono ?_
              rintro e w13 ⟨rfl, rfl⟩
              have SI := sameInts_any none 0 0 [] none 0 0 [] w11 (Row.nil _ _) (Row.nil _ _) rfl rfl (by omega)
              clear GB
              go_wp2_with fail
              refine SI.mono ?_
              rintro e w14 ⟨r14, rfl, hr14, B15⟩
              obtain rfl : r14 = true := hr14.2 (by first | exact rfl | trivial)
              go_wp2_with fail
              go_ret
              have B215 := B212.trans (B15.mono B212.size)
              exact ⟨rfl, B02h.out.trans (B215.mono B02h.out.size)⟩
        · go_wp2_with fail
          clear hw3
          refine PK.mono ?_
          rintro e w5 ⟨rfl, rfl⟩
          clear PK
          go_wp2_with fail
          clear hw4
          have BK := back_any ea n ec L wr EDr.out (by omega)
          refine BK.mono ?_
          rintro e w6 ⟨gb, o, rfl, hb, HO, hgb, B6⟩
          have B26 := B.trans (B6.mono hsz)
          have HO := hid HO
          have hb := hid hb
          clear BK
          have BR := backR_any ea n ec L w6 (HED.out w6 B26) HL4.out hn
          go_wp2_with fail
          refine BR.mono ?_
          rintro e w7 ⟨gb2, o2, rfl, hb2, HO2, hgb2, B7⟩
          have B27 := B26.trans (B7.mono B26.size)
          have HO2 := hid HO2
          have hb7 := (B7.block gb (lt_of_blk hb.out)).trans hb.out
          have l1 := lt_of_blk hb7
          have l2 := lt_of_blk hb2
          have hb7 := hid hb7
          have hb2 := hid hb2
          clear BR hb B26
          have W7s := B27.size
          go_wp2_with fail
          go_loopw [63] (fun v wx => ∃ (i : Nat), v = .int .i64 i ∧ i ≤ n ∧ Below w7.heap.size w7 wx) (fun v _ => n - (intOf v).toNat)
          case atStart => exact ⟨0, rfl, Nat.zero_le _, Below.refl _ _⟩
          case round =>
            obtain ⟨i, rfl, hi5, B8⟩ := hrel
            by_cases hin : i < n
            · have i1 : (0 : Int) ≤ (i : Int) := by omega
              have i2 : (i : Int) < (n : Int) := by omega
              have c1 := blk_cell ((B8.block gb l1).trans hb7.out) (tabB_get hin)
              have c2 := blk_cell ((B8.block gb2 l2).trans hb2.out) (tabB_get hin)
              have eo : o2 i = o i := Bool.eq_iff_iff.2 ((HO2.out i hin).trans (HO.out i hin).symm)
              rw [eo] at c2
              obtain ⟨β, hβ⟩ : ∃ β, o i = β := ⟨_, rfl⟩
              rw [hβ] at c1 c2
              have hbb : (β != β) = false := by simp
              have S0 : wr.drew.cell? ⟨gb, i, none⟩ = some (.bool β) ∧ wr.drew.cell? ⟨gb2, i, none⟩ = some (.bool β) := ⟨c1, c2⟩
              clear eo hβ
              go_wp2_with fail
              go_region_held3 (fun w' => w'.cell? ⟨gb, i, none⟩ = some (.bool β) ∧ w'.cell? ⟨gb2, i, none⟩ = some (.bool β)) (first | exact S0 | assumption) (fail)
              go_wp2_with fail
              go_roundw
              case measure => simp [intOf] <;> omega
              case rel => exact ⟨i + 1, by go_num, by omega, B8.drew⟩
            · obtain rfl : n = i := by omega
              have B28 := B27.trans (B8.mono W7s)
              have KN := known20_any wr
              clear hb7 hb2 HO HO2
              go_wp2_with fail
              refine KN.mono ?_
              rintro e w8 ⟨rfl, B9⟩
              have B29 := B28.trans (B9.mono B28.size)
              have PA := parts_any ea n ec L w8 (HED.out w8 B29) (by omega)
              clear KN
              go_wp2_with fail
              refine PA.mono ?_
              rintro e w9 ⟨gp, p, rfl, hp, IP, hgp, B10⟩
              have B210 := B29.trans (B10.mono B29.size)
              have hp := hid hp
              have IP := hid IP
              have PB := partsR_any ea n ec L w9 (HED.out w9 B210) HL4.out hn
              clear PA
              go_wp2_with fail
              refine PB.mono ?_
              rintro e w10 ⟨gp2, p2, rfl, hp2, IP2, hgp2, B11⟩
              have B211 := B210.trans (B11.mono B210.size)
              have hpe : (List.range n).map (fun v => (p2 v : Int)) = (List.range n).map (fun v => (p v : Int)) := List.map_congr_left fun v hv => by rw [IP.out.unique IP2 v (List.mem_range.1 hv)]
              have row1 := tab_row ((B11.block gp (lt_of_blk hp.out)).trans hp.out)
              have row2 := tab_row hp2
              rw [hpe] at row2
              have SI := sameInts_any (some ⟨gp, 0, none⟩) n n _ (some ⟨gp2, 0, none⟩) n n _ w10 row1 row2 (by simp) (by simp) (by omega)
              have HSI := hid SI
              clear PB hp2 IP2 hpe row1 row2 SI
              go_wp2_with fail
              refine HSI.out.mono ?_
              rintro e w11 ⟨r11, rfl, hr11, B12⟩
              obtain rfl : r11 = true := hr11.2 (by first | exact rfl | trivial)
              have B212 := B211.trans (B12.mono B211.size)
              clear HSI hr11
              have GA := fun a9 c9 => goodLen_any ea n ec a9 (n - 1) c9 (fq - 1) hdl.out w11
              rw [← HW34.out.2] at GA
              go_wp2_with fail
              refine (GA _ _).mono ?_
              rintro e w12 ⟨rfl, rfl⟩
              have GB := fun a9 c9 => goodRLen_any ea n ec a9 (n - 1) c9 (fq - 1) hdl.out w11
              clear GA
              rw [← HW34.out.2] at GB
              go_wp2_with fail
              refine (GB _ _).mono ?_
              rintro e w13 ⟨rfl, rfl⟩
              have SI := sameInts_any none 0 0 [] none 0 0 [] w11 (Row.nil _ _) (Row.nil _ _) rfl rfl (by omega)
              clear GB
              go_wp2_with fail
              refine SI.mono ?_
              rintro e w14 ⟨r14, rfl, hr14, B15⟩
              obtain rfl : r14 = true := hr14.2 (by first | exact rfl | trivial)
              go_wp2_with fail
              go_ret
              have B215 := B212.trans (B15.mono B212.size)
              exact ⟨rfl, B02h.out.trans (B215.mono B02h.out.size)⟩
      · have hshort : sh = false ∨ n = 0 := by
          cases sh with
          | false => exact .inl rfl
          | true => exact .inr (by by_cases e : n = 0; exact e; exact absurd ⟨rfl, by omega⟩ hcase)
        clear hcase OPh
        cases sh with
        | false =>
          clear hshort
          clear hixr hf hi hz0 hz1 hz2 hlb hlr s1 s2 hk hkn hkk hd3 hd4 hfb hx1 hx2
          obtain ⟨hw3, hw4⟩ := HW34.out
          go_wp2_with fail
          clear hw3
          refine PK.mono ?_
          rintro e w5 ⟨rfl, rfl⟩
          clear PK
          go_wp2_with fail
          clear hw4
          have BK := back_any ea n ec L wr EDr.out (by omega)
          refine BK.mono ?_
          rintro e w6 ⟨gb, o, rfl, hb, HO, hgb, B6⟩
          have B26 := B.trans (B6.mono hsz)
          have HO := hid HO
          have hb := hid hb
          clear BK
          have BR := backR_any ea n ec L w6 (HED.out w6 B26) HL4.out hn
          go_wp2_with fail
          refine BR.mono ?_
          rintro e w7 ⟨gb2, o2, rfl, hb2, HO2, hgb2, B7⟩
          have B27 := B26.trans (B7.mono B26.size)
          have HO2 := hid HO2
          have hb7 := (B7.block gb (lt_of_blk hb.out)).trans hb.out
          have l1 := lt_of_blk hb7
          have l2 := lt_of_blk hb2
          have hb7 := hid hb7
          have hb2 := hid hb2
          clear BR hb B26
          have W7s := B27.size
          go_wp2_with fail
          go_loopw [63] (fun v wx => ∃ (i : Nat), v = .int .i64 i ∧ i ≤ n ∧ Below w7.heap.size w7 wx) (fun v _ => n - (intOf v).toNat)
          case atStart => exact ⟨0, rfl, Nat.zero_le _, Below.refl _ _⟩
          case round =>
            obtain ⟨i, rfl, hi5, B8⟩ := hrel
            by_cases hin : i < n
            · have i1 : (0 : Int) ≤ (i : Int) := by omega
              have i2 : (i : Int) < (n : Int) := by omega
              have c1 := blk_cell ((B8.block gb l1).trans hb7.out) (tabB_get hin)
              have c2 := blk_cell ((B8.block gb2 l2).trans hb2.out) (tabB_get hin)
              have eo : o2 i = o i := Bool.eq_iff_iff.2 ((HO2.out i hin).trans (HO.out i hin).symm)
              rw [eo] at c2
              obtain ⟨β, hβ⟩ : ∃ β, o i = β := ⟨_, rfl⟩
              rw [hβ] at c1 c2
              have hbb : (β != β) = false := by simp
              have S0 : wr.drew.cell? ⟨gb, i, none⟩ = some (.bool β) ∧ wr.drew.cell? ⟨gb2, i, none⟩ = some (.bool β) := ⟨c1, c2⟩
              clear eo hβ
              go_wp2_with fail
              go_region_held3 (fun w' => w'.cell? ⟨gb, i, none⟩ = some (.bool β) ∧ w'.cell? ⟨gb2, i, none⟩ = some (.bool β)) (first | exact S0 | assumption) (fail)
              go_wp2_with fail
              go_roundw
              case measure => simp [intOf] <;> omega
              case rel => exact ⟨i + 1, by go_num, by omega, B8.drew⟩
            · obtain rfl : n = i := by omega
              have B28 := B27.trans (B8.mono W7s)
              have KN := known20_any wr
              clear hb7 hb2 HO HO2
              go_wp2_with fail
              refine KN.mono ?_
              rintro e w8 ⟨rfl, B9⟩
              have B29 := B28.trans (B9.mono B28.size)
              have PA := parts_any ea n ec L w8 (HED.out w8 B29) (by omega)
              clear KN
              go_wp2_with fail
              refine PA.mono ?_
              rintro e w9 ⟨gp, p, rfl, hp, IP, hgp, B10⟩
              have B210 := B29.trans (B10.mono B29.size)
              have hp := hid hp
              have IP := hid IP
              have PB := partsR_any ea n ec L w9 (HED.out w9 B210) HL4.out hn
              clear PA
              go_wp2_with fail
              refine PB.mono ?_
              rintro e w10 ⟨gp2, p2, rfl, hp2, IP2, hgp2, B11⟩
              have B211 := B210.trans (B11.mono B210.size)
              have hpe : (List.range n).map (fun v => (p2 v : Int)) = (List.range n).map (fun v => (p v : Int)) := List.map_congr_left fun v hv => by rw [IP.out.unique IP2 v (List.mem_range.1 hv)]
              have row1 := tab_row ((B11.block gp (lt_of_blk hp.out)).trans hp.out)
              have row2 := tab_row hp2
              rw [hpe] at row2
              have SI := sameInts_any (some ⟨gp, 0, none⟩) n n _ (some ⟨gp2, 0, none⟩) n n _ w10 row1 row2 (by simp) (by simp) (by omega)
              have HSI := hid SI
              clear PB hp2 IP2 hpe row1 row2 SI
              go_wp2_with fail
              refine HSI.out.mono ?_
              rintro e w11 ⟨r11, rfl, hr11, B12⟩
              obtain rfl : r11 = true := hr11.2 (by first | exact rfl | trivial)
              have B212 := B211.trans (B12.mono B211.size)
              clear HSI hr11
              have X7 := B6.trans (B7.mono B6.size)
              have X8 := X7.trans (B8.mono X7.size)
              have X9 := X8.trans (B9.mono X8.size)
              have X10 := X9.trans (B10.mono X9.size)
              have X11 := X10.trans (B11.mono X10.size)
              have X12 := X11.trans (B12.mono X11.size)
              have BO11 := BO.out.below X12 (Nat.le_refl _)
              clear X7 X8 X9 X10 X11 X12
              have GA := goodS_any ea n ec L rb rbc ps (fq - 1) q m w11 (HED.out w11 B212) (by omega) BO11.nn BO11.cell HQ.out HM.out hmn
              have BO11 := hid BO11
              rw [← HW34.out.2] at GA
              go_wp2_with fail
              refine GA.mono ?_
              rintro e w12 ⟨az, cz, zs, pz, bz, fz, rfl, IZ, hzl, HA, HMz, IPz, HBz, HFz, B13⟩
              have B213 := B212.trans (B13.mono B212.size)
              have GB := goodR_any ea n ec L rb rbc ps (fq - 1) q m w12 (HED.out w12 B213) HL4.out hn (BO11.out.below B13 (Nat.le_refl _)) HQ.out HM.out hmn
              have IZ := hid IZ
              have HA := hid HA
              have HMz := hid HMz
              have IPz := hid IPz
              have HBz := hid HBz
              have HFz := hid HFz
              clear GA
              rw [← HW34.out.2] at GB
              go_wp2_with fail
              refine GB.mono ?_
              rintro e w13 ⟨az2, cz2, p3, b3, f3, o3, rfl, I3, HO3, IP3, HB3, HF3, B14⟩
              have B214 := B213.trans (B14.mono B213.size)
              have hze : zs = outL o3 n := good_eq HA.out HMz.out IPz.out IP3 HBz.out HB3 HFz.out HF3 HO3
              have SI := sameInts_any az zs.length cz zs az2 (outL o3 n).length cz2 (outL o3 n) w13 (IZ.out.below B14 (Nat.le_refl _)).row I3.row rfl rfl (by omega)
              have HZE := hid hze
              clear GB hze HO3 IP3 HB3 HF3 I3
              go_wp2_with fail
              refine SI.mono ?_
              rintro e w14 ⟨r14, rfl, hr14, B15⟩
              obtain rfl : r14 = true := hr14.2 (by first | exact HZE.out | trivial)
              go_wp2_with fail
              go_ret
              have B215 := B214.trans (B15.mono B214.size)
              exact ⟨rfl, B02h.out.trans (B215.mono B02h.out.size)⟩
        | true =>
          have hn0 : n = 0 := by rcases hshort with h | h; cases h; exact h
          have hn1 : ¬ ((0 : Int) < (n : Int)) := by omega
          clear hn0
          clear hshort
          clear hixr hf hi hz0 hz1 hz2 hlb hlr s1 s2 hk hkn hkk hd3 hd4 hfb hx1 hx2
          obtain ⟨hw3, hw4⟩ := HW34.out
          go_wp2_with fail
          clear hw3 hn1
          refine PK.mono ?_
          rintro e w5 ⟨rfl, rfl⟩
          clear PK
          go_wp2_with fail
          clear hw4
          have BK := back_any ea n ec L wr EDr.out (by omega)
          refine BK.mono ?_
          rintro e w6 ⟨gb, o, rfl, hb, HO, hgb, B6⟩
          have B26 := B.trans (B6.mono hsz)
          have HO := hid HO
          have hb := hid hb
          clear BK
          have BR := backR_any ea n ec L w6 (HED.out w6 B26) HL4.out hn
          go_wp2_with fail
          refine BR.mono ?_
          rintro e w7 ⟨gb2, o2, rfl, hb2, HO2, hgb2, B7⟩
          have B27 := B26.trans (B7.mono B26.size)
          have HO2 := hid HO2
          have hb7 := (B7.block gb (lt_of_blk hb.out)).trans hb.out
          have l1 := lt_of_blk hb7
          have l2 := lt_of_blk hb2
          have hb7 := hid hb7
          have hb2 := hid hb2
          clear BR hb B26
          have W7s := B27.size
          go_wp2_with fail
          go_loopw [63] (fun v wx => ∃ (i : Nat), v = .int .i64 i ∧ i ≤ n ∧ Below w7.heap.size w7 wx) (fun v _ => n - (intOf v).toNat)
          case atStart => exact ⟨0, rfl, Nat.zero_le _, Below.refl _ _⟩
          case round =>
            obtain ⟨i, rfl, hi5, B8⟩ := hrel
            by_cases hin : i < n
            · have i1 : (0 : Int) ≤ (i : Int) := by omega
              have i2 : (i : Int) < (n : Int) := by omega
              have c1 := blk_cell ((B8.block gb l1).trans hb7.out) (tabB_get hin)
              have c2 := blk_cell ((B8.block gb2 l2).trans hb2.out) (tabB_get hin)
              have eo : o2 i = o i := Bool.eq_iff_iff.2 ((HO2.out i hin).trans (HO.out i hin).symm)
              rw [eo] at c2
              obtain ⟨β, hβ⟩ : ∃ β, o i = β := ⟨_, rfl⟩
              rw [hβ] at c1 c2
              have hbb : (β != β) = false := by simp
              have S0 : wr.drew.cell? ⟨gb, i, none⟩ = some (.bool β) ∧ wr.drew.cell? ⟨gb2, i, none⟩ = some (.bool β) := ⟨c1, c2⟩
              clear eo hβ
              go_wp2_with fail
              go_region_held3 (fun w' => w'.cell? ⟨gb, i, none⟩ = some (.bool β) ∧ w'.cell? ⟨gb2, i, none⟩ = some (.bool β)) (first | exact S0 | assumption) (fail)
              go_wp2_with fail
              go_roundw
              case measure => simp [intOf] <;> omega
              case rel => exact ⟨i + 1, by go_num, by omega, B8.drew⟩
            · obtain rfl : n = i := by omega
              have B28 := B27.trans (B8.mono W7s)
              have KN := known20_any wr
              clear hb7 hb2 HO HO2
              go_wp2_with fail
              refine KN.mono ?_
              rintro e w8 ⟨rfl, B9⟩
              have B29 := B28.trans (B9.mono B28.size)
              have PA := parts_any ea n ec L w8 (HED.out w8 B29) (by omega)
              clear KN
              go_wp2_with fail
              refine PA.mono ?_
              rintro e w9 ⟨gp, p, rfl, hp, IP, hgp, B10⟩
              have B210 := B29.trans (B10.mono B29.size)
              have hp := hid hp
              have IP := hid IP
              have PB := partsR_any ea n ec L w9 (HED.out w9 B210) HL4.out hn
              clear PA
              go_wp2_with fail
              refine PB.mono ?_
              rintro e w10 ⟨gp2, p2, rfl, hp2, IP2, hgp2, B11⟩
              have B211 := B210.trans (B11.mono B210.size)
              have hpe : (List.range n).map (fun v => (p2 v : Int)) = (List.range n).map (fun v => (p v : Int)) := List.map_congr_left fun v hv => by rw [IP.out.unique IP2 v (List.mem_range.1 hv)]
              have row1 := tab_row ((B11.block gp (lt_of_blk hp.out)).trans hp.out)
              have row2 := tab_row hp2
              rw [hpe] at row2
              have SI := sameInts_any (some ⟨gp, 0, none⟩) n n _ (some ⟨gp2, 0, none⟩) n n _ w10 row1 row2 (by simp) (by simp) (by omega)
              have HSI := hid SI
              clear PB hp2 IP2 hpe row1 row2 SI
              go_wp2_with fail
              refine HSI.out.mono ?_
              rintro e w11 ⟨r11, rfl, hr11, B12⟩
              obtain rfl : r11 = true := hr11.2 (by first | exact rfl | trivial)
              have B212 := B211.trans (B12.mono B211.size)
              clear HSI hr11
              have X7 := B6.trans (B7.mono B6.size)
              have X8 := X7.trans (B8.mono X7.size)
              have X9 := X8.trans (B9.mono X8.size)
              have X10 := X9.trans (B10.mono X9.size)
              have X11 := X10.trans (B11.mono X10.size)
              have X12 := X11.trans (B12.mono X11.size)
              have BO11 := BO.out.below X12 (Nat.le_refl _)
              clear X7 X8 X9 X10 X11 X12
              have GA := goodS_any ea n ec L rb rbc ps (fq - 1) q m w11 (HED.out w11 B212) (by omega) BO11.nn BO11.cell HQ.out HM.out hmn
              have BO11 := hid BO11
              rw [← HW34.out.2] at GA
              go_wp2_with fail
              refine GA.mono ?_
              rintro e w12 ⟨az, cz, zs, pz, bz, fz, rfl, IZ, hzl, HA, HMz, IPz, HBz, HFz, B13⟩
              have B213 := B212.trans (B13.mono B212.size)
              have GB := goodR_any ea n ec L rb rbc ps (fq - 1) q m w12 (HED.out w12 B213) HL4.out hn (BO11.out.below B13 (Nat.le_refl _)) HQ.out HM.out hmn
              have IZ := hid IZ
              have HA := hid HA
              have HMz := hid HMz
              have IPz := hid IPz
              have HBz := hid HBz
              have HFz := hid HFz
              clear GA
              rw [← HW34.out.2] at GB
              go_wp2_with fail
              refine GB.mono ?_
              rintro e w13 ⟨az2, cz2, p3, b3, f3, o3, rfl, I3, HO3, IP3, HB3, HF3, B14⟩
              have B214 := B213.trans (B14.mono B213.size)
              have hze : zs = outL o3 n := good_eq HA.out HMz.out IPz.out IP3 HBz.out HB3 HFz.out HF3 HO3
              have SI := sameInts_any az zs.length cz zs az2 (outL o3 n).length cz2 (outL o3 n) w13 (IZ.out.below B14 (Nat.le_refl _)).row I3.row rfl rfl (by omega)
              have HZE := hid hze
              clear GB hze HO3 IP3 HB3 HF3 I3
              go_wp2_with fail
              refine SI.mono ?_
              rintro e w14 ⟨r14, rfl, hr14, B15⟩
              obtain rfl : r14 = true := hr14.2 (by first | exact HZE.out | trivial)
              go_wp2_with fail
              go_ret
              have B215 := B214.trans (B15.mono B214.size)
              exact ⟨rfl, B02h.out.trans (B215.mono B02h.out.size)⟩

end Go.Proofs.Ytkflhmpecfckfaa
