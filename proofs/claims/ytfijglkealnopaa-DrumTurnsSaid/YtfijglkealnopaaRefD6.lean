/- lariatref3's drum: Fall -/
import Derived.Test.YtfijglkealnopaaRefD5
open Go Go.RowKit
namespace Go.Proofs.Ytfijglkealnopaa

/-- how many bytes of lay i are done -/
def partOf (keep : List Int) (torn : Int) (c : Nat) (i : Nat) : Nat := if (i : Int) ∈ keep then 96 else if (i : Int) = torn then c else 0
def RS.fallTo (s : RS) (keep : List Int) (torn : Int) (c : Nat) : Nat → (Nat → List Int)
  | 0 => s.K
  | i + 1 => upd (s.fallTo keep torn c i) (s.up[i]?.getD (0, [])).1 ((s.up[i]?.getD (0, [])).2.take (partOf keep torn c i) ++ (s.fallTo keep torn c i (s.up[i]?.getD (0, [])).1).drop (partOf keep torn c i))
def RS.fall (s : RS) (keep : List Int) (torn cut : Int) : RS := { s with K := s.fallTo keep torn (cutOf cut) s.up.length, up := [], broken := false, left := -1 }

theorem RefP.fell {w : World} {R : Dom} {p : RP} {s : RS} (h : RefP w R p s) : RefP (((w.setCell ⟨p.r, 1, none⟩ (.slice none 0 0)).setCell ⟨p.r, 3, none⟩ (.bool false)).setCell ⟨p.r, 2, none⟩ (.int .i64 (-1))) R { p with av := .slice none 0 0 } { s with up := [], broken := false, left := -1 } := by
  have k : Ext (· = p.r) w (((w.setCell ⟨p.r, 1, none⟩ (.slice none 0 0)).setCell ⟨p.r, 3, none⟩ (.bool false)).setCell ⟨p.r, 2, none⟩ (.int .i64 (-1))) := (Ext.set.trans Ext.set (fun _ _ h => h)).trans Ext.set (fun _ _ h => h)
  exact ⟨blk_setCell (blk_setCell (blk_setCell h.obj _) _) _, h.rr, h.rt, fun q hq => (by cases hq), k.owns2 (fun g hg e => owns_ne h.trow h.obj (by decide) (e ▸ hg)) h.trow, World.ownsRow_nil _ _ _ _, fun q hq => Nat.lt_of_lt_of_le (h.rl q hq) k.size,
    h.n0, h.n1, Nat.zero_le _, h.kl, fun p hp => (by cases hp), Int.le_refl _, (by show (-1 : Int) ≤ _; omega), h.t0, h.t1⟩

set_option maxRecDepth 100000 in
set_option maxHeartbeats 1000000 in
theorem rfall_any {w : World} {R : Dom} {r : Nat} {s : RS} (h : RefAt w R r s) (ka : Option Addr) (kl kc : Nat) (keep : List Int) (torn cut : Int) (hK : IntsAt w ka kl kc keep) (hKM : 0 < kl → ¬ R (sB ka)) :
    Calls Try.prog 20 #[.pointer (some ⟨r, 0, none⟩), .slice ka kl kc, .int .i64 torn, .int .i64 cut] w fun e w' => e = .returned (.tuple #[]) ∧ ∃ R', RefAt w' R' r (s.fall keep torn cut) ∧ Step R w R' w' := by
  obtain ⟨q, hq1, hq2⟩ : ∃ q : Int, min cut 96 = q ∧ max 0 q = (cutOf cut : Int) := ⟨_, rfl, by unfold cutOf; omega⟩
  have hc96 : cutOf cut ≤ 96 := by unfold cutOf; omega
  have HFD : s.fall keep torn cut = { s with K := s.fallTo keep torn (cutOf cut) s.up.length, up := [], broken := false, left := -1 } := rfl
  obtain ⟨sf, hsf⟩ : ∃ sf, s.fall keep torn cut = sf := ⟨_, rfl⟩
  rw [hsf] at HFD ⊢
  obtain ⟨c, hc⟩ : ∃ c, cutOf cut = c := ⟨_, rfl⟩
  rw [hc] at hq2 hc96 HFD
  have HFD2 := hid HFD
  have HKM := hid hKM
  have HK := hid hK
  have H0 := hid h
  have hixk := fun k (hk : k < kl) => idx_at1 (P := Try.prog) (T := 23) Try.underlying23 szI (cap := kc) (fun _ => hK.row.nn (by rw [I8_length, hK.len]; omega)) hk
  have hkb := hK.big
  clear h hc hsf HFD
  go_enter Try.func20, Try.ntmps20
  go_wp2_with fail
  go_loopw [8] (fun v wr => ∃ (i : Nat) (R' : Dom), v = .int .i64 i ∧ i ≤ s.up.length ∧ Hid (RefAt wr R' r { s with K := s.fallTo keep torn c i }) ∧ Step R w R' wr) (fun v _ => s.up.length - (intOf v).toNat)
  case atStart => exact ⟨0, R, rfl, Nat.zero_le _, H0, Step.refl _ _⟩
  case round =>
    obtain ⟨i, R', rfl, hi, HR, ST⟩ := hrel
    obtain ⟨p, hp, HP⟩ := HR.out
    subst hp
    obtain ⟨aa, ac, hav⟩ := owns_slice HP.arow
    have c1 := HP.cells.2.1
    have ul := HP.ul
    simp only at hav ul
    rw [hav] at c1
    obtain ⟨L, hL⟩ : ∃ L, s.up.length = L := ⟨_, rfl⟩
    rw [hL] at hi c1 ul
    have HL := hid hL
    have HAV := hid hav
    have HP := hid HP
    clear hL hav
    by_cases hiL : i < L
    · have hil : i < s.up.length := by rw [HL.out]; exact hiL
      obtain ⟨g, cg, e1, k1, k2, k3, k4, k5⟩ := HP.out.get hil
      have e1 := HAV.out.symm.trans e1
      obtain ⟨rfl, rfl⟩ : aa = some ⟨g, 0, none⟩ ∧ ac = cg := by cases e1; exact ⟨rfl, rfl⟩
      simp only at k1 k2 k3 k4 k5
      have hst : s.fallTo keep torn c (i + 1) = upd (s.fallTo keep torn c i) (s.up[i]).1 ((s.up[i]).2.take (partOf keep torn c i) ++ (s.fallTo keep torn c i (s.up[i]).1).drop (partOf keep torn c i)) := by
        show upd (s.fallTo keep torn c i) (s.up[i]?.getD (0, [])).1 ((s.up[i]?.getD (0, [])).2.take (partOf keep torn c i) ++ (s.fallTo keep torn c i (s.up[i]?.getD (0, [])).1).drop (partOf keep torn c i)) = _
        rw [List.getElem?_eq_getElem hil]; rfl
      obtain ⟨⟨at', zs⟩, hx⟩ : ∃ x, s.up[i] = x := ⟨_, rfl⟩
      rw [hx] at k1 k2 k3 k4 k5 hst
      simp only at k1 k2 k3 k4 k5 hst
      have HST := hid hst
      have K45 := hid (And.intro k4 k5)
      have i1 : (0 : Int) ≤ (i : Int) := by omega
      have i2 : (i : Int) < (L : Int) := by omega
      have hrl : p.r < wr.heap.size := lt_of_blk HP.out.obj
      have X1 : Ext (fun _ => False) wr (wr.alloc (.cells #[.int .i64 (at' : Int), .string (strOfNums zs)] 51)) := (Ext.refl _ _).alloc _
      obtain ⟨W1, hW1⟩ : ∃ W1, wr.alloc (.cells #[.int .i64 (at' : Int), .string (strOfNums zs)] 51) = W1 := ⟨_, rfl⟩
      rw [hW1] at X1
      have l1 : W1.heap[wr.heap.size]? = some (.cells #[.int .i64 (at' : Int), .string (strOfNums zs)] 51 (0, 0)) := by rw [← hW1]; exact blk_new _ _
      obtain ⟨l8, hl8⟩ : ∃ l8, wr.heap.size = l8 := ⟨_, rfl⟩
      rw [hl8] at l1
      have d0 : W1.cell? ⟨l8, 0, none⟩ = some (.int .i64 (at' : Int)) := blk_cell l1 rfl
      have d1 : W1.cell? ⟨l8, 1, none⟩ = some (.string (strOfNums zs)) := blk_cell l1 rfl
      have RA1 := hid (HR.out.ext X1 (fun _ _ => id))
      have P1 := hid (HP.out.ext X1 (fun _ _ => id))
      have SX1 := hid (ST.trans (Step.of_ext X1 (fun _ h => h.elim)))
      have KI := hid ((HK.out.ext ST.ext (fun h0 hm => HKM.out h0 hm)).ext X1 (fun _ => id))
      have t0 : W1.cell? ⟨p.r, 0, none⟩ = some (.slice (some ⟨p.tb, 0, none⟩) s.n p.tc) := P1.out.cells.1
      have t1 : W1.cell? ⟨p.tb, at', none⟩ = some (.string (strOfNums (s.fallTo keep torn c i at'))) := (P1.out.trow.cellAt at' (show at' < s.n * 1 from by have : at' < s.n := k3; omega)).trans (strK_get _ k3)
      obtain ⟨u4, u5⟩ := P1.out.kl at' k3
      simp only at u4 u5
      have U45 := hid (And.intro u4 u5)
      clear e1 hst hx hil l1 X1 k4 k5 u4 u5
      -- the parts that are done
      obtain ⟨p0, hp0⟩ : ∃ p0 : Nat, p0 = (if (i : Int) = torn then c else 0) := ⟨_, rfl⟩
      have hp96 : p0 ≤ 96 := by rw [hp0]; split <;> omega
      have HPO := hid (show ∀ pv : Nat, pv = (if (i : Int) ∈ keep then 96 else p0) → pv = partOf keep torn c i from fun pv e => by rw [e, hp0]; rfl)
      by_cases hit : (i : Int) = torn
      · subst hit
        have e0 : p0 = c := by rw [hp0, if_pos rfl]
        subst e0
        clear hp0
        go_wp2_with fail
        go_loopw [10, 11] (fun u v wx => ∃ (j pv : Nat), u = .int .i64 pv ∧ v = .int .i64 j ∧ j ≤ kl ∧ Hid (pv = if (i : Int) ∈ keep.take j then 96 else p0) ∧ wx = W1) (fun _ v _ => kl - (intOf v).toNat)
        case atStart => exact ⟨0, p0, rfl, rfl, Nat.zero_le _, hid (by simp), rfl⟩
        case round =>
          obtain ⟨j, pv, rfl, rfl, hj, HPV, rfl⟩ := hrel
          by_cases hjk : j < kl
          · have hixj := hixk j hjk
            have hjl : j < keep.length := by rw [KI.out.len]; exact hjk
            have cj := KI.out.row.num hjl
            have TK := hid (take_succ_get hjl)
            obtain ⟨y, hy⟩ : ∃ y, keep[j]?.getD 0 = y := ⟨_, rfl⟩
            rw [hy] at cj TK
            clear hy hjl
            by_cases hyi : y = (i : Int)
            · subst hyi
              go_wp2_with fail
              go_roundw
              case measure => simp [intOf]; omega
              case rel => exact ⟨j + 1, 96, rfl, by go_num, by omega, hid (by rw [TK.out, if_pos (List.mem_append_right _ (List.mem_singleton.2 rfl))]), by trivial⟩
            · have y1 : (y == (i : Int)) = false := by simp only [beq_eq_false_iff_ne]; exact hyi
              have HY := hid hyi
              clear hyi
              go_wp2_with fail
              go_roundw
              case measure => simp [intOf]; omega
              case rel => exact ⟨j + 1, pv, rfl, by go_num, by omega, hid (by
                have e1 : ((i : Int) ∈ keep.take (j + 1)) ↔ ((i : Int) ∈ keep.take j) := by
                  rw [TK.out, List.mem_append]
                  exact ⟨fun h => h.elim id (fun h => absurd (List.mem_singleton.1 h).symm HY.out), .inl⟩
                rw [HPV.out]
                simp only [e1]), by trivial⟩
          · obtain rfl : kl = j := by omega
            have hpv : pv = partOf keep i p0 i := HPO.out pv (by rw [HPV.out, List.take_of_length_le (by rw [KI.out.len]; exact Nat.le_refl _)])
            have hpv96 : pv ≤ 96 := by have := HPV.out; split at this <;> omega
            have HST2 := HST.out
            rw [← hpv] at HST2
            obtain ⟨kT, hkT⟩ : ∃ kT, s.fallTo keep i p0 i at' = kT := ⟨_, rfl⟩
            have U4 := U45.out.1
            have U5 := U45.out.2
            rw [hkT] at t1 HST2 U4 U5
            have ex1 : (strOfNums zs).extract 0 pv = strOfNums (zs.take pv) := str_take _ _
            have ex2 : (strOfNums kT).extract pv 96 = strOfNums (kT.drop pv) := str_drop _ _ _ (by omega)
            have ex3 : strOfNums (zs.take pv) ++ strOfNums (kT.drop pv) = strOfNums (zs.take pv ++ kT.drop pv) := str_append _ _
            have sz1 : (strOfNums zs).size = 96 := by rw [strOfNums_size, K45.out.1]
            have sz2 : (strOfNums kT).size = 96 := by rw [strOfNums_size, U4]
            have hle : ¬ (9223372036854775807 < (strOfNums (zs.take pv)).size + (strOfNums (kT.drop pv)).size) := by
              rw [strOfNums_size, strOfNums_size, List.length_take, List.length_drop]
              omega
            have pv1 : (0 : Int) ≤ (pv : Int) := by omega
            have pv2 : (pv : Int) ≤ 96 := by omega
            have zlen : (zs.take pv ++ kT.drop pv).length = 96 ∧ IsBytes (zs.take pv ++ kT.drop pv) := by
              refine ⟨?_, IsBytes.append (fun n hn => K45.out.2 n (List.mem_of_mem_take hn)) (fun n hn => U5 n (List.mem_of_mem_drop hn))⟩
              rw [List.length_append, List.length_take, List.length_drop, K45.out.1, U4]
              omega
            have SA := rset_any (w := wr.drew) (RA1.out.below (Below.refl _ wr).drew) at' k3 (zs.take pv ++ kT.drop pv) zlen
            have a1 : (0 : Int) ≤ (at' : Int) := by omega
            have a2 : (at' : Int) < (s.n : Int) := by have : at' < s.n := k3; omega
            have HST3 := hid HST2
            clear hpv HST2 hkT zlen U4 U5
            go_wp2_with fail
            go_still_tail 18, (by kernel_rfl)
            change wpList _ _ _ _ _ wr.drew
            go_wp2_with fail
            refine SA.mono ?_
            rintro e w9 ⟨rfl, R9, h9, S9⟩
            go_wp2_with fail
            go_roundw
            case measure => simp [intOf]; have := HL.out; omega
            case rel => exact ⟨i + 1, R9, by go_num, by have := HL.out; omega, hid (by rw [HST3.out]; exact h9), (SX1.out.trans Step.drew).trans S9⟩
      · have n1 : ((i : Int) == torn) = false := by simp only [beq_eq_false_iff_ne]; exact hit
        have e0 : p0 = 0 := by rw [hp0, if_neg hit]
        subst e0
        clear hp0 hit
        go_wp2_with fail
        go_loopw [10, 11] (fun u v wx => ∃ (j pv : Nat), u = .int .i64 pv ∧ v = .int .i64 j ∧ j ≤ kl ∧ Hid (pv = if (i : Int) ∈ keep.take j then 96 else 0) ∧ wx = W1) (fun _ v _ => kl - (intOf v).toNat)
        case atStart => exact ⟨0, 0, rfl, rfl, Nat.zero_le _, hid (by simp), rfl⟩
        case round =>
          obtain ⟨j, pv, rfl, rfl, hj, HPV, rfl⟩ := hrel
          by_cases hjk : j < kl
          · have hixj := hixk j hjk
            have hjl : j < keep.length := by rw [KI.out.len]; exact hjk
            have cj := KI.out.row.num hjl
            have TK := hid (take_succ_get hjl)
            obtain ⟨y, hy⟩ : ∃ y, keep[j]?.getD 0 = y := ⟨_, rfl⟩
            rw [hy] at cj TK
            clear hy hjl
            by_cases hyi : y = (i : Int)
            · subst hyi
              go_wp2_with fail
              go_roundw
              case measure => simp [intOf]; omega
              case rel => exact ⟨j + 1, 96, rfl, by go_num, by omega, hid (by rw [TK.out, if_pos (List.mem_append_right _ (List.mem_singleton.2 rfl))]), by trivial⟩
            · have y1 : (y == (i : Int)) = false := by simp only [beq_eq_false_iff_ne]; exact hyi
              have HY := hid hyi
              clear hyi
              go_wp2_with fail
              go_roundw
              case measure => simp [intOf]; omega
              case rel => exact ⟨j + 1, pv, rfl, by go_num, by omega, hid (by
                have e1 : ((i : Int) ∈ keep.take (j + 1)) ↔ ((i : Int) ∈ keep.take j) := by
                  rw [TK.out, List.mem_append]
                  exact ⟨fun h => h.elim id (fun h => absurd (List.mem_singleton.1 h).symm HY.out), .inl⟩
                rw [HPV.out]
                simp only [e1]), by trivial⟩
          · obtain rfl : kl = j := by omega
            have hpv : pv = partOf keep torn c i := HPO.out pv (by rw [HPV.out, List.take_of_length_le (by rw [KI.out.len]; exact Nat.le_refl _)])
            have hpv96 : pv ≤ 96 := by have := HPV.out; split at this <;> omega
            have HST2 := HST.out
            rw [← hpv] at HST2
            obtain ⟨kT, hkT⟩ : ∃ kT, s.fallTo keep torn c i at' = kT := ⟨_, rfl⟩
            have U4 := U45.out.1
            have U5 := U45.out.2
            rw [hkT] at t1 HST2 U4 U5
            have ex1 : (strOfNums zs).extract 0 pv = strOfNums (zs.take pv) := str_take _ _
            have ex2 : (strOfNums kT).extract pv 96 = strOfNums (kT.drop pv) := str_drop _ _ _ (by omega)
            have ex3 : strOfNums (zs.take pv) ++ strOfNums (kT.drop pv) = strOfNums (zs.take pv ++ kT.drop pv) := str_append _ _
            have sz1 : (strOfNums zs).size = 96 := by rw [strOfNums_size, K45.out.1]
            have sz2 : (strOfNums kT).size = 96 := by rw [strOfNums_size, U4]
            have hle : ¬ (9223372036854775807 < (strOfNums (zs.take pv)).size + (strOfNums (kT.drop pv)).size) := by
              rw [strOfNums_size, strOfNums_size, List.length_take, List.length_drop]
              omega
            have pv1 : (0 : Int) ≤ (pv : Int) := by omega
            have pv2 : (pv : Int) ≤ 96 := by omega
            have zlen : (zs.take pv ++ kT.drop pv).length = 96 ∧ IsBytes (zs.take pv ++ kT.drop pv) := by
              refine ⟨?_, IsBytes.append (fun n hn => K45.out.2 n (List.mem_of_mem_take hn)) (fun n hn => U5 n (List.mem_of_mem_drop hn))⟩
              rw [List.length_append, List.length_take, List.length_drop, K45.out.1, U4]
              omega
            have SA := rset_any (w := wr.drew) (RA1.out.below (Below.refl _ wr).drew) at' k3 (zs.take pv ++ kT.drop pv) zlen
            have a1 : (0 : Int) ≤ (at' : Int) := by omega
            have a2 : (at' : Int) < (s.n : Int) := by have : at' < s.n := k3; omega
            have HST3 := hid HST2
            clear hpv HST2 hkT zlen U4 U5
            go_wp2_with fail
            go_still_tail 18, (by kernel_rfl)
            change wpList _ _ _ _ _ wr.drew
            go_wp2_with fail
            refine SA.mono ?_
            rintro e w9 ⟨rfl, R9, h9, S9⟩
            go_wp2_with fail
            go_roundw
            case measure => simp [intOf]; have := HL.out; omega
            case rel => exact ⟨i + 1, R9, by go_num, by have := HL.out; omega, hid (by rw [HST3.out]; exact h9), (SX1.out.trans Step.drew).trans S9⟩
    · obtain rfl : L = i := by omega
      have fr := fun o => blk_free (o := o) HP.out.obj
      have c2 := HP.out.cells.2.2.1
      have c3 := HP.out.cells.2.2.2.1
      go_wp2_with fail
      try simp only [Exit.inBlock, Exit.then]
      refine bodyPost_end (results_none rfl _ _ _) rfl ⟨rfl, R', ⟨{ p with av := .slice none 0 0 }, rfl, ?_⟩, ?_⟩
      · rw [HFD2.out, HL.out]
        exact HP.out.fell
      · exact ST.trans (Step.of_ext ((Ext.set.trans Ext.set (fun _ _ h => h)).trans Ext.set (fun _ _ h => h)) (fun q hq => by subst hq; exact HP.out.rr))

end Go.Proofs.Ytfijglkealnopaa
