/- SccTurned: the walk -/
import Derived.Test.YtfkooghdfidnpaaTurnedW
open Go Go.RowKit
namespace Go.Proofs.Ytfkooghdfidnpaa
open Tj

set_option maxRecDepth 100000 in
set_option maxHeartbeats 8000000 in
theorem sccTurned_walk (a : Option Addr) (len cap : Nat) (w : World) (hR : RowsIn w a len) (hlb : len ≤ 9223372036854775807) :
    Calls Try.prog 4 #[.slice a len cap] w fun e w' => e = .returned (.bool true) ∧ Below w.heap.size w w' := by
  obtain ⟨i0, hi, hz0, hz1, hz2⟩ := info_parts iI
  obtain ⟨j0, ji, jz0, jz1, jz2⟩ := info_parts iS
  go_enter Try.func4, Try.ntmps4
  go_wp2_with fail
  refine (known20_any w).mono ?_
  rintro e w1 ⟨rfl, B1⟩
  go_wp2_with fail
  refine (edges_any a len cap 25 w1 (hR.below B1 (Nat.le_refl _)) (by decide) hlb).mono ?_
  rintro e w2 ⟨ea, n, ec, LL, rfl, hLn, hn, ED, H4, B2⟩
  have hL4 : ∀ v, v < n → (LL[v]?.getD []).length ≤ 4 := fun v hv => by rw [List.getElem?_eq_getElem (by omega)]; exact H4 _ (List.getElem_mem _)
  obtain ⟨L, hL⟩ : ∃ L : Nat → List Int, (fun v => LL[v]?.getD []) = L := ⟨_, rfl⟩
  have hL4 : ∀ v, v < n → (L v).length ≤ 4 := by rw [← hL]; exact hL4
  rw [hL] at ED
  have HL4 := hid hL4
  clear hL hLn H4 hL4
  have B02 : Below w.heap.size w w2 := B1.trans (B2.mono B1.size)
  have s02 := B02.size
  clear B1 B2
  go_wp2_with fail
  go_loopw [4, 17] (fun vr' v wr => ∃ (k : Nat) (vr : Value), vr = vr' ∧ v = .int .i64 k ∧ k ≤ n ∧ wr.ownsRow w2.heap.size 25 1 vr k (List.replicate k (.slice none 0 0)) ∧ Below w2.heap.size w2 wr) (fun _ v _ => n - (intOf v).toNat)
  case atStart => exact ⟨0, _, rfl, rfl, Nat.zero_le _, World.ownsRow_nil _ _ _ _, Below.refl _ _⟩
  case round =>
    obtain ⟨k, vr, rfl, rfl, hk, OR, B⟩ := hrel
    have hsz : w2.heap.size ≤ wr.heap.size := B.size
    by_cases hkn : k < n
    · have hbs : w2.heap.size ≤ (wr.alloc (.cells #[.slice none 0 0] 25)).heap.size := by simp; omega
      have h24 : (k + 1) * 24 ≤ 140737488355328 := by omega
      have hml : k + 1 ≤ maxLen := by simp only [maxLen]; omega
      go_wp2_with (at_builtin; refine wpList_append_lies (P := Try.prog) _ rfl _ _ 22 rfl w2.heap.size 25 j0 (.slice none 0 0) 1 24 Try.underlying22 ji jz0 jz1 jz2 rfl (by decide) vr k (List.replicate k (.slice none 0 0)) rfl (OR.alloc _) ⟨wr.heap.size, 0, none⟩ 1 1 [.slice none 0 0] rfl rfl (row_new wr #[.slice none 0 0] 25).news (fun u hu => by simp at hu; subst hu; rfl) (by decide) hml h24 hbs (wr.heap.size + 1) (by simp) ?_)
      intro g cap1 w6 O6 G6 hat hlt2
      go_wp2_with fail
      go_roundw
      case measure => simp [intOf]; omega
      case rel =>
        refine ⟨k + 1, _, rfl, by go_num, by omega, ?_, (B.alloc (by omega) _).grown G6 (by simp; omega) (fun q hq => (OR.lt q hq).1)⟩
        rw [List.replicate_succ']
        exact O6
    · obtain rfl : n = k := by omega
      obtain ⟨ao, co, rfl⟩ := owns_slice OR
      obtain ⟨W3, rfl⟩ : ∃ W, W = wr := ⟨wr, rfl⟩
      go_wp2_with fail
      go_loopw [25] (fun v wr => ∃ (i : Nat) (hs : List Value) (RR : Nat → List Int), v = .int .i64 i ∧ i ≤ n ∧ RV wr w2.heap.size (.slice ao n co) n hs RR ∧ Hid (Turn n L RR i []) ∧ Below w2.heap.size w2 wr) (fun v _ => n - (intOf v).toNat)
      case atStart => exact ⟨0, _, _, rfl, Nat.zero_le _, RV.start OR, hid (Turn.start _ _), B⟩
      case round =>
        obtain ⟨i, hs, RR, rfl, hi0, V, T, B3⟩ := hrel
        by_cases hin : i < n
        · have EDr := ED.below B3 (Nat.le_refl _)
          obtain ⟨ai, li, ci, hc, hI, hl⟩ := EDr.row i hin
          have hixo := idx_at1 (P := Try.prog) (T := 22) Try.underlying22 (show (Try.prog.info? 25).map (·.size) = some 1 by kernel_rfl) (cap := ec) (fun _ => ED.nn (by omega)) hin
          have hixi := fun k (hk : k < li) => idx_at1 (P := Try.prog) (T := 25) Try.underlying25 szI (cap := ci) (fun _ => hI.row.nn (by simp; have := hI.len; omega)) hk
          have HIL := hid hI.len
          have HIW : ∀ wx, Below w2.heap.size w2 wx → IntsAt wx ai li ci (L i) := fun wx BX => by
            obtain ⟨a0, l0, c0, hc0, hI0, hl0⟩ := ED.row i hin
            have hc2 := Below.cellAt B3 (lt_of_cell hc0) hc0
            rw [hc] at hc2
            cases hc2
            exact hI0.below BX (Nat.le_refl _)
          obtain ⟨ga, gc, hgo, -⟩ := owns_some V.outer (by omega)
          obtain ⟨rfl, -, rfl⟩ : ao = some ⟨ga, 0, none⟩ ∧ n = n ∧ co = gc := by cases hgo; exact ⟨rfl, rfl, rfl⟩
          clear hgo
          go_wp2_with fail
          go_loopw [33] (fun v wr => ∃ (j : Nat) (hs : List Value) (RR : Nat → List Int), v = .int .i64 j ∧ j ≤ li ∧ RV wr w2.heap.size (.slice (some ⟨ga, 0, none⟩) n co) n hs RR ∧ Hid (Turn n L RR i ((L i).take j)) ∧ Below w2.heap.size w2 wr) (fun v _ => li - (intOf v).toNat)
          case atStart => exact ⟨0, hs, RR, rfl, Nat.zero_le _, V, hid (by simpa using T.out), B3⟩
          case round =>
            obtain ⟨j, hs', RR', rfl, hj, V2, T2, B4⟩ := hrel
            by_cases hjl : j < li
            · have hjL : j < (L i).length := by rw [HIL.out]; exact hjl
              have hcz := (HIW _ B4).row.num hjL
              have hixj := hixi j hjl
              have TK := take_succ_get hjL
              obtain ⟨z, hz⟩ : ∃ z, (L i)[j]?.getD 0 = z := ⟨_, rfl⟩
              rw [hz] at hcz TK
              have TK := hid TK
              clear hz hjL
              by_cases hnode : 0 ≤ z ∧ z < (n : Int)
              · obtain ⟨k, rfl⟩ : ∃ k : Nat, z = (k : Int) := ⟨z.toNat, by omega⟩
                have hkn2 : k < n := by omega
                have kz0 : (0 : Int) ≤ (k : Int) := by omega
                have kz1 : (k : Int) < (n : Int) := by omega
                obtain ⟨x, hx, OX⟩ := V2.row k hkn2
                obtain ⟨ax, cx, rfl⟩ := owns_slice OX
                have HX := hid hx
                have hlr := T2.out.len k hkn2
                have hl4 := HL4.out i hin
                have htl : ((L i).take j).length ≤ 4 := Nat.le_trans (List.length_take_le' _ _) hl4
                have hlen104 : (RR' k).length ≤ 104 := by omega
                obtain ⟨M, hM⟩ : ∃ M, (RR' k).length = M := ⟨_, rfl⟩
                rw [hM] at OX hlen104 hx
                have HM := hid hM
                have cx0 : wr.cell? ⟨ga, k, none⟩ = some (.slice ax M cx) := (V2.outer.cellAt k (by omega)).trans hx
                have hbs : w2.heap.size ≤ (wr.alloc (.cells #[.int .i64 i] 3)).heap.size := by have := B4.size; simp; omega
                have h8 : (M + 1) * 8 ≤ 140737488355328 := by omega
                have hml : M + 1 ≤ maxLen := by simp only [maxLen]; omega
                clear hnode hx hM hlr hl4 htl
                go_wp2_with (at_builtin; refine wpList_append_lies (P := Try.prog) _ rfl _ _ 25 rfl w2.heap.size 3 i0 (.int .i64 0) 1 8 Try.underlying25 hi hz0 hz1 hz2 rfl (by decide) (.slice ax M cx) M (I8 (RR' k)) rfl (OX.alloc _) ⟨wr.heap.size, 0, none⟩ 1 1 [.int .i64 i] rfl rfl (row_new wr #[.int .i64 i] 3).news (fun u hu => by simp at hu; subst hu; rfl) (by decide) hml h8 hbs (wr.heap.size + 1) (by simp) ?_)
                intro gg cc w5 O5 G5 hat hlt5
                have hne : ∀ q, (Value.slice (some ⟨ga, 0, none⟩) n co).ownBlock = some q → ¬ (Value.slice ax M cx).ownBlock = some q := fun q hq e => owns_ne2 OX V2.outer (by decide) q hq e
                have ho1 := (Ext.of_grown G5).owns2 hne (V2.outer.alloc _)
                have cx1 : w5.cell? ⟨ga, k, none⟩ = some (.slice ax M cx) := (ho1.cellAt k (by omega)).trans (by rw [← HM.out]; exact HX.out)
                have fx1 : w5.frozen? ⟨ga, k, none⟩ = false := ho1.frozenAt k
                go_wp2_with fail
                go_roundw
                case measure => simp [intOf]; omega
                case rel =>
                  have hM := HM.out
                  subst hM
                  have hB5 := (B4.alloc (by have := B4.size; omega) (.cells #[.int .i64 i] 3)).grown G5 (by have := B4.size; simp; omega) (fun q hq => (OX.lt q hq).1)
                  refine ⟨j + 1, _, _, by go_num, by omega, (V2.below ((Below.refl _ wr).alloc (Nat.le_refl _) (.cells #[.int .i64 i] 3))).push hkn2 HX.out O5 (Ext.of_grown G5) ?_ rfl, hid ?_, Below.setCell hB5 (V2.outer.lt ga rfl).1 _⟩
                  · rcases hat with h | h
                    · exact .inl h
                    · have h : gg = wr.heap.size + 1 := h
                      exact .inr (by simp; omega)
                  · rw [TK.out]; exact T2.out.push hkn2
              · have hnn : nodeB n z = false := by
                  simp only [nodeB, Bool.and_eq_false_iff, decide_eq_false_iff_not]
                  omega
                have HT : Hid (Turn n L RR' i ((L i).take (j + 1))) := hid (by rw [TK.out]; exact T2.out.skip hnn)
                clear hnn
                by_cases hneg : z < 0
                · have hn0 : ¬ (0 ≤ z) := by omega
                  clear hnode
                  go_wp2_with fail
                  go_roundw
                  case measure => simp [intOf]; omega
                  case rel => exact ⟨j + 1, hs', RR', by go_num, by omega, V2, HT, B4⟩
                · have hn0 : 0 ≤ z := by omega
                  have hn1 : ¬ (z < (n : Int)) := by omega
                  clear hnode hneg
                  go_wp2_with fail
                  go_roundw
                  case measure => simp [intOf]; omega
                  case rel => exact ⟨j + 1, hs', RR', by go_num, by omega, V2, HT, B4⟩
            · obtain rfl : li = j := by omega
              go_wp2_with fail
              go_roundw
              case measure => simp [intOf]; omega
              case rel =>
                refine ⟨i + 1, hs', RR', by go_num, by omega, V2, hid ?_, B4⟩
                have := T2.out
                rw [← HIL.out, List.take_length] at this
                exact this.next hin (HL4.out i hin)
        · obtain rfl : n = i := by omega
          have HRev := hid T.out.rev
          have hlen : ∀ v, v < n → (RR v).length ≤ 1000000 := fun v hv => by
            have := T.out.len v hv
            simp at this
            omega
          have HLen := hid hlen
          clear hlen
          have hb3 := B3.size
          go_wp2_with fail
          refine (back_any ea n ec L wr (ED.below B3 (Nat.le_refl _)) (by omega)).mono ?_
          rintro e w4 ⟨ga, oa, rfl, hga, HOA, hgal, B4⟩
          have HOA := hid HOA
          have V4 := V.below B4
          have hb4 : wr.heap.size ≤ w4.heap.size := B4.size
          go_wp2_with fail
          refine (back_any ao n co RR w4 (V4.edges HLen.out) (by omega)).mono ?_
          rintro e w5 ⟨gb, ob, rfl, hgb, HOB, hgbl, B5⟩
          have HOB := hid HOB
          have V5 := V4.below B5
          have hb5 : w4.heap.size ≤ w5.heap.size := B5.size
          go_wp2_with fail
          refine (known20_any w5).mono ?_
          rintro e w6 ⟨rfl, B6⟩
          have V6 := V5.below B6
          have hb6 : w5.heap.size ≤ w6.heap.size := B6.size
          have B26 : Below w2.heap.size w2 w6 := ((B3.trans (B4.mono (by omega))).trans (B5.mono (by omega))).trans (B6.mono (by omega))
          go_wp2_with fail
          refine (parts_any ea n ec L w6 (ED.below B26 (Nat.le_refl _)) (by omega)).mono ?_
          rintro e w7 ⟨g1, p1, rfl, hp1, IP1, hg1, B7⟩
          have IP1 := hid IP1
          have V7 := V6.below B7
          have hb7 : w6.heap.size ≤ w7.heap.size := B7.size
          go_wp2_with fail
          refine (parts_any ao n co RR w7 (V7.edges HLen.out) (by omega)).mono ?_
          rintro e w8 ⟨g2, p2, rfl, hp2, IP2, hg2, B8⟩
          have IP2 := hid IP2
          have hb8 : w7.heap.size ≤ w8.heap.size := B8.size
          have hp18 := (B8.block g1 (lt_of_blk hp1)).trans hp1
          have hpe : (List.range n).map (fun v => (p1 v : Int)) = (List.range n).map (fun v => (p2 v : Int)) := by
            refine List.map_congr_left fun v hv => ?_
            rw [(IsPart.rev HRev.out IP1.out).unique IP2.out v (List.mem_range.1 hv)]
          have HPE := hid hpe
          clear hpe
          go_wp2_with fail
          refine (sameInts_any _ n n _ _ n n _ w8 (tab_row hp18) (tab_row hp2) (by simp) (by simp) (by omega)).mono ?_
          rintro e w9 ⟨r, rfl, hr, B9⟩
          obtain rfl : r = true := hr.2 HPE.out
          have hb9 : w8.heap.size ≤ w9.heap.size := B9.size
          have B29 : Below w2.heap.size w2 w9 := ((B26.trans (B7.mono (by omega))).trans (B8.mono (by omega))).trans (B9.mono (by omega))
          have la := lt_of_blk hga
          have lb := lt_of_blk hgb
          have ha9 := (B9.block ga (by omega)).trans ((B8.block ga (by omega)).trans ((B7.block ga (by omega)).trans ((B6.block ga (by omega)).trans ((B5.block ga la).trans hga))))
          have hb9' := (B9.block gb (by omega)).trans ((B8.block gb (by omega)).trans ((B7.block gb (by omega)).trans ((B6.block gb lb).trans hgb)))
          have HAB : Hid (∀ v, v < n → oa v = ob v) := hid (fun v hv => by
            have h1 := HOA.out v hv
            have h2 := HOB.out v hv
            have h3 : Lds (edgeE n L) v v ↔ Lds (edgeE n RR) v v := ⟨fun h => Lds.rev HRev.out h, fun h => Lds.rev HRev.out.symm h⟩
            cases e1 : oa v <;> cases e2 : ob v <;> simp_all)
          clear hp1 hp2 hp18 hga hgb V V4 V5 V6 V7 hr
          go_wp2_with fail
          go_loopw [87] (fun v wx => ∃ i : Nat, v = .int .i64 i ∧ i ≤ n ∧ Below w9.heap.size w9 wx) (fun v _ => n - (intOf v).toNat)
          case atStart => exact ⟨0, rfl, Nat.zero_le _, Below.refl _ _⟩
          case round =>
            obtain ⟨i, rfl, hi, BX⟩ := hrel
            by_cases hin2 : i < n
            · have i1 : (0 : Int) ≤ (i : Int) := by omega
              have i2 : (i : Int) < (n : Int) := by omega
              have ca := blk_cell ((BX.block ga (by omega)).trans ha9) (tabB_get hin2)
              have cb := blk_cell ((BX.block gb (by omega)).trans hb9') (tabB_get hin2)
              rw [HAB.out i hin2] at ca
              obtain ⟨β, hβ⟩ : ∃ β, ob i = β := ⟨_, rfl⟩
              rw [hβ] at ca cb
              clear hβ
              have S0 : wr.drew.cell? ⟨ga, i, none⟩ = some (.bool β) ∧ wr.drew.cell? ⟨gb, i, none⟩ = some (.bool β) := ⟨ca, cb⟩
              go_wp2_with fail
              go_region_held3 (fun w' => w'.cell? ⟨ga, i, none⟩ = some (.bool β) ∧ w'.cell? ⟨gb, i, none⟩ = some (.bool β)) (first | exact S0 | assumption) (fail)
              go_wp2_with fail
              go_roundw
              case measure => simp [intOf]; omega
              case rel => exact ⟨i + 1, by go_num, by omega, BX.drew⟩
            · obtain rfl : n = i := by omega
              go_wp2_with fail
              go_ret
              exact ⟨rfl, B02.trans ((B29.trans (BX.mono (by omega))).mono s02)⟩

end Go.Proofs.Ytfkooghdfidnpaa
