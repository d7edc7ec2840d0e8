/- lariatlaw20.leads: the walk -/
import Derived.Test.YtfkooghdfidnpaaLeads
open Go Go.RowKit
namespace Go.Proofs.Ytfkooghdfidnpaa
open Tj

set_option maxRecDepth 100000 in
set_option maxHeartbeats 4000000 in
theorem leads_any (ea : Option Addr) (n ec : Nat) (L : Nat → List Int) (a : Nat) (w : World) (hR : EdgesAt w ea n L) (hn : n ≤ 1000000) (ha : a < n) :
    Calls Try.prog 12 #[.slice ea n ec, .int .i64 a] w fun e w' => ∃ (gb : Nat) (f : Nat → Bool), e = .returned (.slice (some ⟨gb, 0, none⟩) n n) ∧ w'.heap[gb]? = some (.cells (tabB n f).toArray 4 (0, 0)) ∧ (∀ v, f v = true ↔ Lds (edgeE n L) a v) ∧ w.heap.size ≤ gb ∧ Below w.heap.size w w' := by
  have m2 := fun W => mkB hn W
  have hlE := edgeE_lt n L
  go_enter Try.func12, Try.ntmps12
  go_wp2_with fail
  obtain ⟨W, hW⟩ : ∃ W, w.alloc (.cells (tabB n fun _ => false).toArray 4) = W := ⟨_, rfl⟩
  rw [hW]
  have hb0 : W.heap[w.heap.size]? = some (.cells (tabB n fun _ => false).toArray 4 (0, 0)) := hW ▸ blk_new w _
  have BW : Below w.heap.size w W := hW ▸ (Below.refl _ w).alloc (Nat.le_refl _) _
  obtain ⟨gb, hgb⟩ : ∃ gb, w.heap.size = gb := ⟨_, rfl⟩
  rw [hgb] at hb0 ⊢
  have hgbw : w.heap.size ≤ gb := by omega
  have hEA : ∀ {wr}, Ext (fun q => q = gb) W wr → EdgesAt wr ea n L := fun {wr} X => hR.below (Below.ext BW X (fun i h => by omega) BW.size) (Nat.le_refl _)
  have HLE := hid hlE
  clear hW hgb m2 hlE
  go_loopw [6] (fun v wr => ∃ (r : Nat) (f : Nat → Bool), v = .int .i64 r ∧ r ≤ n + 1 ∧ wr.heap[gb]? = some (.cells (tabB n f).toArray 4 (0, 0)) ∧ Hid (Pass n (edgeE n L) a f r) ∧ Ext (fun q => q = gb) W wr) (fun v _ => n + 1 - (intOf v).toNat)
  case atStart => exact ⟨0, _, rfl, Nat.zero_le _, hb0, hid ⟨fun v h => by simp at h, .inr (Nat.zero_le _)⟩, Ext.refl _ _⟩
  case round =>
    obtain ⟨r, f0, rfl, hr, hb, HP, X⟩ := hrel
    by_cases hin : r ≤ n
    · go_wp2_with fail
      go_loopw [21] (fun v wr => ∃ (i : Nat) (f : Nat → Bool), v = .int .i64 i ∧ i ≤ n ∧ wr.heap[gb]? = some (.cells (tabB n f).toArray 4 (0, 0)) ∧ Hid (Mid (edgeE n L) a f0 f i) ∧ Ext (fun q => q = gb) W wr) (fun v _ => n - (intOf v).toNat)
      case atStart => exact ⟨0, f0, rfl, Nat.zero_le _, hb, hid (Mid.start HP.out.1), X⟩
      case round =>
        obtain ⟨i, f, rfl, hi, hb2, HM, X2⟩ := hrel
        by_cases hii : i < n
        · have hi1 : (0 : Int) ≤ (i : Int) := by omega
          have hi2 : (i : Int) < (n : Int) := by omega
          have cb : wr.cell? ⟨gb, i, none⟩ = some (.bool (f i)) := blk_cell hb2 (tabB_get hii)
          by_cases hskip : i ≠ a ∧ f i = false
          · obtain ⟨hs1, hs2⟩ := hskip
            have hne : ((i : Int) == (a : Int)) = false := by simp; omega
            have hnI : ¬ ((i : Int) = (a : Int)) := by omega
            have hnN : ¬ (i = a) := hs1
            rw [hs2] at cb
            have HS1 := hid hs1
            have HS2 := hid hs2
            clear hs1 hs2
            go_wp2_with fail
            go_roundw
            case measure => simp [intOf]; omega
            case rel => exact ⟨i + 1, f, by go_num, by omega, hb2, hid (HM.out.skip HS1.out HS2.out), X2⟩
          · have hia : i = a ∨ f i = true := by
              by_cases e : i = a
              · exact .inl e
              · right
                cases e2 : f i with
                | true => rfl
                | false => exact absurd ⟨e, e2⟩ hskip
            have HIA := hid hia
            have hgo : ((i : Int) == (a : Int)) = true ∨ f i = true := by rcases hia with e | e; left; simp [e]; right; exact e
            obtain ⟨ai, li, ci, hc, hI, hl⟩ := (hEA X2).row i hii
            have hixo := idx_at1 (P := Try.prog) (T := 22) Try.underlying22 (show (Try.prog.info? 25).map (·.size) = some 1 by kernel_rfl) (cap := ec) (fun _ => hR.nn (by omega)) hii
            have hixi := fun k (hk : k < li) => idx_at1 (P := Try.prog) (T := 25) Try.underlying25 szI (cap := ci) (fun _ => hI.row.nn (by simp; have := hI.len; omega)) hk
            have hne2 : ((i : Int) == (a : Int)) = false → f i = true := fun h => by rcases hgo with h2 | h2; rw [h] at h2; cases h2; exact h2
            have HNE2 := hid hne2
            have HIL := hid hI.len
            have HIW : ∀ wx, Ext (fun q => q = gb) W wx → IntsAt wx ai li ci (L i) := fun wx X4 => by
              obtain ⟨a0, l0, c0, hc0, hI0, hl0⟩ := hR.row i hii
              have B4 : Below w.heap.size w wx := Below.ext BW X4 (fun i h => by omega) BW.size
              have B2 : Below w.heap.size w wr := Below.ext BW X2 (fun i h => by omega) BW.size
              have hc2 := Below.cellAt B2 (lt_of_cell hc0) hc0
              rw [hc] at hc2
              cases hc2
              exact hI0.below B4 (Nat.le_refl _)
            clear hia hskip hgo hne2
            by_cases hia : i = a
            · subst hia
              go_wp2_with fail
              go_loopw [39] (fun v wr => ∃ (j : Nat) (f' : Nat → Bool), v = .int .i64 j ∧ j ≤ li ∧ wr.heap[gb]? = some (.cells (tabB n f').toArray 4 (0, 0)) ∧ Hid (Mid (edgeE n L) i f0 f' i) ∧ Hid (i = i ∨ f' i = true) ∧ Hid (∀ z ∈ (L i).take j, nodeB n z = true → f' z.toNat = true) ∧ Ext (fun q => q = gb) W wr) (fun v _ => li - (intOf v).toNat)
              case atStart => exact ⟨0, f, rfl, Nat.zero_le _, hb2, HM, hid (.inl rfl), hid (by simp), X2⟩
              case round =>
                obtain ⟨j, f', rfl, hj, hb3, HM3, HI3, HZ, X3⟩ := hrel
                by_cases hjl : j < li
                · have hjL : j < (L i).length := by rw [HIL.out]; exact hjl
                  have hcz : wr.cell? ⟨sB ai, sO ai + j, none⟩ = some (.int .i64 ((L i)[j]?.getD 0)) := by
                    have hI3 := HIW _ X3
                    exact hI3.row.num hjL
                  have hixj := hixi j hjl
                  have TK := take_succ_get hjL
                  have hmem : (L i)[j]?.getD 0 ∈ L i := by rw [List.getElem?_eq_getElem hjL]; exact List.getElem_mem _
                  obtain ⟨z, hz⟩ : ∃ z, (L i)[j]?.getD 0 = z := ⟨_, rfl⟩
                  rw [hz] at hcz TK hmem
                  have TK := hid TK
                  have HMEM := hid hmem
                  clear hz hjL hmem
                  by_cases hnode : 0 ≤ z ∧ z < (n : Int)
                  · obtain ⟨t, rfl⟩ : ∃ t : Nat, z = (t : Int) := ⟨z.toNat, by omega⟩
                    have htn : t < n := by omega
                    have hnb : nodeB n (t : Int) = true := by simp [nodeB]; omega
                    have HNB := hid hnb
                    have hz0 : (0 : Int) ≤ (t : Int) := by omega
                    have hz1 : (t : Int) < (n : Int) := by omega
                    have ct : wr.cell? ⟨gb, t, none⟩ = some (.bool (f' t)) := blk_cell hb3 (tabB_get htn)
                    have ft : wr.frozen? ⟨gb, t, none⟩ = false := blk_free hb3
                    clear hnode hnb
                    go_wp2_with fail
                    go_roundw
                    case measure => simp [intOf]; omega
                    case rel =>
                      refine ⟨j + 1, upd f' t true, by go_num, by omega, (blk_setCell hb3 _).trans (congrArg (fun c => some (Obj.cells c 4 (0, 0))) (tabB_set htn)), hid (HM3.out.set HI3.out ((mem_edgeE hii).2 ⟨_, HMEM.out, HNB.out, by simp⟩)), hid ?_, hid ?_, X3.setC rfl⟩
                      · rcases HI3.out with h | h
                        · first | exact .inl h | exact .inl trivial
                        · right; unfold upd; split
                          · rfl
                          · exact h
                      · rw [TK.out]
                        intro y hy hyn
                        rcases List.mem_append.1 hy with hy | hy
                        · unfold upd; split
                          · rfl
                          · exact HZ.out y hy hyn
                        · have e : y = (t : Int) := by simpa using hy
                          subst e
                          simp [upd]
                  · have hnn : nodeB n z = false := by
                      simp only [nodeB, Bool.and_eq_false_iff, decide_eq_false_iff_not]
                      omega
                    have HNN := hid hnn
                    have HZ2 : Hid (∀ y ∈ (L i).take (j + 1), nodeB n y = true → f' y.toNat = true) := (hid (by
                      rw [TK.out]
                      intro y hy hyn
                      rcases List.mem_append.1 hy with hy | hy
                      · exact HZ.out y hy hyn
                      · have e : y = z := by simpa using hy
                        subst e
                        rw [HNN.out] at hyn
                        cases hyn))
                    clear hnn
                    by_cases hneg : z < 0
                    · have hn0 : ¬ (0 ≤ z) := by omega
                      clear hnode
                      go_wp2_with fail
                      go_roundw
                      case measure => simp [intOf]; omega
                      case rel => exact ⟨j + 1, f', by go_num, by omega, hb3, HM3, hid (by first | exact HI3.out | exact .inl trivial), HZ2, X3⟩
                    · have hn0 : 0 ≤ z := by omega
                      have hn1 : ¬ (z < (n : Int)) := by omega
                      clear hnode hneg
                      go_wp2_with fail
                      go_roundw
                      case measure => simp [intOf]; omega
                      case rel => exact ⟨j + 1, f', by go_num, by omega, hb3, HM3, hid (by first | exact HI3.out | exact .inl trivial), HZ2, X3⟩
                · obtain rfl : j = li := by omega
                  go_wp2_with fail
                  go_roundw
                  case measure => simp [intOf]; omega
                  case rel =>
                    refine ⟨i + 1, f', by go_num, by omega, hb3, hid (HM3.out.next (fun t ht => ?_)), X3⟩
                    obtain ⟨y, h1, h2, h3⟩ := (mem_edgeE hii).1 ht
                    rw [← h3]
                    exact HZ.out y (by rw [← HIL.out, List.take_length]; exact h1) h2
            · have hne : ((i : Int) == (a : Int)) = false := by simp; omega
              rw [HNE2.out hne] at cb
              have hnI : ¬ ((i : Int) = (a : Int)) := by omega
              have hnN : ¬ (i = a) := hia
              have HIN := hid hia
              clear hia
              go_wp2_with fail
              go_loopw [39] (fun v wr => ∃ (j : Nat) (f' : Nat → Bool), v = .int .i64 j ∧ j ≤ li ∧ wr.heap[gb]? = some (.cells (tabB n f').toArray 4 (0, 0)) ∧ Hid (Mid (edgeE n L) a f0 f' i) ∧ Hid (i = a ∨ f' i = true) ∧ Hid (∀ z ∈ (L i).take j, nodeB n z = true → f' z.toNat = true) ∧ Ext (fun q => q = gb) W wr) (fun v _ => li - (intOf v).toNat)
              case atStart => exact ⟨0, f, rfl, Nat.zero_le _, hb2, HM, HIA, hid (by simp), X2⟩
              case round =>
                obtain ⟨j, f', rfl, hj, hb3, HM3, HI3, HZ, X3⟩ := hrel
                by_cases hjl : j < li
                · have hjL : j < (L i).length := by rw [HIL.out]; exact hjl
                  have hcz : wr.cell? ⟨sB ai, sO ai + j, none⟩ = some (.int .i64 ((L i)[j]?.getD 0)) := by
                    have hI3 := HIW _ X3
                    exact hI3.row.num hjL
                  have hixj := hixi j hjl
                  have TK := take_succ_get hjL
                  have hmem : (L i)[j]?.getD 0 ∈ L i := by rw [List.getElem?_eq_getElem hjL]; exact List.getElem_mem _
                  obtain ⟨z, hz⟩ : ∃ z, (L i)[j]?.getD 0 = z := ⟨_, rfl⟩
                  rw [hz] at hcz TK hmem
                  have TK := hid TK
                  have HMEM := hid hmem
                  clear hz hjL hmem
                  by_cases hnode : 0 ≤ z ∧ z < (n : Int)
                  · obtain ⟨t, rfl⟩ : ∃ t : Nat, z = (t : Int) := ⟨z.toNat, by omega⟩
                    have htn : t < n := by omega
                    have hnb : nodeB n (t : Int) = true := by simp [nodeB]; omega
                    have HNB := hid hnb
                    have hz0 : (0 : Int) ≤ (t : Int) := by omega
                    have hz1 : (t : Int) < (n : Int) := by omega
                    have ct : wr.cell? ⟨gb, t, none⟩ = some (.bool (f' t)) := blk_cell hb3 (tabB_get htn)
                    have ft : wr.frozen? ⟨gb, t, none⟩ = false := blk_free hb3
                    clear hnode hnb
                    go_wp2_with fail
                    go_roundw
                    case measure => simp [intOf]; omega
                    case rel =>
                      refine ⟨j + 1, upd f' t true, by go_num, by omega, (blk_setCell hb3 _).trans (congrArg (fun c => some (Obj.cells c 4 (0, 0))) (tabB_set htn)), hid (HM3.out.set HI3.out ((mem_edgeE hii).2 ⟨_, HMEM.out, HNB.out, by simp⟩)), hid ?_, hid ?_, X3.setC rfl⟩
                      · rcases HI3.out with h | h
                        · first | exact .inl h | exact .inl trivial
                        · right; unfold upd; split
                          · rfl
                          · exact h
                      · rw [TK.out]
                        intro y hy hyn
                        rcases List.mem_append.1 hy with hy | hy
                        · unfold upd; split
                          · rfl
                          · exact HZ.out y hy hyn
                        · have e : y = (t : Int) := by simpa using hy
                          subst e
                          simp [upd]
                  · have hnn : nodeB n z = false := by
                      simp only [nodeB, Bool.and_eq_false_iff, decide_eq_false_iff_not]
                      omega
                    have HNN := hid hnn
                    have HZ2 : Hid (∀ y ∈ (L i).take (j + 1), nodeB n y = true → f' y.toNat = true) := (hid (by
                      rw [TK.out]
                      intro y hy hyn
                      rcases List.mem_append.1 hy with hy | hy
                      · exact HZ.out y hy hyn
                      · have e : y = z := by simpa using hy
                        subst e
                        rw [HNN.out] at hyn
                        cases hyn))
                    clear hnn
                    by_cases hneg : z < 0
                    · have hn0 : ¬ (0 ≤ z) := by omega
                      clear hnode
                      go_wp2_with fail
                      go_roundw
                      case measure => simp [intOf]; omega
                      case rel => exact ⟨j + 1, f', by go_num, by omega, hb3, HM3, hid (by first | exact HI3.out | exact .inl trivial), HZ2, X3⟩
                    · have hn0 : 0 ≤ z := by omega
                      have hn1 : ¬ (z < (n : Int)) := by omega
                      clear hnode hneg
                      go_wp2_with fail
                      go_roundw
                      case measure => simp [intOf]; omega
                      case rel => exact ⟨j + 1, f', by go_num, by omega, hb3, HM3, hid (by first | exact HI3.out | exact .inl trivial), HZ2, X3⟩
                · obtain rfl : j = li := by omega
                  go_wp2_with fail
                  go_roundw
                  case measure => simp [intOf]; omega
                  case rel =>
                    refine ⟨i + 1, f', by go_num, by omega, hb3, hid (HM3.out.next (fun t ht => ?_)), X3⟩
                    obtain ⟨y, h1, h2, h3⟩ := (mem_edgeE hii).1 ht
                    rw [← h3]
                    exact HZ.out y (by rw [← HIL.out, List.take_length]; exact h1) h2
        · obtain rfl : n = i := by omega
          go_wp2_with fail
          go_roundw
          case measure => simp [intOf]; omega
          case rel => exact ⟨r + 1, f, by go_num, by omega, hb2, hid (HP.out.next HLE.out ha HM.out), X2⟩
    · obtain rfl : r = n + 1 := by omega
      go_wp2_with fail
      go_ret
      exact ⟨gb, f0, rfl, hb, HP.out.done, hgbw, Below.ext BW X (fun i h => by omega) BW.size⟩

end Go.Proofs.Ytfkooghdfidnpaa
