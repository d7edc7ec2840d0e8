/- lariatref13.Back: the walk -/
import Derived.Test.YtkflhmpecfckfaaPartsR
import Derived.Test.YtkflhmpecfckfaaBackW
open Go Go.RowKit
namespace Go.Proofs.Ytkflhmpecfckfaa
open Tj

/-- of the first numbers those that are nodes -/
def nodesOf (n : Nat) (l : List Int) : List Nat := (l.filter (nodeB n)).map Int.toNat
theorem nodesOf_yes {n t : Nat} {l : List Int} (h : t < n) : nodesOf n (l ++ [(t : Int)]) = nodesOf n l ++ [t] := by
  have : nodeB n (t : Int) = true := by simp [nodeB]; omega
  simp [nodesOf, this]
theorem nodesOf_no {n : Nat} {l : List Int} {z : Int} (h : nodeB n z = false) : nodesOf n (l ++ [z]) = nodesOf n l := by simp [nodesOf, h]
theorem nodesOf_all {n k : Nat} {L : Nat → List Int} (hk : k < n) : nodesOf n (L k) = edgeE n L k := by
  unfold nodesOf edgeE
  rw [if_pos hk]

set_option maxRecDepth 100000 in
set_option maxHeartbeats 8000000 in
theorem backR_any (ea : Option Addr) (n ec : Nat) (L : Nat → List Int) (w : World) (hR : EdgesAt w ea n L) (hL4 : ∀ v, v < n → (L v).length ≤ 4) (hn : n ≤ 30) :
    Calls Try.prog 8 #[.slice ea n ec] w fun e w' => ∃ (gb : Nat) (o : Nat → Bool), e = .returned (.slice (some ⟨gb, 0, none⟩) n n) ∧ w'.heap[gb]? = some (.cells (tabB n o).toArray 4 (0, 0)) ∧ (∀ i, i < n → (o i = true ↔ Lds (edgeE n L) i i)) ∧ w.heap.size ≤ gb ∧ Below w.heap.size w w' := by
  have m2 := fun W => mkB (n := n) (by omega) W
  have PR := partsR_any ea n ec L w hR hL4 hn
  have HL4 := hid hL4
  clear hL4
  go_enter Try.func8, Try.ntmps8
  go_wp2_with fail
  refine PR.mono ?_
  rintro e w1 ⟨gp, p, rfl, hp, IP, hgp, B1⟩
  have IP := hid IP
  have hgl := lt_of_blk hp
  clear PR
  go_wp2_with fail
  obtain ⟨W, hW⟩ : ∃ W, w1.alloc (.cells (tabB n fun _ => false).toArray 4) = W := ⟨_, rfl⟩
  rw [hW]
  have hb0 : W.heap[w1.heap.size]? = some (.cells (tabB n fun _ => false).toArray 4 (0, 0)) := hW ▸ blk_new w1 _
  have hp0 : W.heap[gp]? = some (.cells (tab n p).toArray 3 (0, 0)) := hW ▸ blk_old _ hp
  have BW : Below w.heap.size w W := hW ▸ B1.alloc B1.size _
  obtain ⟨gb, hgb⟩ : ∃ gb, w1.heap.size = gb := ⟨_, rfl⟩
  rw [hgb] at hb0 ⊢
  have hne : gp ≠ gb := by omega
  have hgbw : w.heap.size ≤ gb := by have := B1.size; omega
  have HROW : Hid (∀ i, i < n → ∃ ai li ci, (∀ wx, Below w.heap.size w wx → wx.cell? ⟨sB ea, sO ea + i, none⟩ = some (.slice ai li ci) ∧ IntsAt wx ai li ci (L i)) ∧ li = (L i).length) := hid (fun i hi => by
    obtain ⟨ai, li, ci, hc, hI, hl⟩ := hR.row i hi
    exact ⟨ai, li, ci, fun wx BX => ⟨Below.cellAt BX (lt_of_cell hc) hc, hI.below BX (Nat.le_refl _)⟩, hI.len.symm⟩)
  have hnn := hR.nn
  have hb0 := hid hb0
  have hp0 := hid hp0
  clear hW hgb m2 hgl hp hR
  go_loopw [5] (fun v wr => ∃ (k : Nat) (o : Nat → Bool), v = .int .i64 k ∧ k ≤ n ∧ Hid (wr.heap[gb]? = some (.cells (tabB n o).toArray 4 (0, 0))) ∧ Hid (wr.heap[gp]? = some (.cells (tab n p).toArray 3 (0, 0))) ∧ Hid (Outs n (edgeE n L) p o k []) ∧ Below w.heap.size w wr) (fun v _ => n - (intOf v).toNat)
  case atStart => exact ⟨0, _, rfl, Nat.zero_le _, hb0, hp0, hid (Outs.start _ _ _), BW⟩
  case round =>
    clear hb0 hp0 BW
    obtain ⟨k, o, rfl, hk, HB, HP, HO, B⟩ := hrel
    by_cases hin : k < n
    · obtain ⟨ai, li, ci, hrow, hlen⟩ := HROW.out k hin
      have HR := hid hrow
      have HIL := hid hlen.symm
      have hli4 : li ≤ 4 := by have := HL4.out k hin; omega
      have hixo := idx_at1 (P := Try.prog) (T := 22) Try.underlying22 (show (Try.prog.info? 29).map (·.size) = some 1 by kernel_rfl) (cap := ec) (fun _ => hnn (by omega)) hin
      have hixi := fun k (hk : k < li) => idx_at1 (P := Try.prog) (T := 29) Try.underlying29 szI (cap := ci) (fun _ => (hrow w (Below.refl _ _)).2.row.nn (by simp; have := HIL.out; omega)) hk
      clear hrow hlen
      have k1 : (0 : Int) ≤ (k : Int) := by omega
      have k2 : (k : Int) < (n : Int) := by omega
      go_wp2_with fail
      go_loopw [6] (fun v wx => ∃ (j : Nat) (o' : Nat → Bool), v = .int .i64 j ∧ j ≤ li ∧ Hid (wx.heap[gb]? = some (.cells (tabB n o').toArray 4 (0, 0))) ∧ Hid (wx.heap[gp]? = some (.cells (tab n p).toArray 3 (0, 0))) ∧ Hid (Outs n (edgeE n L) p o' k (nodesOf n ((L k).take j))) ∧ Below w.heap.size w wx) (fun v _ => li - (intOf v).toNat)
      case atStart => exact ⟨0, o, rfl, Nat.zero_le _, HB, HP, hid (by simpa [nodesOf] using HO.out), B⟩
      case round =>
        clear HB HP HO B
        obtain ⟨j, o', rfl, hj, HB, HP, HO, B⟩ := hrel
        have ch := (HR.out wr B).1
        by_cases hjl : j < li
        · have hjL : j < (L k).length := by rw [HIL.out]; exact hjl
          have hcz := (HR.out _ B).2.row.num hjL
          have hixj := hixi j hjl
          have TK := take_succ_get hjL
          obtain ⟨z, hz⟩ : ∃ z, (L k)[j]?.getD 0 = z := ⟨_, rfl⟩
          rw [hz] at hcz TK
          have TK := hid TK
          have j1 : (0 : Int) ≤ (j : Int) := by omega
          clear hz hjL
          by_cases hnode : 0 ≤ z ∧ z < (n : Int)
          · obtain ⟨t, rfl⟩ : ∃ t : Nat, z = (t : Int) := ⟨z.toNat, by omega⟩
            have htn : t < n := by omega
            have t0 : (0 : Int) ≤ (t : Int) := by omega
            have t1 : (t : Int) < (n : Int) := by omega
            have ct := blk_cell HP.out (tab_get htn)
            have ck := blk_cell HP.out (tab_get hin)
            clear hnode
            by_cases hpe : p t = p k
            · rw [hpe] at ct
              have HPE := hid hpe
              have he1 : ((p k : Int) == (p k : Int)) = true := by simp
              have hd : decide ((0 : Int) ≤ (t : Int)) = true := by simp
              have cb := blk_cell HB.out (tabB_get hin)
              have fb : wr.frozen? ⟨gb, k, none⟩ = false := blk_free HB.out
              have cb : wr.cell? ⟨gb, k, none⟩ = some (val wr gb k) := has_of cb
              have hb2 := hid ((blk_setCell HB.out (.bool true) (o := k)).trans (congrArg (fun c => some (Obj.cells c 4 (0, 0))) (tabB_set (x := true) hin)))
              have hp2 := hid ((Below.heap_setCell wr ⟨gb, k, none⟩ (.bool true) gp (by show ¬ gp = gb; exact hne)).trans HP.out)
              clear hpe
              go_wp2_with fail
              go_quiet (fail)
              go_wp2_with fail
              go_roundw
              case measure => simp [intOf]; omega
              case rel => exact ⟨j + 1, upd o' k true, by go_num, by omega, hb2, hp2, hid (by rw [TK.out, nodesOf_yes htn]; exact HO.out.hit HPE.out), Below.drewN (Below.setCell B (by show w.heap.size ≤ gb; exact hgbw) _) _⟩
            · have he1 : ((p t : Int) == (p k : Int)) = false := by simp; omega
              have HPE := hid hpe
              clear hpe
              go_wp2_with fail
              go_quiet (fail)
              go_wp2_with fail
              go_roundw
              case measure => simp [intOf]; omega
              case rel => exact ⟨j + 1, o', by go_num, by omega, HB, HP, hid (by rw [TK.out, nodesOf_yes htn]; exact HO.out.miss HPE.out), Below.drewN B _⟩
          · have hnb : nodeB n z = false := by
              simp only [nodeB, Bool.and_eq_false_iff, decide_eq_false_iff_not]
              omega
            have HNN := hid hnb
            clear hnb
            by_cases hneg : z < 0
            · have hn0 : ¬ (0 ≤ z) := by omega
              have hd : decide (0 ≤ z) = false := by simp; omega
              clear hnode
              go_wp2_with fail
              go_quiet (fail)
              go_wp2_with fail
              go_roundw
              case measure => simp [intOf]; omega
              case rel => exact ⟨j + 1, o', by go_num, by omega, HB, HP, hid (by rw [TK.out, nodesOf_no HNN.out]; exact HO.out), Below.drewN B _⟩
            · have hn0 : 0 ≤ z := by omega
              have hn1 : ¬ (z < (n : Int)) := by omega
              have hd : decide (0 ≤ z) = true := by simp; omega
              have hd1 : decide (z < (n : Int)) = false := by simp; omega
              clear hnode hneg
              go_wp2_with fail
              go_quiet (fail)
              go_wp2_with fail
              go_roundw
              case measure => simp [intOf]; omega
              case rel => exact ⟨j + 1, o', by go_num, by omega, HB, HP, hid (by rw [TK.out, nodesOf_no HNN.out]; exact HO.out), Below.drewN B _⟩
        · obtain rfl : li = j := by omega
          go_wp2_with fail
          go_roundw
          case measure => simp [intOf]; omega
          case rel =>
            refine ⟨k + 1, o', by go_num, by omega, HB, HP, hid ?_, B⟩
            have := HO.out
            rw [← HIL.out, List.take_length, nodesOf_all hin] at this
            exact this.next
    · obtain rfl : n = k := by omega
      go_wp2_with fail
      go_ret
      refine ⟨gb, o, rfl, HB.out, fun i hi => ?_, hgbw, B⟩
      rw [HO.out.old i hi]
      exact back_iff (edgeE_lt n L) IP.out hi

end Go.Proofs.Ytkflhmpecfckfaa
