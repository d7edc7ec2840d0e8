/- lariatref13.turnRound -/
import Derived.Test.YtkflhmpecfckfaaTurnedW
import Derived.Deep.LoopGhost
import Derived.Deep.AppendLies
open Go Go.RowKit
namespace Go.Proofs.Ytkflhmpecfckfaa
open Tj

theorem madeS (n : Nat) : (madeCells #[Value.slice none 0 0] n) = (List.replicate n (Value.slice none 0 0)).toArray := by
  apply Array.toList_inj.1
  rw [toList_madeCells_one]
theorem mkR {n : Nat} (hn : n ≤ 1000000) (W : World) : (Instr.makeSlice 22 (.int .i64 (n : Int)) (.int .i64 (n : Int))).run Try.prog W = .ok (.slice (some ⟨W.heap.size, 0, none⟩) n n) (W.alloc (.cells (Array.replicate n (Value.slice none 0 0)) 29)) := by
  obtain ⟨i, hi, hz, hs, hb⟩ := info_parts iS
  have hr := run_make (P := Try.prog) W 22 29 i (.slice none 0 0) Try.underlying22 hi hz .i64 .i64 n n (by omega) (Int.le_refl _) (by rw [hb]; omega) (by omega)
  rw [hs] at hr
  simp only [Int.toNat_natCast, Nat.mul_one] at hr
  rw [hr]
  rw [← List.toArray_replicate, ← madeS]; rfl

set_option maxRecDepth 100000 in
set_option maxHeartbeats 8000000 in
theorem turnRound_any (ea : Option Addr) (n ec : Nat) (L : Nat → List Int) (w : World) (ED : EdgesAt w ea n L) (hL4 : ∀ v, v < n → (L v).length ≤ 4) (hn : n ≤ 30) :
    Calls Try.prog 16 #[.slice ea n ec] w fun e w' => ∃ ao co hs RR, e = .returned (.slice ao n co) ∧ RV w' w.heap.size (.slice ao n co) n hs RR ∧ Turn n L RR n [] ∧ Below w.heap.size w w' := by
  obtain ⟨i0, hi, hz0, hz1, hz2⟩ := info_parts iI
  have mk := fun W => mkR (n := n) (by omega) W
  have HL4 := hid hL4
  clear hL4
  go_enter Try.func16, Try.ntmps16
  go_wp2_with fail
  obtain ⟨W3, hW3⟩ : ∃ W3, w.alloc (.cells (Array.replicate n (Value.slice none 0 0)) 29) = W3 := ⟨_, rfl⟩
  have B : Below w.heap.size w W3 := by rw [← hW3]; exact (Below.refl _ _).alloc (Nat.le_refl _) _
  have OR : W3.ownsRow w.heap.size 29 1 (.slice (some ⟨w.heap.size, 0, none⟩) n n) n (List.replicate n (.slice none 0 0)) := by
    rw [← hW3, ← List.toArray_replicate]
    exact World.ownsRow_lit w (List.replicate n (Value.slice none 0 0)).toArray n (Nat.le_refl _) (by simp only [maxLen]; omega) (by simp)
  obtain ⟨ga, hga⟩ : ∃ ga, w.heap.size = ga := ⟨_, rfl⟩
  rw [hga] at OR ⊢
  try rw [hW3]
  have HGA := hid hga
  clear hW3 hga mk
  go_loopw [4] (fun v wr => ∃ (i : Nat) (hs : List Value) (RR : Nat → List Int), v = .int .i64 i ∧ i ≤ n ∧ RV wr ga (.slice (some ⟨ga, 0, none⟩) n n) n hs RR ∧ Hid (Turn n L RR i []) ∧ Below w.heap.size w wr) (fun v _ => n - (intOf v).toNat)
  case atStart => exact ⟨0, _, _, rfl, Nat.zero_le _, RV.start OR, hid (Turn.start _ _), B⟩
  case round =>
    obtain ⟨i, hs, RR, rfl, hi0, V, T, B3⟩ := hrel
    by_cases hin : i < n
    · have HROW : Hid (∃ ai li ci, (∀ wx, Below w.heap.size w wx → wx.cell? ⟨sB ea, sO ea + i, none⟩ = some (.slice ai li ci) ∧ IntsAt wx ai li ci (L i)) ∧ li = (L i).length) := hid (by
        obtain ⟨ai, li, ci, hc, hI, hl⟩ := ED.row i hin
        exact ⟨ai, li, ci, fun wx BX => ⟨Below.cellAt BX (lt_of_cell hc) hc, hI.below BX (Nat.le_refl _)⟩, hI.len.symm⟩)
      obtain ⟨ai, li, ci, hrow, hlen⟩ := HROW.out
      have HR := hid hrow
      have HIL := hid hlen.symm
      have hixo := idx_at1 (P := Try.prog) (T := 22) Try.underlying22 (show (Try.prog.info? 29).map (·.size) = some 1 by kernel_rfl) (cap := ec) (fun _ => ED.nn (by omega)) hin
      have hixi := fun k (hk : k < li) => idx_at1 (P := Try.prog) (T := 29) Try.underlying29 szI (cap := ci) (fun _ => (hrow w (Below.refl _ _)).2.row.nn (by simp; have := HIL.out; omega)) hk
      have hli4 : li ≤ 4 := by have := HL4.out i hin; omega
      clear hrow hlen HROW
      go_wp2_with fail
      go_loopw [5] (fun v wr => ∃ (j : Nat) (hs : List Value) (RR : Nat → List Int), v = .int .i64 j ∧ j ≤ li ∧ RV wr ga (.slice (some ⟨ga, 0, none⟩) n n) n hs RR ∧ Hid (Turn n L RR i ((L i).take j)) ∧ Below w.heap.size w wr) (fun v _ => li - (intOf v).toNat)
      case atStart => exact ⟨0, hs, RR, rfl, Nat.zero_le _, V, hid (by simpa using T.out), B3⟩
      case round =>
        obtain ⟨j, hs', RR', rfl, hj, V2, T2, B4⟩ := hrel
        have ch := (HR.out wr B4).1
        by_cases hjl : j < li
        · have hjL : j < (L i).length := by rw [HIL.out]; exact hjl
          have hcz := (HR.out _ B4).2.row.num hjL
          have hixj := hixi j hjl
          have TK := take_succ_get hjL
          obtain ⟨z, hz⟩ : ∃ z, (L i)[j]?.getD 0 = z := ⟨_, rfl⟩
          rw [hz] at hcz TK
          have TK := hid TK
          clear hz hjL
          by_cases hnode : 0 ≤ z ∧ z < (n : Int)
          · obtain ⟨k, rfl⟩ : ∃ k : Nat, z = (k : Int) := ⟨z.toNat, by omega⟩
            have hkn2 : k < n := by omega
            have kz0 : (0 : Int) ≤ (k : Int) := by omega
            have kz1 : (k : Int) < (n : Int) := by omega
            obtain ⟨x, hx, OX⟩ := V2.row k hkn2
            obtain ⟨ax, cx, rfl⟩ := owns_slice OX
            have HX := hid hx
            have hlr := T2.out.len k hkn2
            have hl4 := HL4.out i hin
            have htl : ((L i).take j).length ≤ 4 := Nat.le_trans (List.length_take_le' _ _) hl4
            have hlen104 : (RR' k).length ≤ 124 := by omega
            obtain ⟨M, hM⟩ : ∃ M, (RR' k).length = M := ⟨_, rfl⟩
            rw [hM] at OX hlen104 hx
            have HM := hid hM
            have cx0 : wr.cell? ⟨ga, k, none⟩ = some (.slice ax M cx) := (V2.outer.cellAt k (by omega)).trans hx
            have hbs : ga ≤ (wr.alloc (.cells #[.int .i64 i] 3)).heap.size := by have := B4.size; have := HGA.out; simp; omega
            have h8 : (M + 1) * 8 ≤ 140737488355328 := by omega
            have hml : M + 1 ≤ maxLen := by simp only [maxLen]; omega
            clear hnode hx hM hlr hl4 htl
            go_wp2_with (at_builtin; refine wpList_append_lies (P := Try.prog) _ rfl _ _ 29 rfl ga 3 i0 (.int .i64 0) 1 8 Try.underlying29 hi hz0 hz1 hz2 rfl (by decide) (.slice ax M cx) M (I8 (RR' k)) rfl (OX.alloc _) ⟨wr.heap.size, 0, none⟩ 1 1 [.int .i64 i] rfl rfl (row_new wr #[.int .i64 i] 3).news (fun u hu => by simp at hu; subst hu; rfl) (by decide) hml h8 hbs (wr.heap.size + 1) (by simp) ?_)
            intro gg cc w5 O5 G5 hat hlt5
            have hne : ∀ q, (Value.slice (some ⟨ga, 0, none⟩) n n).ownBlock = some q → ¬ (Value.slice ax M cx).ownBlock = some q := fun q hq e => owns_ne2 OX V2.outer (by decide) q hq e
            have ho1 := (Ext.of_grown G5).owns2 hne (V2.outer.alloc _)
            have cx1 : w5.cell? ⟨ga, k, none⟩ = some (.slice ax M cx) := (ho1.cellAt k (by omega)).trans (by rw [← HM.out]; exact HX.out)
            have fx1 : w5.frozen? ⟨ga, k, none⟩ = false := ho1.frozenAt k
            go_wp2_with fail
            go_roundw
            case measure => simp [intOf]; omega
            case rel =>
              have hM := HM.out
              subst hM
              have hB5 := (B4.alloc (by have := B4.size; omega) (.cells #[.int .i64 i] 3)).grown G5 (by have := B4.size; simp; omega) (fun q hq => by have := (OX.lt q hq).1; have := HGA.out; omega)
              refine ⟨j + 1, _, _, by go_num, by omega, (V2.below ((Below.refl _ wr).alloc (Nat.le_refl _) (.cells #[.int .i64 i] 3))).push hkn2 HX.out O5 (Ext.of_grown G5) ?_ rfl, hid ?_, Below.setCell hB5 (by show w.heap.size ≤ ga; have := HGA.out; omega) _⟩
              · rcases hat with h | h
                · exact .inl h
                · have h : gg = wr.heap.size + 1 := h
                  exact .inr (by simp; omega)
              · rw [TK.out]; exact T2.out.push hkn2
          · have hnn : nodeB n z = false := by
              simp only [nodeB, Bool.and_eq_false_iff, decide_eq_false_iff_not]
              omega
            have HT : Hid (Turn n L RR' i ((L i).take (j + 1))) := hid (by rw [TK.out]; exact T2.out.skip hnn)
            clear hnn
            by_cases hneg : z < 0
            · have hn0 : ¬ (0 ≤ z) := by omega
              clear hnode
              go_wp2_with fail
              go_roundw
              case measure => simp [intOf]; omega
              case rel => exact ⟨j + 1, hs', RR', by go_num, by omega, V2, HT, B4⟩
            · have hn0 : 0 ≤ z := by omega
              have hn1 : ¬ (z < (n : Int)) := by omega
              clear hnode hneg
              go_wp2_with fail
              go_roundw
              case measure => simp [intOf]; omega
              case rel => exact ⟨j + 1, hs', RR', by go_num, by omega, V2, HT, B4⟩
        · obtain rfl : li = j := by omega
          go_wp2_with fail
          go_roundw
          case measure => simp [intOf]; omega
          case rel =>
            refine ⟨i + 1, hs', RR', by go_num, by omega, V2, hid ?_, B4⟩
            have := T2.out
            rw [← HIL.out, List.take_length] at this
            exact this.next hin (HL4.out i hin)
    · obtain rfl : n = i := by omega
      go_wp2_with fail
      go_ret
      exact ⟨_, _, hs, RR, rfl, HGA.out ▸ V, T.out, B3⟩

end Go.Proofs.Ytkflhmpecfckfaa
