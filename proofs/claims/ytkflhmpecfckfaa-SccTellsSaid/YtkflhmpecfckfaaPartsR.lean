/- lariatref13.Parts: the walk -/
import Derived.Test.YtkflhmpecfckfaaPartsB
import Derived.Deep.DeepCutAuto
import Derived.Deep.CutBlock
open Go Go.RowKit
namespace Go.Proofs.Ytkflhmpecfckfaa
open Tj

set_option maxRecDepth 100000 in
set_option maxHeartbeats 16000000 in
theorem partsR_any (ea : Option Addr) (n ec : Nat) (L : Nat → List Int) (w : World) (hR : EdgesAt w ea n L) (hL4 : ∀ v, v < n → (L v).length ≤ 4) (hn : n ≤ 30) :
    Calls Try.prog 11 #[.slice ea n ec] w fun e w' => ∃ (gp : Nat) (p : Nat → Nat), e = .returned (.slice (some ⟨gp, 0, none⟩) n n) ∧ w'.heap[gp]? = some (.cells (tab n p).toArray 3 (0, 0)) ∧ IsPart n (edgeE n L) p ∧ w.heap.size ≤ gp ∧ Below w.heap.size w w' := by
  obtain ⟨i0, hi, hz0, hz1, hz2⟩ := info_parts iI
  have m1 := fun W => mkI (n := n) (by omega) W
  have m2 := fun W => mkB (n := n) (by omega) W
  have HL4 := hid hL4
  clear hL4
  go_enter Try.func11, Try.ntmps11
  go_upto_block 0 with fail
  obtain ⟨W, hW⟩ : ∃ W, w.alloc (.cells (tabB n fun _ => false).toArray 4) = W := ⟨_, rfl⟩
  rw [hW]
  have hb0 : W.heap[w.heap.size]? = some (.cells (tabB n fun _ => false).toArray 4 (0, 0)) := hW ▸ blk_new w _
  have BW : Below w.heap.size w W := hW ▸ (Below.refl _ w).alloc (Nat.le_refl _) _
  obtain ⟨gm, hgm⟩ : ∃ gm, w.heap.size = gm := ⟨_, rfl⟩
  rw [hgm] at hb0 ⊢
  have hgmw : w.heap.size ≤ gm := by omega
  have hgmW : gm < W.heap.size := lt_of_blk hb0
  obtain ⟨Bm, hBm⟩ : ∃ Bm, W.heap.size = Bm := ⟨_, rfl⟩
  rw [hBm] at hgmW
  have hBW : Bm ≤ W.heap.size := by omega
  clear hW hgm hBm
  go_cut [5] (fun lv W' => ∃ (left : List Nat), Hid (Tj.Left n (edgeE n L) left) ∧ Hid (W'.ownsRow Bm 3 1 lv left.length (I8 (left.map Int.ofNat))) ∧ Hid (Below w.heap.size w W'))
  case first =>
    go_wp2_with fail
    go_loopw [5, 6] (fun lv' v wr => ∃ (i : Nat) (met : Nat → Bool) (left : List Nat) (lv : Value), lv = lv' ∧ v = .int .i64 i ∧ i ≤ n ∧ Hid (K1 n (edgeE n L) (DD n L) met left []) ∧ Hid (∀ v, v < i → met v = true) ∧ wr.heap[gm]? = some (.cells (tabB n met).toArray 4 (0, 0)) ∧ wr.ownsRow Bm 3 1 lv left.length (I8 (left.map Int.ofNat)) ∧ Below w.heap.size w wr ∧ Bm ≤ wr.heap.size) (fun _ v _ => n - (intOf v).toNat)
    case atStart => exact ⟨0, _, [], _, rfl, rfl, Nat.zero_le _, hid K1.start, hid (fun v hv => by omega), hb0, World.ownsRow_nil _ _ _ _, BW, hBW⟩
    case round =>
      clear hb0 BW hBW
      obtain ⟨i, met, left, lv, rfl, rfl, hin, HK, HM, hbm, OL, B, hsz⟩ := hrel
      by_cases hii : i < n
      · have i1 : (0 : Int) ≤ (i : Int) := by omega
        have i2 : (i : Int) < (n : Int) := by omega
        have cb : wr.cell? ⟨gm, i, none⟩ = some (.bool (met i)) := blk_cell hbm (tabB_get hii)
        cases hmi : met i with
        | true =>
          rw [hmi] at cb
          have HM2 : Hid (∀ v, v < i + 1 → met v = true) := hid (fun v hv => by
            by_cases e : v = i
            · rw [e]; exact hmi
            · exact HM.out v (by omega))
          clear hmi
          go_wp2_with fail
          go_roundw
          case measure => simp [intOf]; omega
          case rel => exact ⟨i + 1, met, left, lv, rfl, by go_num, by omega, HK, HM2, hbm, OL, B, hsz⟩
        | false =>
          rw [hmi] at cb
          have fb : wr.frozen? ⟨gm, i, none⟩ = false := blk_free hbm
          have KE := hid (HK.out.enter (DD.edg n L) hmi hii (fun b hb => by cases hb))
          have HM2 : Hid (∀ v, v < i + 1 → upd met i true v = true) := hid (fun v hv => by
            by_cases e : v = i
            · rw [e]; exact upd_same _ _ _
            · exact upd_true (HM.out v (by omega)))
          have hbm2 := (blk_setCell hbm (.bool true) (o := i)).trans (congrArg (fun c => some (Obj.cells c 4 (0, 0))) (tabB_set (x := true) hii))
          have B2 : Below w.heap.size w (wr.setCell ⟨gm, i, none⟩ (.bool true)) := Below.setCell B hgmw _
          have OL2 := ownsRow_setCell_below OL (show Addr.block ⟨gm, i, none⟩ < Bm from hgmW) (.bool true)
          have RT := hid (R3.root (i := i) OL2 (by simpa using hsz))
          have PP : P1 w (((wr.setCell ⟨gm, i, none⟩ (.bool true)).alloc (.cells #[.int .i64 (i : Int)] 3)).alloc (.cells #[.int .i64 0] 3)) Bm gm n L lv (.slice (some ⟨wr.heap.size, 0, none⟩) 1 1) (.slice (some ⟨wr.heap.size + 1, 0, none⟩) 1 1) (upd met i true) left [(i, 0)] :=
            ⟨by simpa using RT.out, blk_old _ (blk_old _ hbm2), KE.out, fun p hp => by obtain rfl := List.mem_singleton.1 hp; exact Nat.zero_le _, (B2.alloc (by have := B.size; simpa using this) _).alloc (by have := B.size; simp; omega) _, hgmw, hgmW, by simp; omega⟩
          have PP := hid PP
          obtain ⟨met0, hmet0⟩ : ∃ f, upd met i true = f := ⟨_, rfl⟩
          rw [hmet0] at PP HM2
          clear hmi KE RT B2 OL2 hbm2 hmet0
          go_wp2_with fail
          go_loopg [5, 7, 8] (mq n L met0 [(i, 0)]) (fun q lv' wv' gv' wx => ∃ (met : Nat → Bool) (left : List Nat) (way : List (Nat × Nat)) (lv wv gv : Value), lv = lv' ∧ wv = wv' ∧ gv = gv' ∧ Hid (mq n L met way = q) ∧ Hid (P1 w wx Bm gm n L lv wv gv met left way) ∧ Hid (∀ v, v < i + 1 → met v = true))
          case atStart => exact ⟨met0, left, [(i, 0)], _, _, _, rfl, rfl, rfl, hid rfl, PP, HM2⟩
          case round =>
            clear PP HM2 hbm OL B hsz cb fb HK HM i1 i2 m1 m2
            obtain ⟨met1, left1, way1, lv1, wv1, gv1, rfl, rfl, rfl, HQ, P, HM2⟩ := hrel
            cases way1 with
            | nil =>
              have OW := P.out.r3.ow
              obtain ⟨pa, pc, rfl⟩ := owns_slice OW
              clear OW
              go_wp2_with fail
              go_roundw
              case measure => simp [intOf]; omega
              case rel => exact ⟨i + 1, met1, left1, _, rfl, by go_num, by omega, hid P.out.k1, HM2, P.out.bm, P.out.r3.ol, P.out.below, P.out.sz⟩
            | cons p r =>
              obtain ⟨k, g⟩ := p
              obtain ⟨gw, cw, rfl, hcw⟩ := owns_some P.out.r3.ow (by simp)
              obtain ⟨gg, cg, rfl, hcg⟩ := owns_some P.out.r3.og (by simp)
              simp only [List.map_cons, List.length_cons, List.length_map] at hcw hcg P ⊢
              have OW : wr.ownsRow Bm 3 1 (.slice (some ⟨gw, 0, none⟩) ((r.map Prod.fst).length + 1) cw) ((r.map Prod.fst).length + 1) (I8 (stkRow (k :: r.map Prod.fst))) := by simpa using P.out.r3.ow
              have OG : wr.ownsRow Bm 3 1 (.slice (some ⟨gg, 0, none⟩) ((r.map Prod.snd).length + 1) cg) ((r.map Prod.snd).length + 1) (I8 (stkRow (g :: r.map Prod.snd))) := by simpa using P.out.r3.og
              have ck := stk_top OW
              have cgk := stk_top OG
              have fg := OG.frozenAt r.length
              simp only [List.length_map] at ck cgk
              have hkn : k < n := P.out.k1.lt k ((P.out.k1.mt k).2 (.inr (by simp)))
              have hgl := P.out.le (k, g) List.mem_cons_self
              have hl4 := HL4.out k hkn
              have hwl := P.out.wayLen
              have hnb : ∀ b, b < Bm → b ≠ gg := fun b hb => by have := (OG.lt gg rfl).1; omega
              simp only [List.length_cons] at hwl hgl
              obtain ⟨ak, lk, cak, hck, hik, hlk⟩ := (hR.below P.out.below (Nat.le_refl _)).row k hkn
              have HLK := hid hik.len
              have hixo := idx_at1 (P := Try.prog) (T := 22) Try.underlying22 (show (Try.prog.info? 29).map (·.size) = some 1 by kernel_rfl) (cap := ec) (fun _ => hR.nn (by omega)) hkn
              obtain ⟨M, hM⟩ : ∃ M, r.length = M := ⟨_, rfl⟩
              obtain ⟨Ln, hLn⟩ : ∃ Ln, left1.length = Ln := ⟨_, rfl⟩
              have HMr := hid hM
              have HLn := hid hLn
              rw [hM] at ck cgk fg hcw hcg hwl
              rw [hM]
              rw [hLn] at hwl
              have hMn : M ≤ 30 := by omega
              have hLn30 : Ln ≤ 30 := by omega
              have hg4 : g ≤ 4 := by omega
              have OG := hid OG
              have OWh := hid OW
              clear OW hM hLn hwl
              have hM1 : (0 : Int) ≤ (M : Int) := by omega
              have hM2 : (M : Int) < ((M + 1 : Nat) : Int) := by omega
              have hM3 : (M : Int) < (M : Int) + 1 := by omega
              have S0 : wr.drew.cell? ⟨gg, M, none⟩ = some (.int .i64 (g : Int)) ∧ wr.drew.cell? ⟨sB ea, sO ea + k, none⟩ = some (.slice ak lk cak) := ⟨cgk, hck⟩
              have PD := hid (P.out.to ((Below.refl _ wr).drew))
              have cgD : wr.drew.cell? ⟨gg, M, none⟩ = some (.int .i64 (g : Int)) := cgk
              have ceD : wr.drew.cell? ⟨sB ea, sO ea + k, none⟩ = some (.slice ak lk cak) := hck
              have hrowD : Hid (IntsAt wr.drew ak lk cak (L k)) := hid (hik.below ((Below.refl _ wr).drew) (Nat.le_refl _))
              have fgD : wr.drew.frozen? ⟨gg, M, none⟩ = false := fg
              by_cases hgk : g = lk
              · subst hgk
                go_wp2_with fail
                go_region_held3 (fun w' => w'.cell? ⟨gg, M, none⟩ = some (.int .i64 (g : Int)) ∧ w'.cell? ⟨sB ea, sO ea + k, none⟩ = some (.slice ak g cak)) (first | exact S0 | assumption) (fail)
                rename_i hHeld
                clear S0 hHeld ck cgk fg hck hik
                obtain ⟨w2, hw2⟩ : ∃ x, wr.drew = x := ⟨_, rfl⟩
                rw [hw2] at PD ⊢
                clear hw2 cgD ceD hrowD fgD P OG OWh
                have OL2 : w2.ownsRow Bm 3 1 lv1 Ln (I8 (left1.map Int.ofNat)) := HLn.out ▸ PD.out.r3.ol
                have hs2 := PD.out.sz
                have hbs : Bm ≤ (w2.alloc (.cells #[.int .i64 k] 3)).heap.size := by simp; omega
                have h8 : (Ln + 1) * 8 ≤ 140737488355328 := by omega
                have hml : Ln + 1 ≤ maxLen := by simp only [maxLen]; omega
                go_wp2_with (at_builtin; refine wpList_append_lies (P := Try.prog) (w := w2.alloc (.cells #[.int .i64 k] 3)) rfl _ _ 29 rfl Bm 3 i0 (.int .i64 0) 1 8 Try.underlying29 hi hz0 hz1 hz2 rfl (by decide) lv1 Ln (I8 (left1.map Int.ofNat)) rfl (OL2.alloc _) ⟨w2.heap.size, 0, none⟩ 1 1 [.int .i64 k] rfl rfl (row_new w2 #[.int .i64 k] 3).news (fun u hu => by simp at hu; subst hu; rfl) (by decide) hml h8 hbs (w2.heap.size + 1) (by simp) ?_)
                intro g7 c7 w6 O6 G6 hat hlt6
                go_wp2_with fail
                go_roundg (mq n L met1 r)
                case measure => have h5 := HQ.out; have h6 := mq_leave (n := n) (L := L) (met := met1) (k := k) (g := g) (r := r); omega
                case rel =>
                  have hM := HMr.out
                  have hL := HLn.out
                  subst hM
                  subst hL
                  refine ⟨met1, left1 ++ [k], r, _, _, _, rfl, rfl, rfl, hid rfl, hid (PD.out.leave HLK.out.symm (by simpa [I8] using O6) G6 ?_), HM2⟩
                  rcases hat with h | h
                  · exact .inl h
                  · exact .inr h
              · have hne : ((g : Int) == (lk : Int)) = false := by simp; omega
                have hgL : g < (L k).length := by have := HLK.out; omega
                have hglk : g < lk := by have := HLK.out; omega
                have HGL := hid hgL
                go_wp2_with fail
                go_region_held3 (fun w' => w'.cell? ⟨gg, M, none⟩ = some (.int .i64 (g : Int)) ∧ w'.cell? ⟨sB ea, sO ea + k, none⟩ = some (.slice ak lk cak)) (first | exact S0 | assumption) (fail)
                rename_i hHeld
                clear S0 hHeld ck cgk fg hck hik hgk hne P OG OWh
                obtain ⟨w2, hw2⟩ : ∃ x, wr.drew = x := ⟨_, rfl⟩
                rw [hw2] at PD cgD ceD fgD hrowD ⊢
                clear hw2 OG hl4 hlk
                have hixi := idx_at1 (P := Try.prog) (T := 29) Try.underlying29 szI (cap := cak) (fun _ => hrowD.out.row.nn (by simp; omega)) hglk
                have hcz := hrowD.out.row.num hgL
                have hzm : (L k)[g]? = some ((L k)[g]?.getD 0) := by rw [List.getElem?_eq_getElem hgL]; rfl
                obtain ⟨z, hz⟩ : ∃ z, (L k)[g]?.getD 0 = z := ⟨_, rfl⟩
                rw [hz] at hcz hzm
                have HZ := hid hzm
                have S2 : w2.drew.cell? ⟨gg, M, none⟩ = some (.int .i64 (g : Int)) ∧ w2.drew.cell? ⟨sB ea, sO ea + k, none⟩ = some (.slice ak lk cak) ∧ w2.drew.cell? ⟨sB ak, sO ak + g, none⟩ = some (.int .i64 z) := ⟨cgD, ceD, hcz⟩
                have P3 := hid (PD.out.to ((Below.refl _ w2).drew))
                have cg3 : w2.drew.cell? ⟨gg, M, none⟩ = some (.int .i64 (g : Int)) := cgD
                have fg3 : w2.drew.frozen? ⟨gg, M, none⟩ = false := fgD
                clear hz hzm hgL hrowD
                go_wp2_with fail
                go_region_held3 (fun w' => w'.cell? ⟨gg, M, none⟩ = some (.int .i64 (g : Int)) ∧ w'.cell? ⟨sB ea, sO ea + k, none⟩ = some (.slice ak lk cak) ∧ w'.cell? ⟨sB ak, sO ak + g, none⟩ = some (.int .i64 z)) (first | exact S2 | assumption) (fail)
                rename_i hHeld
                clear S2 hHeld cgD ceD fgD hcz PD
                obtain ⟨w3, hw3⟩ : ∃ x, w2.drew = x := ⟨_, rfl⟩
                rw [hw3] at P3 cg3 fg3 ⊢
                clear hw3
                have hg1 : (0 : Int) ≤ (g : Int) := by omega
                have hgw : wrap64 ((g : Int) + 1) = (g : Int) + 1 := by unfold wrap64; omega
                clear hixo hixi
                have hbm3 := P3.out.bm
                have hgmgg : gm ≠ gg := hnb gm hgmW
                have hbm4 : (w3.setCell ⟨gg, M, none⟩ (.int .i64 ((g : Int) + 1))).heap[gm]? = some (.cells (tabB n met1).toArray 4 (0, 0)) := (Below.heap_setCell _ _ _ _ (by show ¬ gm = gg; exact hgmgg)).trans hbm3
                have HB := hid hbm4
                clear hbm3 hbm4
                by_cases hnode : 0 ≤ z ∧ z < (n : Int)
                · obtain ⟨t, rfl⟩ : ∃ t : Nat, z = (t : Int) := ⟨z.toNat, by omega⟩
                  have htn : t < n := by omega
                  have hz0' : (0 : Int) ≤ (t : Int) := by omega
                  have hz1' : (t : Int) < (n : Int) := by omega
                  have ct := blk_cell HB.out (tabB_get htn)
                  have ft : (w3.setCell ⟨gg, M, none⟩ (.int .i64 ((g : Int) + 1))).frozen? ⟨gm, t, none⟩ = false := blk_free HB.out
                  clear hnode
                  cases hmt : met1 t with
                  | true =>
                    rw [hmt] at ct
                    have HMT := hid hmt
                    clear hmt
                    go_wp2_with fail
                    go_roundg (mq n L met1 ((k, g + 1) :: r))
                    case measure => have h5 := HQ.out; have h6 := mq_bump (n := n) (met := met1) (r := r) HGL.out; omega
                    case rel =>
                      have hM := HMr.out
                      subst hM
                      refine ⟨met1, left1, (k, g + 1) :: r, _, _, _, rfl, rfl, rfl, hid rfl, hid (P3.out.bump HGL.out (fun u h => ?_)), HM2⟩
                      rcases DD.next HZ.out h with h | ⟨_, h⟩
                      · exact .inl h
                      · refine .inr ?_
                        rw [← h]
                        exact HMT.out
                  | false =>
                    rw [hmt] at ct
                    have HMT := hid hmt
                    clear hmt
                    have R5 := hid (P3.out.into0 (t := t))
                    rw [HMr.out] at R5
                    have OW5 : ((w3.setCell ⟨gg, M, none⟩ (.int .i64 ((g : Int) + 1))).setCell ⟨gm, t, none⟩ (.bool true)).ownsRow Bm 3 1 (.slice (some ⟨gw, 0, none⟩) (M + 1) cw) (M + 1) (I8 (stkRow (k :: r.map Prod.fst))) := by simpa [HMr.out] using R5.out.ow
                    have h8 : (M + 1 + 1) * 8 ≤ 140737488355328 := by omega
                    have hml : M + 1 + 1 ≤ maxLen := by simp only [maxLen]; omega
                    have hs3 := P3.out.sz
                    have hbs : Bm ≤ (((w3.setCell ⟨gg, M, none⟩ (.int .i64 ((g : Int) + 1))).setCell ⟨gm, t, none⟩ (.bool true)).alloc (.cells #[.int .i64 t] 3)).heap.size := by simp; omega
                    obtain ⟨KS, hKS⟩ : ∃ x, I8 (stkRow (k :: r.map Prod.fst)) = x := ⟨_, rfl⟩
                    rw [hKS] at OW5
                    have HKS := hid hKS
                    clear hKS
                    go_wp2_with (at_builtin; refine wpList_append_lies (P := Try.prog) (w := ((w3.setCell ⟨gg, M, none⟩ (.int .i64 ((g : Int) + 1))).setCell ⟨gm, t, none⟩ (.bool true)).alloc (.cells #[.int .i64 t] 3)) rfl _ _ 29 rfl Bm 3 i0 (.int .i64 0) 1 8 Try.underlying29 hi hz0 hz1 hz2 rfl (by decide) (.slice (some ⟨gw, 0, none⟩) (M + 1) cw) (M + 1) KS rfl (OW5.alloc _) ⟨w3.heap.size, 0, none⟩ 1 1 [.int .i64 t] rfl rfl (row_at ((w3.setCell ⟨gg, M, none⟩ (.int .i64 ((g : Int) + 1))).setCell ⟨gm, t, none⟩ (.bool true)) #[.int .i64 t] 3 (by simp)).news (fun u hu => by simp at hu; subst hu; rfl) (by decide) hml h8 hbs (w3.heap.size + 1) (by simp) ?_)
                    intro g7 c7 w6 O6 G6 hat hlt6
                    have R6 : Hid (R3 w6 Bm lv1 (.slice (some ⟨g7, 0, none⟩) (r.length + 1 + 1) c7) (.slice (some ⟨gg, 0, none⟩) (r.length + 1) cg) left1 (t :: k :: r.map Prod.fst) ((g + 1) :: r.map Prod.snd)) := hid (by
                      have hM := HMr.out
                      subst hM
                      rw [← HKS.out] at O6
                      refine P1.into1 R5.out O6 G6 ?_
                      rcases hat with h | h
                      · exact .inl (Option.some.inj h)
                      · exact .inr (by simpa using h))
                    have OG6 : w6.ownsRow Bm 3 1 (.slice (some ⟨gg, 0, none⟩) (M + 1) cg) (M + 1) (I8 (stkRow ((g + 1) :: r.map Prod.snd))) := by simpa [HMr.out] using R6.out.og
                    obtain ⟨KG, hKG⟩ : ∃ x, I8 (stkRow ((g + 1) :: r.map Prod.snd)) = x := ⟨_, rfl⟩
                    rw [hKG] at OG6
                    have HKG := hid hKG
                    have HAT := hid hat
                    have HO6 := hid O6
                    have HG6 := hid G6
                    have hs6 : Bm ≤ w6.heap.size := by have := G6.size; simp at this; omega
                    have hbs2 : Bm ≤ (w6.alloc (.cells #[.int .i64 0] 3)).heap.size := by simp; omega
                    clear hKG hat O6 G6 hbs R5 OW5 HB ct ft cg3 fg3
                    go_wp2_with (at_builtin; refine wpList_append_lies (P := Try.prog) (w := w6.alloc (.cells #[.int .i64 0] 3)) rfl _ _ 29 rfl Bm 3 i0 (.int .i64 0) 1 8 Try.underlying29 hi hz0 hz1 hz2 rfl (by decide) (.slice (some ⟨gg, 0, none⟩) (M + 1) cg) (M + 1) KG rfl (OG6.alloc _) ⟨w6.heap.size, 0, none⟩ 1 1 [.int .i64 0] rfl rfl (row_new w6 #[.int .i64 0] 3).news (fun u hu => by simp at hu; subst hu; rfl) (by decide) hml h8 hbs2 (w6.heap.size + 1) (by simp) ?_)
                    intro g9 c9 w9 O9 G9 hat9 hlt9
                    go_wp2_with fail
                    go_roundg (mq n L (upd met1 t true) ((t, 0) :: (k, g + 1) :: r))
                    case measure => have h5 := HQ.out; have h6 := mq_into (n := n) (r := r) HGL.out htn HMT.out; omega
                    case rel =>
                      have hM := HMr.out
                      subst hM
                      rw [← HKG.out] at O9
                      have hmem : (t : Int) ∈ L k := List.mem_of_getElem? HZ.out
                      refine ⟨upd met1 t true, left1, (t, 0) :: (k, g + 1) :: r, _, _, _, rfl, rfl, rfl, hid rfl, hid (P1.into2 P3.out HGL.out htn HMT.out ((mem_edgeE hkn).2 ⟨_, hmem, by simp [nodeB]; omega, by simp⟩) (fun u h => ?_) HG6.out R6.out O9 G9 ?_), hid (fun v hv => upd_true (HM2.out v hv))⟩
                      · rcases DD.next HZ.out h with h | ⟨_, h⟩
                        · exact .inl h
                        · exact .inr (by rw [← h]; simp)
                      · rcases hat9 with h | h
                        · exact .inl (Option.some.inj h)
                        · exact .inr h
                · have hnn : nodeB n z = false := by
                    simp only [nodeB, Bool.and_eq_false_iff, decide_eq_false_iff_not]
                    omega
                  have HNN := hid hnn
                  clear hnn HB
                  by_cases hneg : z < 0
                  · have hn0 : ¬ (0 ≤ z) := by omega
                    clear hnode
                    go_wp2_with fail
                    go_roundg (mq n L met1 ((k, g + 1) :: r))
                    case measure => have h5 := HQ.out; have h6 := mq_bump (n := n) (met := met1) (r := r) HGL.out; omega
                    case rel =>
                      have hM := HMr.out
                      subst hM
                      refine ⟨met1, left1, (k, g + 1) :: r, _, _, _, rfl, rfl, rfl, hid rfl, hid (P3.out.bump HGL.out (fun u h => ?_)), HM2⟩
                      rcases DD.next HZ.out h with h | ⟨h, _⟩
                      · exact .inl h
                      · rw [HNN.out] at h; cases h
                  · have hn0 : 0 ≤ z := by omega
                    have hn1 : ¬ (z < (n : Int)) := by omega
                    clear hnode hneg
                    go_wp2_with fail
                    go_roundg (mq n L met1 ((k, g + 1) :: r))
                    case measure => have h5 := HQ.out; have h6 := mq_bump (n := n) (met := met1) (r := r) HGL.out; omega
                    case rel =>
                      have hM := HMr.out
                      subst hM
                      refine ⟨met1, left1, (k, g + 1) :: r, _, _, _, rfl, rfl, rfl, hid rfl, hid (P3.out.bump HGL.out (fun u h => ?_)), HM2⟩
                      rcases DD.next HZ.out h with h | ⟨h, _⟩
                      · exact .inl h
                      · rw [HNN.out] at h; cases h
      · obtain rfl : n = i := by omega
        have LF := hid (HK.out.done (fun v hv => HM.out v hv))
        go_wp2_with fail
        go_meet
        exact ⟨left, LF, hid OL, hid B⟩
  case rest =>
    clear m2 hgmw hb0 BW
    obtain ⟨left, LF, OL, B⟩ := hcut
    have hll : left.length = n := LF.out.length
    have OL' := OL.out
    rw [hll] at OL'
    obtain ⟨la, lc, rfl, LIc, _⟩ := ints_owns OL'
    have TR := turnRound_any ea n ec L wc (hR.below B.out (Nat.le_refl _)) HL4.out hn
    clear OL OL'
    go_wp2_with fail
    refine TR.mono ?_
    rintro e w5 ⟨ao, co, hs, RR, rfl, V, T, B5⟩
    have hRl : ∀ v, v < n → (RR v).length ≤ 120 := fun v hv => by have := T.len v hv; simp at this; omega
    have ER := V.edges (fun v hv => by have := hRl v hv; omega)
    have BW5 : Below w.heap.size w w5 := B.out.trans (B5.mono B.out.size)
    have LI : Hid (∀ W', Below w5.heap.size w5 W' → IntsAt W' la n lc (left.map Int.ofNat)) := hid fun W' h => LIc.below (B5.trans (h.mono B5.size)) (Nat.le_refl _)
    have HER : Hid (∀ W', Below w5.heap.size w5 W' → EdgesAt W' ao n RR) := hid fun W' h => ER.below h (Nat.le_refl _)
    have hnnR := ER.nn
    have HT := hid T
    have HRL := hid hRl
    have HLL := hid hll
    clear TR LIc B5 V ER hRl T hll B hR HL4
    go_wp2_with fail
    obtain ⟨W6, hW6⟩ : ∃ W, w5.alloc (.cells (tab n fun _ => 0).toArray 3) = W := ⟨_, rfl⟩
    rw [hW6]
    have hp0 : W6.heap[w5.heap.size]? = some (.cells (tab n fun _ => 0).toArray 3 (0, 0)) := hW6 ▸ blk_new w5 _
    have B6 : Below w5.heap.size w5 W6 := hW6 ▸ (Below.refl _ w5).alloc (Nat.le_refl _) _
    obtain ⟨gp, hgp⟩ : ∃ gp, w5.heap.size = gp := ⟨_, rfl⟩
    rw [hgp] at hp0 ⊢
    have hgpw : w5.heap.size ≤ gp := by omega
    have HGP := hid hgp
    have hp0 := hid hp0
    clear hW6 hgp
    go_loopw [14] (fun v wr => ∃ (i : Nat), v = .int .i64 i ∧ i ≤ n ∧ Hid (wr.heap[gp]? = some (.cells (tabZ n fun v => if v < i then -1 else 0).toArray 3 (0, 0))) ∧ Below w5.heap.size w5 wr) (fun v _ => n - (intOf v).toNat)
    case atStart => exact ⟨0, rfl, Nat.zero_le _, by rw [tabZ_zero]; exact hp0, B6⟩
    case round =>
      clear hp0 B6
      obtain ⟨i, rfl, hin, HP, B7⟩ := hrel
      by_cases hii : i < n
      · have i1 : (0 : Int) ≤ (i : Int) := by omega
        have i2 : (i : Int) < (n : Int) := by omega
        have cb := blk_cell HP.out (tabZ_get hii)
        have fb : wr.frozen? ⟨gp, i, none⟩ = false := blk_free HP.out
        have hb2 := hid ((blk_setCell HP.out (.int .i64 (-1)) (o := i)).trans (congrArg (fun c => some (Obj.cells c 3 (0, 0))) (tabZ_set (x := -1) hii)))
        have cb : wr.cell? ⟨gp, i, none⟩ = some (val wr gp i) := has_of cb
        go_wp2_with fail
        go_roundw
        case measure => simp [intOf]; omega
        case rel => exact ⟨i + 1, by go_num, by omega, hid (by have := hb2.out; rw [upd_neg] at this; exact this), Below.setCell B7 hgpw _⟩
      · obtain rfl : n = i := by omega
        have hP1 : wr.heap[gp]? = some (.cells (tabZ n fun _ => -1).toArray 3 (0, 0)) := by
          have := HP.out
          rw [tabZ_congr (q := fun _ => -1) (fun v hv => by simp [hv])] at this
          exact this
        have hwn : wrap64 ((n : Int) - 1) = (n : Int) - 1 := by unfold wrap64; omega
        have hP1 := hid hP1
        clear HP
        go_wp2_with fail
        obtain ⟨W8, hW8⟩ : ∃ W, wr.alloc (.cells (tab n fun _ => 0).toArray 3) = W := ⟨_, rfl⟩
        rw [hW8]
        have hl0 : W8.heap[wr.heap.size]? = some (.cells (tab n fun _ => 0).toArray 3 (0, 0)) := hW8 ▸ blk_new wr _
        have hp8 : W8.heap[gp]? = some (.cells (tabZ n fun _ => -1).toArray 3 (0, 0)) := hW8 ▸ blk_old _ hP1.out
        have B8 : Below w5.heap.size w5 W8 := hW8 ▸ B7.alloc B7.size _
        obtain ⟨gl, hgl⟩ : ∃ gl, wr.heap.size = gl := ⟨_, rfl⟩
        have hpl : gp < gl := by have := lt_of_blk hP1.out; omega
        rw [hgl] at hl0 ⊢
        obtain ⟨Bt, hBt⟩ : ∃ Bt, W8.heap.size = Bt := ⟨_, rfl⟩
        have hlB : gl < Bt := by have := lt_of_blk hl0; omega
        have hB8 : Bt ≤ W8.heap.size := by omega
        have hne : gp ≠ gl := by omega
        have hpB : gp < Bt := by omega
        have hl0 := hid hl0
        have hp8 := hid hp8
        clear hW8 hgl hBt hP1 B7
        go_loopw [16] (fun v wx => ∃ (i : Nat) (pt : Nat → Int) (ls : Nat → Nat) (z : Int), v = .int .i64 z ∧ Hid (z = (i : Int) - 1) ∧ i ≤ n ∧ Hid (K2 n (edgeE n L) left i pt ls) ∧ Hid (wx.heap[gp]? = some (.cells (tabZ n pt).toArray 3 (0, 0))) ∧ Hid (wx.heap[gl]? = some (.cells (tab n ls).toArray 3 (0, 0))) ∧ Below w5.heap.size w5 wx ∧ Bt ≤ wx.heap.size) (fun v _ => (intOf v + 1).toNat)
        case atStart => exact ⟨n, _, _, _, rfl, hid rfl, Nat.le_refl _, hid (K2.start LF.out), hp8, hl0, B8, hB8⟩
        case round =>
          clear hp8 hl0 B8 hB8
          obtain ⟨i, pt, ls, z, rfl, HZ, hin, HK, HP, HL, B9, hsz⟩ := hrel
          cases i with
          | zero =>
            obtain rfl : z = -1 := by have := HZ.out; omega
            clear HZ
            have KP := hid (K2.parts LF.out HK.out)
            obtain ⟨W, rfl⟩ : ∃ W, W = wr := ⟨wr, rfl⟩
            obtain ⟨hnat, hpart⟩ := KP.out
            have HNAT := hid hnat
            have HPART := hid hpart
            clear hnat hpart KP
            have hp1 := hid (HP.out)
            go_wp2_with fail
            obtain ⟨W3, hW3⟩ : ∃ x, W.alloc (.cells (tab n fun _ => 0).toArray 3) = x := ⟨_, rfl⟩
            rw [hW3]
            have ho0 : W3.heap[W.heap.size]? = some (.cells (tab n fun _ => 0).toArray 3 (0, 0)) := hW3 ▸ blk_new W _
            have hp3 : W3.heap[gp]? = some (.cells (tabZ n pt).toArray 3 (0, 0)) := hW3 ▸ blk_old _ HP.out
            have hl3 : W3.heap[gl]? = some (.cells (tab n ls).toArray 3 (0, 0)) := hW3 ▸ blk_old _ HL.out
            have B3 : Below w5.heap.size w5 W3 := hW3 ▸ B9.alloc B9.size _
            obtain ⟨go, hgo⟩ : ∃ go, W.heap.size = go := ⟨_, rfl⟩
            rw [hgo] at ho0 ⊢
            have hgop : gp ≠ go := by omega
            have hgol : gl ≠ go := by omega
            have hgow : w5.heap.size ≤ go := by omega
            have ho0 := hid ho0
            have hp3 := hid hp3
            have hl3 := hid hl3
            have hoe : tab n (fun v => if v < 0 then ls (pt v).toNat else 0) = tab n fun _ => 0 := tab_congr fun v _ => by simp
            have HOE := hid hoe
            clear hW3 hgo HP HL hp1 hoe
            go_loopw [22] (fun v wx => ∃ (i : Nat), v = .int .i64 i ∧ i ≤ n ∧ Hid (wx.heap[go]? = some (.cells (tab n fun v => if v < i then ls (pt v).toNat else 0).toArray 3 (0, 0))) ∧ Hid (wx.heap[gp]? = some (.cells (tabZ n pt).toArray 3 (0, 0))) ∧ Hid (wx.heap[gl]? = some (.cells (tab n ls).toArray 3 (0, 0))) ∧ Below w5.heap.size w5 wx) (fun v _ => n - (intOf v).toNat)
            case atStart => exact ⟨0, rfl, Nat.zero_le _, hid (by rw [HOE.out]; exact ho0.out), hp3, hl3, B3⟩
            case round =>
              clear ho0 hp3 hl3 B3
              obtain ⟨i, rfl, hi', HO, HP, HL, B4⟩ := hrel
              by_cases hii : i < n
              · have i1 : (0 : Int) ≤ (i : Int) := by omega
                have i2 : (i : Int) < (n : Int) := by omega
                obtain ⟨x, hx, hxn⟩ := HNAT.out i hii
                have cp := blk_cell HP.out (tabZ_get hii)
                rw [hx] at cp
                have x1 : (0 : Int) ≤ (x : Int) := by omega
                have x2 : (x : Int) < (n : Int) := by omega
                have cl := blk_cell HL.out (tab_get hxn)
                have co := blk_cell HO.out (tab_get hii)
                have fo : wr.frozen? ⟨go, i, none⟩ = false := blk_free HO.out
                have co : wr.cell? ⟨go, i, none⟩ = some (val wr go i) := has_of co
                have ho2 := hid ((blk_setCell HO.out (.int .i64 (ls x : Int)) (o := i)).trans (congrArg (fun c => some (Obj.cells c 3 (0, 0))) (tab_set (x := ls x) hii)))
                have HX := hid hx
                clear hx
                go_wp2_with fail
                go_roundw
                case measure => simp [intOf]; omega
                case rel =>
                  refine ⟨i + 1, by go_num, by omega, hid ?_, hid ((Below.heap_setCell _ _ _ _ (by show ¬ gp = go; exact hgop)).trans HP.out), hid ((Below.heap_setCell _ _ _ _ (by show ¬ gl = go; exact hgol)).trans HL.out), Below.setCell B4 hgow _⟩
                  have h1 := ho2.out
                  have h2 := upd_out (fun v => ls (pt v).toNat) i
                  have h3 : ls x = ls (pt i).toNat := by rw [HX.out]; simp
                  rw [h3, h2] at h1
                  rw [h3]
                  exact h1
              · obtain rfl : n = i := by omega
                go_wp2_with fail
                go_ret
                refine ⟨go, fun v => ls (pt v).toNat, rfl, ?_, HPART.out, by have := BW5.size; omega, BW5.trans (B4.mono BW5.size)⟩
                have h1 := HO.out
                rw [tab_congr (q := fun v => ls (pt v).toNat) (fun v hv => by simp [hv])] at h1
                exact h1
          | succ j =>
            obtain rfl : z = (j : Int) := by have := HZ.out; omega
            clear HZ
            have hjn : j < n := by omega
            have hjl : j < left.length := by rw [HLL.out]; exact hjn
            have j0 : (0 : Int) ≤ (j : Int) := by omega
            have j2 : (j : Int) < (n : Int) := by omega
            have hwj : wrap64 ((j : Int) - 1) = (j : Int) - 1 := by unfold wrap64; omega
            obtain ⟨f, hf⟩ : ∃ f, left[j]? = some f := ⟨_, List.getElem?_eq_getElem hjl⟩
            have hixl := idx_at1 (P := Try.prog) (T := 29) Try.underlying29 szI (cap := lc) (fun _ => (LI.out _ B9).row.nn (by simp; omega)) hjn
            have cl : wr.cell? ⟨sB la, sO la + j, none⟩ = some (.int .i64 (f : Int)) := by
              have h1 := (LI.out _ B9).row.num (i := j) (by simpa using hjl)
              rw [List.getElem?_map, hf] at h1
              exact h1
            have hfn : f < n := (LF.out.mem f).1 (List.mem_of_getElem? hf)
            have f0 : (0 : Int) ≤ (f : Int) := by omega
            have f2 : (f : Int) < (n : Int) := by omega
            have cp := blk_cell HP.out (tabZ_get hfn)
            have HF := hid hf
            clear hf hjl
            by_cases hpf : pt f = -1
            · have hpp := hid hpf
              have K0 := hid (K3.start HK.out HF.out hfn hpf)
              rw [hpf] at cp
              have fp : wr.frozen? ⟨gp, f, none⟩ = false := blk_free HP.out
              have cls := blk_cell HL.out (tab_get hfn)
              have fl : wr.frozen? ⟨gl, f, none⟩ = false := blk_free HL.out
              have cls : wr.cell? ⟨gl, f, none⟩ = some (val wr gl f) := has_of cls
              have hp4 : (wr.setCell ⟨gp, f, none⟩ (.int .i64 (f : Int))).heap[gp]? = some (.cells (tabZ n (upd pt f (f : Int))).toArray 3 (0, 0)) := (blk_setCell HP.out (.int .i64 (f : Int)) (o := f)).trans (congrArg (fun c => some (Obj.cells c 3 (0, 0))) (tabZ_set (x := (f : Int)) hfn))
              have hl4 : (wr.setCell ⟨gp, f, none⟩ (.int .i64 (f : Int))).heap[gl]? = some (.cells (tab n ls).toArray 3 (0, 0)) := (Below.heap_setCell _ _ _ _ (by show ¬ gl = gp; omega)).trans HL.out
              obtain ⟨wy, hwy⟩ : ∃ x, (wr.setCell ⟨gp, f, none⟩ (.int .i64 (f : Int))).setCell ⟨gl, f, none⟩ (.int .i64 (f : Int)) = x := ⟨_, rfl⟩
              have hsy : wy.heap.size = wr.heap.size := by rw [← hwy]; simp
              have hp5 : wy.heap[gp]? = some (.cells (tabZ n (upd pt f (f : Int))).toArray 3 (0, 0)) := by rw [← hwy]; exact (Below.heap_setCell _ _ _ _ (by show ¬ gp = gl; omega)).trans hp4
              have hl5 : wy.heap[gl]? = some (.cells (tab n (upd ls f f)).toArray 3 (0, 0)) := by rw [← hwy]; exact (blk_setCell hl4 (.int .i64 (f : Int)) (o := f)).trans (congrArg (fun c => some (Obj.cells c 3 (0, 0))) (tab_set (x := f) hfn))
              have By : Below w5.heap.size w5 wy := by rw [← hwy]; exact Below.setCell (Below.setCell B9 hgpw _) (by show w5.heap.size ≤ gl; omega) _
              have OT0 : (wy.alloc (.cells #[.int .i64 (f : Int)] 3)).ownsRow Bt 3 1 (.slice (some ⟨wr.heap.size, 0, none⟩) 1 1) 1 [.int .i64 (f : Int)] := by rw [← hsy]; exact World.ownsRow_lit wy #[.int .i64 (f : Int)] 1 (by omega) (by simp [maxLen]) rfl
              have Bz : Below w5.heap.size w5 (wy.alloc (.cells #[.int .i64 (f : Int)] 3)) := By.alloc By.size _
              have hpz := hid (blk_old (.cells #[.int .i64 (f : Int)] 3) hp5)
              have hlz := hid (blk_old (.cells #[.int .i64 (f : Int)] 3) hl5)
              have hsz5 : Bt ≤ (wy.alloc (.cells #[.int .i64 (f : Int)] 3)).heap.size := by simp; omega
              have HWY := hid hwy
              rw [← hwy] at OT0 Bz hpz hlz hsz5
              have OT0 := hid OT0
              have Bz := hid Bz
              have hsz5 := hid hsz5
              clear hp4 hl4 hp5 hl5 By hsy hwy HP HL hpf
              obtain ⟨pt1, hpt1⟩ : ∃ x, upd pt f (f : Int) = x := ⟨_, rfl⟩
              obtain ⟨ls1, hls1⟩ : ∃ x, upd ls f f = x := ⟨_, rfl⟩
              rw [hpt1, hls1] at K0
              rw [hpt1] at hpz
              rw [hls1] at hlz
              clear hpt1 hls1
              go_wp2_with fail
              go_loopg [18] (wkw n (asg pt1) [f]) (fun q tv' wx => ∃ (pt' : Nat → Int) (ls' : Nat → Nat) (td : List Nat) (tv : Value), tv = tv' ∧ Hid (wkw n (asg pt') td = q) ∧ Hid (wkw n (asg pt') td ≤ 2 * n + 1) ∧ Hid (K3 n (edgeE n L) left j f pt ls pt' ls' td none) ∧ Hid (wx.heap[gp]? = some (.cells (tabZ n pt').toArray 3 (0, 0))) ∧ Hid (wx.heap[gl]? = some (.cells (tab n ls').toArray 3 (0, 0))) ∧ Hid (wx.ownsRow Bt 3 1 tv td.length (I8 (td.map Int.ofNat))) ∧ Below w5.heap.size w5 wx ∧ Bt ≤ wx.heap.size)
              case atStart => exact ⟨pt1, ls1, [f], _, rfl, hid rfl, hid wkw_one, K0, hpz, hlz, OT0, Bz.out, hsz5.out⟩
              case round =>
                clear K0 hpz hlz OT0 Bz hsz5 cp cls fp fl HWY
                obtain ⟨pt', ls', td, tv, rfl, HQ, HQ2, HK3, HP, HL, OT, B9', hszx⟩ := hrel
                rcases List.eq_nil_or_concat td with rfl | ⟨td1, k, rfl⟩
                · obtain ⟨pa, pc, rfl⟩ := owns_slice OT.out
                  simp only [List.length_nil]
                  go_wp2_with fail
                  go_roundw
                  case measure => simp [intOf] <;> omega
                  case rel => exact ⟨j, pt', ls', _, rfl, hid (by first | rfl | omega), by omega, hid (HK3.out.done LF.out (edgeE_lt n L)), HP, HL, B9', hszx⟩
                · rw [List.concat_eq_append] at *
                  obtain ⟨g, c, rfl, hgc⟩ := owns_some OT.out (by simp)
                  have hlt : (td1 ++ [k]).length = td1.length + 1 := by simp
                  have OT1 := OT.out
                  rw [hlt] at OT1 hgc ⊢
                  have ck := last_cell OT1
                  have OT2 := hid (last_take OT1)
                  have hkn := (HK3.out.tw k (by simp)).1
                  have KT := hid (HK3.out.take LF.out (edgeE_lt n L))
                  have hqp : wkw n (asg pt') td1 < gk := by rw [← HQ.out]; exact wkw_pop
                  have hq3 : wkw n (asg pt') td1 ≤ 2 * n + 1 := Nat.le_trans (Nat.le_of_lt wkw_pop) HQ2.out
                  have hM61 : td1.length ≤ 61 := by have := wkw_len (n := n) (f := asg pt') (td := td1); omega
                  obtain ⟨M, hM⟩ : ∃ M, td1.length = M := ⟨_, rfl⟩
                  rw [hM] at ck hgc hM61 OT2 ⊢
                  have HMr := hid hM
                  have HQP := hid hqp
                  have HQ3 := hid hq3
                  have hMa : (0 : Int) ≤ (M : Int) := by omega
                  have hMb : (M : Int) < ((M + 1 : Nat) : Int) := by omega
                  have hMc : (M : Int) < (M : Int) + 1 := by omega
                  have cls := blk_cell HL.out (tab_get hfn)
                  have fl : wr.frozen? ⟨gl, f, none⟩ = false := blk_free HL.out
                  have hmin : min ((ls' f : Nat) : Int) ((k : Nat) : Int) = ((min (ls' f) k : Nat) : Int) := by omega
                  obtain ⟨mv, hmv⟩ : ∃ mv, min (ls' f) k = mv := ⟨_, rfl⟩
                  rw [hmv] at hmin KT
                  have hl6 := hid ((blk_setCell HL.out (.int .i64 (mv : Int)) (o := f)).trans (congrArg (fun c => some (Obj.cells c 3 (0, 0))) (tab_set (x := mv) hfn)))
                  have hp6 := hid ((Below.heap_setCell wr ⟨gl, f, none⟩ (.int .i64 (mv : Int)) gp (by show ¬ gp = gl; omega)).trans HP.out)
                  have B6 : Below w5.heap.size w5 (wr.setCell ⟨gl, f, none⟩ (.int .i64 (mv : Int))) := Below.setCell B9' (by show w5.heap.size ≤ gl; omega) _
                  have OT6 := hid (ownsRow_setCell_below OT2.out (show Addr.block ⟨gl, f, none⟩ < Bt from hlB) (.int .i64 (mv : Int)))
                  obtain ⟨ls2, hls2⟩ : ∃ x, upd ls' f mv = x := ⟨_, rfl⟩
                  rw [hls2] at KT hl6
                  have hcmin : M ≤ c := by omega
                  have k1 : (0 : Int) ≤ (k : Int) := by omega
                  have k2 : (k : Int) < (n : Int) := by omega
                  have HMV := hid hmv
                  clear hlt OT1 OT2 hM hqp hq3 hmv hls2 HP OT
                  have HROW : Hid (∃ ar lr cr, (∀ wx, Below w5.heap.size w5 wx → wx.cell? ⟨sB ao, sO ao + k, none⟩ = some (.slice ar lr cr) ∧ IntsAt wx ar lr cr (RR k)) ∧ lr = (RR k).length) := hid (by
                    obtain ⟨ai, li, ci, hc, hI, hl⟩ := (HER.out w5 (Below.refl _ _)).row k hkn
                    exact ⟨ai, li, ci, fun wx BX => ⟨Below.cellAt BX (lt_of_cell hc) hc, hI.below BX (Nat.le_refl _)⟩, hI.len.symm⟩)
                  obtain ⟨ar, lr, cr, hrow, hlen⟩ := HROW.out
                  have HR := hid hrow
                  have HIL := hid hlen.symm
                  have hixo := idx_at1 (P := Try.prog) (T := 22) Try.underlying22 (show (Try.prog.info? 29).map (·.size) = some 1 by kernel_rfl) (cap := co) (fun _ => hnnR (by omega)) hkn
                  have hixi := fun k (hk : k < lr) => idx_at1 (P := Try.prog) (T := 29) Try.underlying29 szI (cap := cr) (fun _ => (hrow w5 (Below.refl _ _)).2.row.nn (by simp; have := HIL.out; omega)) hk
                  have hlr : lr ≤ 120 := by have := HRL.out k hkn; omega
                  clear hrow hlen HROW
                  have Bq := B6
                  have Bq := hid Bq
                  go_wp2_with fail
                  obtain ⟨m0, hm0⟩ : ∃ m0, wkw n (asg pt') td1 = m0 := ⟨_, rfl⟩
                  rw [hm0] at HQP HQ3
                  have HM0 := hid (Nat.le_of_eq hm0)
                  have hs6 : Bt ≤ (wr.setCell ⟨gl, f, none⟩ (.int .i64 (mv : Int))).heap.size := by simpa using hszx
                  have OT6' := OT6.out
                  rw [← HMr.out] at OT6'
                  have OT7 := hid OT6'
                  have hs6 := hid hs6
                  have hmM : Hid (Value.slice (some ⟨g, 0, none⟩) M c = Value.slice (some ⟨g, 0, none⟩) td1.length c) := hid (by rw [HMr.out])
                  clear hm0 OT6' OT6 HL B6 HK3 HQ HQ2 B9' hszx
                  go_loopw [18, 20] (fun tv' v wx => ∃ (q : Nat) (pt2 : Nat → Int) (td2 : List Nat) (tv : Value), tv = tv' ∧ v = .int .i64 q ∧ q ≤ lr ∧ Hid (wkw n (asg pt2) td2 ≤ m0) ∧ Hid (K3 n (edgeE n L) left j f pt ls pt2 ls2 td2 (some (k, ((RR k).take q).map Int.toNat))) ∧ Hid (wx.heap[gp]? = some (.cells (tabZ n pt2).toArray 3 (0, 0))) ∧ Hid (wx.heap[gl]? = some (.cells (tab n ls2).toArray 3 (0, 0))) ∧ Hid (wx.ownsRow Bt 3 1 tv td2.length (I8 (td2.map Int.ofNat))) ∧ Below w5.heap.size w5 wx ∧ Bt ≤ wx.heap.size) (fun _ v _ => lr - (intOf v).toNat)
                  case atStart => exact ⟨0, pt', td1, _, rfl, rfl, Nat.zero_le _, HM0, hid (by simpa using KT.out), hp6, hl6, hid (by rw [hmM.out]; exact OT7.out), Bq.out, hs6.out⟩
                  case round =>
                    clear hp6 hl6 KT OT7 Bq hs6 hmM ck cls fl
                    obtain ⟨q, pt2, td2, tv, rfl, rfl, hq, HW, HK3, HP, HL, OT, B9', hszx⟩ := hrel
                    have crow := (HR.out wr B9').1
                    by_cases hql : q < lr
                    · have hqL : q < (RR k).length := by rw [HIL.out]; exact hql
                      have hcz := (HR.out wr B9').2.row.num hqL
                      have hixq := hixi q hql
                      have TK := take_succ_get hqL
                      have hmem : (RR k)[q]?.getD 0 ∈ RR k := by rw [List.getElem?_eq_getElem hqL]; exact List.getElem_mem _
                      obtain ⟨u, hu, hun, hku⟩ := HT.out.node hkn hmem
                      rw [hu] at hcz TK
                      have TK2 : Hid (((RR k).take (q + 1)).map Int.toNat = ((RR k).take q).map Int.toNat ++ [u]) := hid (by rw [TK, List.map_append]; simp)
                      have HKU := hid hku
                      have HU := hid hu
                      have HQL := hid hqL
                      have q1 : (0 : Int) ≤ (q : Int) := by omega
                      have u1 : (0 : Int) ≤ (u : Int) := by omega
                      have u2 : (u : Int) < (n : Int) := by omega
                      have cp := blk_cell HP.out (tabZ_get hun)
                      have fp : wr.frozen? ⟨gp, u, none⟩ = false := blk_free HP.out
                      clear hmem hu TK hku hqL
                      by_cases hpu : pt2 u = -1
                      · rw [hpu] at cp
                        have KG := hid (HK3.out.got hpu hun HKU.out)
                        have HW2 := hid (Nat.lt_of_lt_of_le (wkw_push (td := td2) hun (asg_no hpu)) HW.out)
                        rw [← asg_upd pt2 u (show ((f : Nat) : Int) ≠ -1 by omega)] at HW2
                        have hp7 := hid ((blk_setCell HP.out (.int .i64 (f : Int)) (o := u)).trans (congrArg (fun c => some (Obj.cells c 3 (0, 0))) (tabZ_set (x := (f : Int)) hun)))
                        have hl7 := hid ((Below.heap_setCell wr ⟨gp, u, none⟩ (.int .i64 (f : Int)) gl (by show ¬ gl = gp; omega)).trans HL.out)
                        have B7 : Below w5.heap.size w5 (wr.setCell ⟨gp, u, none⟩ (.int .i64 (f : Int))) := Below.setCell B9' hgpw _
                        have OT7 := ownsRow_setCell_below OT.out (show Addr.block ⟨gp, u, none⟩ < Bt from hpB) (.int .i64 (f : Int))
                        have hlen2 : td2.length ≤ 61 := by
                          have h1 := wkw_len (n := n) (f := asg pt2) (td := td2)
                          have h2 := HW.out
                          have h3 := HQ3.out
                          omega
                        have hltB := fun q hq => (OT7.lt q hq).1
                        have HLTB := hid hltB
                        obtain ⟨M2, hM2⟩ : ∃ M, td2.length = M := ⟨_, rfl⟩
                        rw [hM2] at OT7 hlen2
                        have HM2 := hid hM2
                        obtain ⟨KS, hKS⟩ : ∃ x, I8 (td2.map Int.ofNat) = x := ⟨_, rfl⟩
                        rw [hKS] at OT7
                        have HKS := hid hKS
                        have h8 : (M2 + 1) * 8 ≤ 140737488355328 := by omega
                        have hml : M2 + 1 ≤ maxLen := by simp only [maxLen]; omega
                        have hbs : Bt ≤ ((wr.setCell ⟨gp, u, none⟩ (.int .i64 (f : Int))).alloc (.cells #[.int .i64 (u : Int)] 3)).heap.size := by simp; omega
                        have HB7 := hid B7
                        clear hpu hM2 hKS HP HL OT HK3 B7 hltB
                        have crow2 : (wr.setCell ⟨gp, u, none⟩ (.int .i64 (f : Int))).cell? ⟨sB ao, sO ao + k, none⟩ = some (.slice ar lr cr) := (HR.out _ HB7.out).1
                        have hcz2 : (wr.setCell ⟨gp, u, none⟩ (.int .i64 (f : Int))).cell? ⟨sB ar, sO ar + q, none⟩ = some (.int .i64 (u : Int)) := by
                          have h1 := (HR.out _ HB7.out).2.row.num HQL.out
                          rw [HU.out] at h1
                          exact h1
                        go_wp2_with (at_builtin; refine wpList_append_lies (P := Try.prog) (w := (wr.setCell ⟨gp, u, none⟩ (.int .i64 (f : Int))).alloc (.cells #[.int .i64 (u : Int)] 3)) rfl _ _ 29 rfl Bt 3 i0 (.int .i64 0) 1 8 Try.underlying29 hi hz0 hz1 hz2 rfl (by decide) tv M2 KS rfl (OT7.alloc _) ⟨wr.heap.size, 0, none⟩ 1 1 [.int .i64 (u : Int)] rfl rfl (row_at (wr.setCell ⟨gp, u, none⟩ (.int .i64 (f : Int))) #[.int .i64 (u : Int)] 3 (by simp)).news (fun x hx => by simp at hx; subst hx; rfl) (by decide) hml h8 hbs (wr.heap.size + 1) (by simp) ?_)
                        intro g7 c7 w7 O7 G7 hat hlt7
                        have HO7 := hid O7
                        clear O7
                        go_wp2_with fail
                        go_roundw
                        case measure => simp [intOf] <;> omega
                        case rel =>
                          have hM := HM2.out
                          subst hM
                          have O7 := HO7.out
                          rw [← HKS.out] at O7
                          have hs7 := G7.size
                          simp at hs7
                          refine ⟨q + 1, upd pt2 u (f : Int), td2 ++ [u], _, rfl, by go_num, by omega, hid (Nat.le_of_lt HW2.out), hid (by rw [TK2.out]; exact KG.out), hid ((G7.block gp (by simp; omega) (fun e => by have := HLTB.out gp e.symm; omega)).trans (blk_old _ hp7.out)), hid ((G7.block gl (by simp; omega) (fun e => by have := HLTB.out gl e.symm; omega)).trans (blk_old _ hl7.out)), hid ?_, (HB7.out.alloc HB7.out.size _).grown G7 (by have := HB7.out.size; simp at this ⊢; omega) (fun x hx => by have := HLTB.out x hx; omega), by omega⟩
                          simpa [I8] using O7
                      · obtain ⟨x, hx⟩ := K3.nat HK3.out hun hpu
                        rw [hx] at cp
                        have x1 : ¬ ((x : Int) < 0) := by omega
                        have KH := hid (HK3.out.had (u := u) hpu)
                        clear hpu hx
                        go_wp2_with fail
                        go_roundw
                        case measure => simp [intOf] <;> omega
                        case rel => exact ⟨q + 1, pt2, td2, _, rfl, by go_num, by omega, HW, hid (by rw [TK2.out]; exact KH.out), HP, HL, OT, B9', hszx⟩
                    · obtain rfl : lr = q := by omega
                      have KN := HK3.out
                      rw [← HIL.out, List.take_length] at KN
                      have KN := hid (KN.next (fun u hu hv => HT.out.all hkn hu hv))
                      go_wp2_with fail
                      go_roundg (wkw n (asg pt2) td2)
                      case measure => have h1 := HW.out; have h2 := HQP.out; omega
                      case rel => exact ⟨pt2, ls2, td2, _, rfl, hid rfl, hid (Nat.le_trans HW.out HQ3.out), KN, HP, HL, OT, B9', hszx⟩
            · obtain ⟨f', hf', _⟩ := K2.nat HK.out hfn hpf
              rw [hf'] at cp
              have HPF := hid hpf
              have f'0 : (0 : Int) ≤ (f' : Int) := by omega
              clear hpf hf'
              go_wp2_with fail
              go_roundw
              case measure => simp [intOf] <;> omega
              case rel => exact ⟨j, pt, ls, _, rfl, hid (by first | rfl | omega), by omega, hid (HK.out.skip HF.out HPF.out), HP, HL, B9, hsz⟩

end Go.Proofs.Ytkflhmpecfckfaa
