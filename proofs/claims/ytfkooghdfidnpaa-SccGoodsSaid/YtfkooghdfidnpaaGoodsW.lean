/- SccGoods: the walk -/
import Derived.Test.YtfkooghdfidnpaaGoodsP
import Derived.Test.YtfkooghdfidnpaaBoolsArg
open Go Go.RowKit
namespace Go.Proofs.Ytfkooghdfidnpaa
open Tj

theorem tabB_succ (n : Nat) (f : Nat → Bool) : tabB (n + 1) f = tabB n f ++ [.bool (f n)] := by simp [tabB, List.range_succ]
theorem bools_owns {w : World} {B n : Nat} {v : Value} {f : Nat → Bool} (h : w.ownsRow B 4 1 v n (tabB n f)) : ∃ a c, v = .slice a n c ∧ BoolsAt w a n f := by
  obtain ⟨a, c, rfl, h3, h4, h5, h6, _, h7⟩ := row_of_owns h
  refine ⟨a, c, rfl, fun h0 => h6.nn (by rw [tabB_length]; exact h0), fun i hi => h6.cell i _ ?_, by omega⟩
  simp [tabB, hi]

set_option maxRecDepth 100000 in
set_option maxHeartbeats 4000000 in
theorem sccGoods_walk (a : Option Addr) (len cap : Nat) (ra : Option Addr) (lr rc : Nat) (bR : Nat → Bool) (ma : Option Addr) (lm mc : Nat) (bM : Nat → Bool) (first : Int) (w : World) (h : RowsIn w a len) (hlen : len ≤ maxLen)
    (hR : BoolsAt w ra lr bR) (hM : BoolsAt w ma lm bM) (hf : -9223372036854775808 ≤ first ∧ first ≤ 9223372036854775807) :
    Calls Try.prog 7 #[.slice a len cap, .slice ra lr rc, .slice ma lm mc, .int .i64 first] w fun e w' => e = .returned (.bool true) ∧ Below w.heap.size w w' := by
  obtain ⟨i0, hi, hz0, hz1, hz2⟩ := info_parts iB
  have szb : (Try.prog.info? 4).map (·.size) = some 1 := by kernel_rfl
  have hixr := fun k (hk : k < lr) => idx_at1 (P := Try.prog) (T := 27) Try.underlying27 szb (cap := rc) hR.nn hk
  have hixm := fun k (hk : k < lm) => idx_at1 (P := Try.prog) (T := 27) Try.underlying27 szb (cap := mc) hM.nn hk
  clear szb
  have hlb : len ≤ 9223372036854775807 := by simp only [maxLen] at hlen; omega
  have hlr := hR.len
  have hlm := hM.len
  simp only [maxLen] at hlr hlm
  clear hlen
  go_enter Try.func7, Try.ntmps7
  go_wp2_with fail
  refine (known20_any w).mono ?_
  rintro e w1 ⟨rfl, B1⟩
  have R1 := h.below B1 (Nat.le_refl _)
  go_wp2_with fail
  refine (edges_any a len cap 16 w1 R1 (by omega) hlb).mono ?_
  rintro e w2 ⟨ea, n, ec, LL, rfl, hLL, hn, ED, H4, B2⟩
  obtain ⟨L, hL⟩ : ∃ L : Nat → List Int, (fun v => LL[v]?.getD []) = L := ⟨_, rfl⟩
  rw [hL] at ED
  have s1 : w.heap.size ≤ w1.heap.size := B1.size
  have s2 : w1.heap.size ≤ w2.heap.size := B2.size
  have B02 : Below w.heap.size w w2 := B1.trans (B2.mono (by omega))
  have R2 := hR.below B02 (Nat.le_refl _)
  have M2 := hM.below B02 (Nat.le_refl _)
  clear hL hLL H4 hR hM h R1 B1 B2
  obtain ⟨ps, hps⟩ : ∃ ps : Nat → Bool, ps = fun k => decide (k < lr) && bR k := ⟨_, rfl⟩
  obtain ⟨qs, hqs⟩ : ∃ qs : Nat → Bool, qs = fun k => ps k || (decide (k < lm) && bM k) := ⟨_, rfl⟩
  have PS := hid (fun k => congrFun hps k)
  have QS := hid (fun k => congrFun hqs k)
  clear hps hqs
  go_wp2_with fail
  go_loopw [10, 11, 28] (fun vp' vq' v wr => ∃ (k : Nat) (vp vq : Value), vp = vp' ∧ vq = vq' ∧ v = .int .i64 k ∧ k ≤ n ∧ wr.ownsRow w2.heap.size 4 1 vp k (tabB k ps) ∧ wr.ownsRow w2.heap.size 4 1 vq k (tabB k qs) ∧ Hid (∀ b, vp.ownBlock = some b → ¬ vq.ownBlock = some b) ∧ Below w2.heap.size w2 wr) (fun _ _ v _ => n - (intOf v).toNat)
  case atStart => exact ⟨0, _, _, rfl, rfl, rfl, Nat.zero_le _, World.ownsRow_nil _ _ _ _, World.ownsRow_nil _ _ _ _, hid (fun b h => by cases h), Below.refl _ _⟩
  case round =>
    obtain ⟨k, vp, vq, rfl, rfl, rfl, hk, OP, OQ, AP, B⟩ := hrel
    by_cases hkn : k < n
    · have hsz : w2.heap.size ≤ wr.heap.size := B.size
      have hml : k + 1 ≤ maxLen := by simp only [maxLen]; omega
      have h1 : (k + 1) * 1 ≤ 140737488355328 := by omega
      have hP := PS.out k
      have hQ := QS.out k
      by_cases hkr : k < lr
      · cases br : bR k with
        | true =>
          have cr := (R2.below B (Nat.le_refl _)).cell k hkr
          rw [br] at cr
          have hixrk := hixr k hkr
          have EP := hid (show ps k = true by rw [hP]; simp [hkr, br])
          have EQ := hid (show qs k = true by rw [hQ, hP]; simp [hkr, br])
          have hbs1 : w2.heap.size ≤ (wr.alloc (.cells #[.bool true] 4)).heap.size := by simp; omega
          clear hP hQ
          go_wp2_with (at_builtin; refine wpList_append_lies (P := Try.prog) (w := wr.alloc (.cells #[.bool true] 4)) rfl _ _ 27 rfl w2.heap.size 4 i0 (.bool false) 1 1 Try.underlying27 hi hz0 hz1 hz2 rfl (by decide) vp k (tabB k ps) rfl (OP.alloc _) ⟨wr.heap.size, 0, none⟩ 1 1 [.bool true] rfl rfl (row_new wr #[.bool true] 4).news (fun u hu => by simp at hu; subst hu; rfl) (by decide) hml h1 hbs1 (wr.heap.size + 1) (by simp) ?_)
          intro gg cc w5 O5 G5 hat hlt5
          have OQ5 := (Ext.of_grown G5).owns (fun b hb hb2 => AP.out b hb2 hb) (OQ.alloc _)
          have hs5 := G5.size
          simp at hs5
          have hcg : w5.cell? ⟨gg, k, none⟩ = some (.bool true) := (O5.cellAt k (by simp [tabB_length])).trans (by simp [tabB])
          have hbs2 : w2.heap.size ≤ (w5.alloc (.cells #[.bool true] 4)).heap.size := by simp; omega
          have B5 : Below w2.heap.size w2 w5 := (B.alloc hsz (.cells #[.bool true] 4)).grown G5 (by simp; omega) (fun q hq => (OP.lt q hq).1)
          have AP5 := hid (show ∀ b, vq.ownBlock = some b → ¬ (Value.slice (some ⟨gg, 0, none⟩) (k + 1) cc).ownBlock = some b from fun b hb e => by
            have e : some gg = some b := e
            cases e
            rcases hat with h | h
            · exact AP.out _ h hb
            · have := (OQ.lt _ hb).2
              have h : gg = wr.heap.size + 1 := h
              omega)
          have hcm : Hid (∀ i, i < lm → w5.cell? ⟨sB ma, sO ma + i, none⟩ = some (.bool (bM i))) := hid (M2.below B5 (Nat.le_refl _)).cell
          go_wp2_with (at_builtin; refine wpList_append_lies (P := Try.prog) (w := w5.alloc (.cells #[.bool true] 4)) rfl _ _ 27 rfl w2.heap.size 4 i0 (.bool false) 1 1 Try.underlying27 hi hz0 hz1 hz2 rfl (by decide) vq k (tabB k qs) rfl (OQ5.alloc _) ⟨w5.heap.size, 0, none⟩ 1 1 [.bool true] rfl rfl (row_new w5 #[.bool true] 4).news (fun u hu => by simp at hu; subst hu; rfl) (by decide) hml h1 hbs2 (w5.heap.size + 1) (by simp) ?_)
          intro g6 c6 w6 O6 G6 hat6 hlt6
          go_wp2_with fail
          go_roundw
          case measure => simp [intOf]; omega
          case rel =>
            refine ⟨k + 1, _, _, rfl, rfl, by go_num, by omega, ?_, ?_, hid (fun b hb e => ?_), (B5.alloc (by omega) (.cells #[.bool true] 4)).grown G6 (by simp; omega) (fun q hq => (OQ5.lt q hq).1)⟩
            · rw [tabB_succ, EP.out]
              exact (Ext.of_grown G6).owns (fun b hb hb2 => AP5.out b hb2 hb) (O5.alloc _)
            · rw [tabB_succ, EQ.out]
              exact O6
            · have e : some g6 = some b := e
              cases e
              rcases hat6 with h | h
              · exact AP5.out _ h hb
              · have := (O5.lt _ hb).2
                have h : g6 = w5.heap.size + 1 := h
                omega
        | false =>
          by_cases hkm : k < lm
          · cases bm : bM k with
            | true =>
              have cr := (R2.below B (Nat.le_refl _)).cell k hkr
              rw [br] at cr
              have hixrk := hixr k hkr
              have EP := hid (show ps k = false by rw [hP]; simp [hkr, br])
              have EQ := hid (show qs k = true by rw [hQ, hP]; simp [hkr, br, hkm, bm])
              have hbs1 : w2.heap.size ≤ (wr.alloc (.cells #[.bool false] 4)).heap.size := by simp; omega
              clear hP hQ
              go_wp2_with (at_builtin; refine wpList_append_lies (P := Try.prog) (w := wr.alloc (.cells #[.bool false] 4)) rfl _ _ 27 rfl w2.heap.size 4 i0 (.bool false) 1 1 Try.underlying27 hi hz0 hz1 hz2 rfl (by decide) vp k (tabB k ps) rfl (OP.alloc _) ⟨wr.heap.size, 0, none⟩ 1 1 [.bool false] rfl rfl (row_new wr #[.bool false] 4).news (fun u hu => by simp at hu; subst hu; rfl) (by decide) hml h1 hbs1 (wr.heap.size + 1) (by simp) ?_)
              intro gg cc w5 O5 G5 hat hlt5
              have OQ5 := (Ext.of_grown G5).owns (fun b hb hb2 => AP.out b hb2 hb) (OQ.alloc _)
              have hs5 := G5.size
              simp at hs5
              have hcg : w5.cell? ⟨gg, k, none⟩ = some (.bool false) := (O5.cellAt k (by simp [tabB_length])).trans (by simp [tabB])
              have hbs2 : w2.heap.size ≤ (w5.alloc (.cells #[.bool true] 4)).heap.size := by simp; omega
              have B5 : Below w2.heap.size w2 w5 := (B.alloc hsz (.cells #[.bool false] 4)).grown G5 (by simp; omega) (fun q hq => (OP.lt q hq).1)
              have AP5 := hid (show ∀ b, vq.ownBlock = some b → ¬ (Value.slice (some ⟨gg, 0, none⟩) (k + 1) cc).ownBlock = some b from fun b hb e => by
                have e : some gg = some b := e
                cases e
                rcases hat with h | h
                · exact AP.out _ h hb
                · have := (OQ.lt _ hb).2
                  have h : gg = wr.heap.size + 1 := h
                  omega)
              have hcm : Hid (∀ i, i < lm → w5.cell? ⟨sB ma, sO ma + i, none⟩ = some (.bool (bM i))) := hid (M2.below B5 (Nat.le_refl _)).cell
              have cm := hcm.out k hkm
              rw [bm] at cm
              have hixmk := hixm k hkm
              go_wp2_with (at_builtin; refine wpList_append_lies (P := Try.prog) (w := w5.alloc (.cells #[.bool true] 4)) rfl _ _ 27 rfl w2.heap.size 4 i0 (.bool false) 1 1 Try.underlying27 hi hz0 hz1 hz2 rfl (by decide) vq k (tabB k qs) rfl (OQ5.alloc _) ⟨w5.heap.size, 0, none⟩ 1 1 [.bool true] rfl rfl (row_new w5 #[.bool true] 4).news (fun u hu => by simp at hu; subst hu; rfl) (by decide) hml h1 hbs2 (w5.heap.size + 1) (by simp) ?_)
              intro g6 c6 w6 O6 G6 hat6 hlt6
              go_wp2_with fail
              go_roundw
              case measure => simp [intOf]; omega
              case rel =>
                refine ⟨k + 1, _, _, rfl, rfl, by go_num, by omega, ?_, ?_, hid (fun b hb e => ?_), (B5.alloc (by omega) (.cells #[.bool true] 4)).grown G6 (by simp; omega) (fun q hq => (OQ5.lt q hq).1)⟩
                · rw [tabB_succ, EP.out]
                  exact (Ext.of_grown G6).owns (fun b hb hb2 => AP5.out b hb2 hb) (O5.alloc _)
                · rw [tabB_succ, EQ.out]
                  exact O6
                · have e : some g6 = some b := e
                  cases e
                  rcases hat6 with h | h
                  · exact AP5.out _ h hb
                  · have := (O5.lt _ hb).2
                    have h : g6 = w5.heap.size + 1 := h
                    omega
            | false =>
              have cr := (R2.below B (Nat.le_refl _)).cell k hkr
              rw [br] at cr
              have hixrk := hixr k hkr
              have EP := hid (show ps k = false by rw [hP]; simp [hkr, br])
              have EQ := hid (show qs k = false by rw [hQ, hP]; simp [hkr, br, hkm, bm])
              have hbs1 : w2.heap.size ≤ (wr.alloc (.cells #[.bool false] 4)).heap.size := by simp; omega
              clear hP hQ
              go_wp2_with (at_builtin; refine wpList_append_lies (P := Try.prog) (w := wr.alloc (.cells #[.bool false] 4)) rfl _ _ 27 rfl w2.heap.size 4 i0 (.bool false) 1 1 Try.underlying27 hi hz0 hz1 hz2 rfl (by decide) vp k (tabB k ps) rfl (OP.alloc _) ⟨wr.heap.size, 0, none⟩ 1 1 [.bool false] rfl rfl (row_new wr #[.bool false] 4).news (fun u hu => by simp at hu; subst hu; rfl) (by decide) hml h1 hbs1 (wr.heap.size + 1) (by simp) ?_)
              intro gg cc w5 O5 G5 hat hlt5
              have OQ5 := (Ext.of_grown G5).owns (fun b hb hb2 => AP.out b hb2 hb) (OQ.alloc _)
              have hs5 := G5.size
              simp at hs5
              have hcg : w5.cell? ⟨gg, k, none⟩ = some (.bool false) := (O5.cellAt k (by simp [tabB_length])).trans (by simp [tabB])
              have hbs2 : w2.heap.size ≤ (w5.alloc (.cells #[.bool false] 4)).heap.size := by simp; omega
              have B5 : Below w2.heap.size w2 w5 := (B.alloc hsz (.cells #[.bool false] 4)).grown G5 (by simp; omega) (fun q hq => (OP.lt q hq).1)
              have AP5 := hid (show ∀ b, vq.ownBlock = some b → ¬ (Value.slice (some ⟨gg, 0, none⟩) (k + 1) cc).ownBlock = some b from fun b hb e => by
                have e : some gg = some b := e
                cases e
                rcases hat with h | h
                · exact AP.out _ h hb
                · have := (OQ.lt _ hb).2
                  have h : gg = wr.heap.size + 1 := h
                  omega)
              have hcm : Hid (∀ i, i < lm → w5.cell? ⟨sB ma, sO ma + i, none⟩ = some (.bool (bM i))) := hid (M2.below B5 (Nat.le_refl _)).cell
              have cm := hcm.out k hkm
              rw [bm] at cm
              have hixmk := hixm k hkm
              go_wp2_with (at_builtin; refine wpList_append_lies (P := Try.prog) (w := w5.alloc (.cells #[.bool false] 4)) rfl _ _ 27 rfl w2.heap.size 4 i0 (.bool false) 1 1 Try.underlying27 hi hz0 hz1 hz2 rfl (by decide) vq k (tabB k qs) rfl (OQ5.alloc _) ⟨w5.heap.size, 0, none⟩ 1 1 [.bool false] rfl rfl (row_new w5 #[.bool false] 4).news (fun u hu => by simp at hu; subst hu; rfl) (by decide) hml h1 hbs2 (w5.heap.size + 1) (by simp) ?_)
              intro g6 c6 w6 O6 G6 hat6 hlt6
              go_wp2_with fail
              go_roundw
              case measure => simp [intOf]; omega
              case rel =>
                refine ⟨k + 1, _, _, rfl, rfl, by go_num, by omega, ?_, ?_, hid (fun b hb e => ?_), (B5.alloc (by omega) (.cells #[.bool false] 4)).grown G6 (by simp; omega) (fun q hq => (OQ5.lt q hq).1)⟩
                · rw [tabB_succ, EP.out]
                  exact (Ext.of_grown G6).owns (fun b hb hb2 => AP5.out b hb2 hb) (O5.alloc _)
                · rw [tabB_succ, EQ.out]
                  exact O6
                · have e : some g6 = some b := e
                  cases e
                  rcases hat6 with h | h
                  · exact AP5.out _ h hb
                  · have := (O5.lt _ hb).2
                    have h : g6 = w5.heap.size + 1 := h
                    omega
          · skip
            have cr := (R2.below B (Nat.le_refl _)).cell k hkr
            rw [br] at cr
            have hixrk := hixr k hkr
            have m1 : ¬ ((k : Int) < (lm : Int)) := by omega
            have m2 : decide ((k : Int) < (lm : Int)) = false := by simp; omega
            have m3 : (lm : Int) ≤ (k : Int) := by omega
            have EP := hid (show ps k = false by rw [hP]; simp [hkr, br])
            have EQ := hid (show qs k = false by rw [hQ, hP]; simp [hkr, br, hkm])
            have hbs1 : w2.heap.size ≤ (wr.alloc (.cells #[.bool false] 4)).heap.size := by simp; omega
            clear hP hQ
            go_wp2_with (at_builtin; refine wpList_append_lies (P := Try.prog) (w := wr.alloc (.cells #[.bool false] 4)) rfl _ _ 27 rfl w2.heap.size 4 i0 (.bool false) 1 1 Try.underlying27 hi hz0 hz1 hz2 rfl (by decide) vp k (tabB k ps) rfl (OP.alloc _) ⟨wr.heap.size, 0, none⟩ 1 1 [.bool false] rfl rfl (row_new wr #[.bool false] 4).news (fun u hu => by simp at hu; subst hu; rfl) (by decide) hml h1 hbs1 (wr.heap.size + 1) (by simp) ?_)
            intro gg cc w5 O5 G5 hat hlt5
            have OQ5 := (Ext.of_grown G5).owns (fun b hb hb2 => AP.out b hb2 hb) (OQ.alloc _)
            have hs5 := G5.size
            simp at hs5
            have hcg : w5.cell? ⟨gg, k, none⟩ = some (.bool false) := (O5.cellAt k (by simp [tabB_length])).trans (by simp [tabB])
            have hbs2 : w2.heap.size ≤ (w5.alloc (.cells #[.bool false] 4)).heap.size := by simp; omega
            have B5 : Below w2.heap.size w2 w5 := (B.alloc hsz (.cells #[.bool false] 4)).grown G5 (by simp; omega) (fun q hq => (OP.lt q hq).1)
            have AP5 := hid (show ∀ b, vq.ownBlock = some b → ¬ (Value.slice (some ⟨gg, 0, none⟩) (k + 1) cc).ownBlock = some b from fun b hb e => by
              have e : some gg = some b := e
              cases e
              rcases hat with h | h
              · exact AP.out _ h hb
              · have := (OQ.lt _ hb).2
                have h : gg = wr.heap.size + 1 := h
                omega)
            have hcm : Hid (∀ i, i < lm → w5.cell? ⟨sB ma, sO ma + i, none⟩ = some (.bool (bM i))) := hid (M2.below B5 (Nat.le_refl _)).cell
            go_wp2_with (at_builtin; refine wpList_append_lies (P := Try.prog) (w := w5.alloc (.cells #[.bool false] 4)) rfl _ _ 27 rfl w2.heap.size 4 i0 (.bool false) 1 1 Try.underlying27 hi hz0 hz1 hz2 rfl (by decide) vq k (tabB k qs) rfl (OQ5.alloc _) ⟨w5.heap.size, 0, none⟩ 1 1 [.bool false] rfl rfl (row_new w5 #[.bool false] 4).news (fun u hu => by simp at hu; subst hu; rfl) (by decide) hml h1 hbs2 (w5.heap.size + 1) (by simp) ?_)
            intro g6 c6 w6 O6 G6 hat6 hlt6
            go_wp2_with fail
            go_roundw
            case measure => simp [intOf]; omega
            case rel =>
              refine ⟨k + 1, _, _, rfl, rfl, by go_num, by omega, ?_, ?_, hid (fun b hb e => ?_), (B5.alloc (by omega) (.cells #[.bool false] 4)).grown G6 (by simp; omega) (fun q hq => (OQ5.lt q hq).1)⟩
              · rw [tabB_succ, EP.out]
                exact (Ext.of_grown G6).owns (fun b hb hb2 => AP5.out b hb2 hb) (O5.alloc _)
              · rw [tabB_succ, EQ.out]
                exact O6
              · have e : some g6 = some b := e
                cases e
                rcases hat6 with h | h
                · exact AP5.out _ h hb
                · have := (O5.lt _ hb).2
                  have h : g6 = w5.heap.size + 1 := h
                  omega
      · skip
        by_cases hkm : k < lm
        · cases bm : bM k with
          | true =>
            have n1 : ¬ ((k : Int) < (lr : Int)) := by omega
            have n2 : decide ((k : Int) < (lr : Int)) = false := by simp; omega
            have n3 : (lr : Int) ≤ (k : Int) := by omega
            have EP := hid (show ps k = false by rw [hP]; simp [hkr])
            have EQ := hid (show qs k = true by rw [hQ, hP]; simp [hkr, hkm, bm])
            have hbs1 : w2.heap.size ≤ (wr.alloc (.cells #[.bool false] 4)).heap.size := by simp; omega
            clear hP hQ
            go_wp2_with (at_builtin; refine wpList_append_lies (P := Try.prog) (w := wr.alloc (.cells #[.bool false] 4)) rfl _ _ 27 rfl w2.heap.size 4 i0 (.bool false) 1 1 Try.underlying27 hi hz0 hz1 hz2 rfl (by decide) vp k (tabB k ps) rfl (OP.alloc _) ⟨wr.heap.size, 0, none⟩ 1 1 [.bool false] rfl rfl (row_new wr #[.bool false] 4).news (fun u hu => by simp at hu; subst hu; rfl) (by decide) hml h1 hbs1 (wr.heap.size + 1) (by simp) ?_)
            intro gg cc w5 O5 G5 hat hlt5
            have OQ5 := (Ext.of_grown G5).owns (fun b hb hb2 => AP.out b hb2 hb) (OQ.alloc _)
            have hs5 := G5.size
            simp at hs5
            have hcg : w5.cell? ⟨gg, k, none⟩ = some (.bool false) := (O5.cellAt k (by simp [tabB_length])).trans (by simp [tabB])
            have hbs2 : w2.heap.size ≤ (w5.alloc (.cells #[.bool true] 4)).heap.size := by simp; omega
            have B5 : Below w2.heap.size w2 w5 := (B.alloc hsz (.cells #[.bool false] 4)).grown G5 (by simp; omega) (fun q hq => (OP.lt q hq).1)
            have AP5 := hid (show ∀ b, vq.ownBlock = some b → ¬ (Value.slice (some ⟨gg, 0, none⟩) (k + 1) cc).ownBlock = some b from fun b hb e => by
              have e : some gg = some b := e
              cases e
              rcases hat with h | h
              · exact AP.out _ h hb
              · have := (OQ.lt _ hb).2
                have h : gg = wr.heap.size + 1 := h
                omega)
            have hcm : Hid (∀ i, i < lm → w5.cell? ⟨sB ma, sO ma + i, none⟩ = some (.bool (bM i))) := hid (M2.below B5 (Nat.le_refl _)).cell
            have cm := hcm.out k hkm
            rw [bm] at cm
            have hixmk := hixm k hkm
            go_wp2_with (at_builtin; refine wpList_append_lies (P := Try.prog) (w := w5.alloc (.cells #[.bool true] 4)) rfl _ _ 27 rfl w2.heap.size 4 i0 (.bool false) 1 1 Try.underlying27 hi hz0 hz1 hz2 rfl (by decide) vq k (tabB k qs) rfl (OQ5.alloc _) ⟨w5.heap.size, 0, none⟩ 1 1 [.bool true] rfl rfl (row_new w5 #[.bool true] 4).news (fun u hu => by simp at hu; subst hu; rfl) (by decide) hml h1 hbs2 (w5.heap.size + 1) (by simp) ?_)
            intro g6 c6 w6 O6 G6 hat6 hlt6
            go_wp2_with fail
            go_roundw
            case measure => simp [intOf]; omega
            case rel =>
              refine ⟨k + 1, _, _, rfl, rfl, by go_num, by omega, ?_, ?_, hid (fun b hb e => ?_), (B5.alloc (by omega) (.cells #[.bool true] 4)).grown G6 (by simp; omega) (fun q hq => (OQ5.lt q hq).1)⟩
              · rw [tabB_succ, EP.out]
                exact (Ext.of_grown G6).owns (fun b hb hb2 => AP5.out b hb2 hb) (O5.alloc _)
              · rw [tabB_succ, EQ.out]
                exact O6
              · have e : some g6 = some b := e
                cases e
                rcases hat6 with h | h
                · exact AP5.out _ h hb
                · have := (O5.lt _ hb).2
                  have h : g6 = w5.heap.size + 1 := h
                  omega
          | false =>
            have n1 : ¬ ((k : Int) < (lr : Int)) := by omega
            have n2 : decide ((k : Int) < (lr : Int)) = false := by simp; omega
            have n3 : (lr : Int) ≤ (k : Int) := by omega
            have EP := hid (show ps k = false by rw [hP]; simp [hkr])
            have EQ := hid (show qs k = false by rw [hQ, hP]; simp [hkr, hkm, bm])
            have hbs1 : w2.heap.size ≤ (wr.alloc (.cells #[.bool false] 4)).heap.size := by simp; omega
            clear hP hQ
            go_wp2_with (at_builtin; refine wpList_append_lies (P := Try.prog) (w := wr.alloc (.cells #[.bool false] 4)) rfl _ _ 27 rfl w2.heap.size 4 i0 (.bool false) 1 1 Try.underlying27 hi hz0 hz1 hz2 rfl (by decide) vp k (tabB k ps) rfl (OP.alloc _) ⟨wr.heap.size, 0, none⟩ 1 1 [.bool false] rfl rfl (row_new wr #[.bool false] 4).news (fun u hu => by simp at hu; subst hu; rfl) (by decide) hml h1 hbs1 (wr.heap.size + 1) (by simp) ?_)
            intro gg cc w5 O5 G5 hat hlt5
            have OQ5 := (Ext.of_grown G5).owns (fun b hb hb2 => AP.out b hb2 hb) (OQ.alloc _)
            have hs5 := G5.size
            simp at hs5
            have hcg : w5.cell? ⟨gg, k, none⟩ = some (.bool false) := (O5.cellAt k (by simp [tabB_length])).trans (by simp [tabB])
            have hbs2 : w2.heap.size ≤ (w5.alloc (.cells #[.bool false] 4)).heap.size := by simp; omega
            have B5 : Below w2.heap.size w2 w5 := (B.alloc hsz (.cells #[.bool false] 4)).grown G5 (by simp; omega) (fun q hq => (OP.lt q hq).1)
            have AP5 := hid (show ∀ b, vq.ownBlock = some b → ¬ (Value.slice (some ⟨gg, 0, none⟩) (k + 1) cc).ownBlock = some b from fun b hb e => by
              have e : some gg = some b := e
              cases e
              rcases hat with h | h
              · exact AP.out _ h hb
              · have := (OQ.lt _ hb).2
                have h : gg = wr.heap.size + 1 := h
                omega)
            have hcm : Hid (∀ i, i < lm → w5.cell? ⟨sB ma, sO ma + i, none⟩ = some (.bool (bM i))) := hid (M2.below B5 (Nat.le_refl _)).cell
            have cm := hcm.out k hkm
            rw [bm] at cm
            have hixmk := hixm k hkm
            go_wp2_with (at_builtin; refine wpList_append_lies (P := Try.prog) (w := w5.alloc (.cells #[.bool false] 4)) rfl _ _ 27 rfl w2.heap.size 4 i0 (.bool false) 1 1 Try.underlying27 hi hz0 hz1 hz2 rfl (by decide) vq k (tabB k qs) rfl (OQ5.alloc _) ⟨w5.heap.size, 0, none⟩ 1 1 [.bool false] rfl rfl (row_new w5 #[.bool false] 4).news (fun u hu => by simp at hu; subst hu; rfl) (by decide) hml h1 hbs2 (w5.heap.size + 1) (by simp) ?_)
            intro g6 c6 w6 O6 G6 hat6 hlt6
            go_wp2_with fail
            go_roundw
            case measure => simp [intOf]; omega
            case rel =>
              refine ⟨k + 1, _, _, rfl, rfl, by go_num, by omega, ?_, ?_, hid (fun b hb e => ?_), (B5.alloc (by omega) (.cells #[.bool false] 4)).grown G6 (by simp; omega) (fun q hq => (OQ5.lt q hq).1)⟩
              · rw [tabB_succ, EP.out]
                exact (Ext.of_grown G6).owns (fun b hb hb2 => AP5.out b hb2 hb) (O5.alloc _)
              · rw [tabB_succ, EQ.out]
                exact O6
              · have e : some g6 = some b := e
                cases e
                rcases hat6 with h | h
                · exact AP5.out _ h hb
                · have := (O5.lt _ hb).2
                  have h : g6 = w5.heap.size + 1 := h
                  omega
        · skip
          have n1 : ¬ ((k : Int) < (lr : Int)) := by omega
          have n2 : decide ((k : Int) < (lr : Int)) = false := by simp; omega
          have n3 : (lr : Int) ≤ (k : Int) := by omega
          have m1 : ¬ ((k : Int) < (lm : Int)) := by omega
          have m2 : decide ((k : Int) < (lm : Int)) = false := by simp; omega
          have m3 : (lm : Int) ≤ (k : Int) := by omega
          have EP := hid (show ps k = false by rw [hP]; simp [hkr])
          have EQ := hid (show qs k = false by rw [hQ, hP]; simp [hkr, hkm])
          have hbs1 : w2.heap.size ≤ (wr.alloc (.cells #[.bool false] 4)).heap.size := by simp; omega
          clear hP hQ
          go_wp2_with (at_builtin; refine wpList_append_lies (P := Try.prog) (w := wr.alloc (.cells #[.bool false] 4)) rfl _ _ 27 rfl w2.heap.size 4 i0 (.bool false) 1 1 Try.underlying27 hi hz0 hz1 hz2 rfl (by decide) vp k (tabB k ps) rfl (OP.alloc _) ⟨wr.heap.size, 0, none⟩ 1 1 [.bool false] rfl rfl (row_new wr #[.bool false] 4).news (fun u hu => by simp at hu; subst hu; rfl) (by decide) hml h1 hbs1 (wr.heap.size + 1) (by simp) ?_)
          intro gg cc w5 O5 G5 hat hlt5
          have OQ5 := (Ext.of_grown G5).owns (fun b hb hb2 => AP.out b hb2 hb) (OQ.alloc _)
          have hs5 := G5.size
          simp at hs5
          have hcg : w5.cell? ⟨gg, k, none⟩ = some (.bool false) := (O5.cellAt k (by simp [tabB_length])).trans (by simp [tabB])
          have hbs2 : w2.heap.size ≤ (w5.alloc (.cells #[.bool false] 4)).heap.size := by simp; omega
          have B5 : Below w2.heap.size w2 w5 := (B.alloc hsz (.cells #[.bool false] 4)).grown G5 (by simp; omega) (fun q hq => (OP.lt q hq).1)
          have AP5 := hid (show ∀ b, vq.ownBlock = some b → ¬ (Value.slice (some ⟨gg, 0, none⟩) (k + 1) cc).ownBlock = some b from fun b hb e => by
            have e : some gg = some b := e
            cases e
            rcases hat with h | h
            · exact AP.out _ h hb
            · have := (OQ.lt _ hb).2
              have h : gg = wr.heap.size + 1 := h
              omega)
          have hcm : Hid (∀ i, i < lm → w5.cell? ⟨sB ma, sO ma + i, none⟩ = some (.bool (bM i))) := hid (M2.below B5 (Nat.le_refl _)).cell
          go_wp2_with (at_builtin; refine wpList_append_lies (P := Try.prog) (w := w5.alloc (.cells #[.bool false] 4)) rfl _ _ 27 rfl w2.heap.size 4 i0 (.bool false) 1 1 Try.underlying27 hi hz0 hz1 hz2 rfl (by decide) vq k (tabB k qs) rfl (OQ5.alloc _) ⟨w5.heap.size, 0, none⟩ 1 1 [.bool false] rfl rfl (row_new w5 #[.bool false] 4).news (fun u hu => by simp at hu; subst hu; rfl) (by decide) hml h1 hbs2 (w5.heap.size + 1) (by simp) ?_)
          intro g6 c6 w6 O6 G6 hat6 hlt6
          go_wp2_with fail
          go_roundw
          case measure => simp [intOf]; omega
          case rel =>
            refine ⟨k + 1, _, _, rfl, rfl, by go_num, by omega, ?_, ?_, hid (fun b hb e => ?_), (B5.alloc (by omega) (.cells #[.bool false] 4)).grown G6 (by simp; omega) (fun q hq => (OQ5.lt q hq).1)⟩
            · rw [tabB_succ, EP.out]
              exact (Ext.of_grown G6).owns (fun b hb hb2 => AP5.out b hb2 hb) (O5.alloc _)
            · rw [tabB_succ, EQ.out]
              exact O6
            · have e : some g6 = some b := e
              cases e
              rcases hat6 with h | h
              · exact AP5.out _ h hb
              · have := (O5.lt _ hb).2
                have h : g6 = w5.heap.size + 1 := h
                omega
    · obtain rfl : n = k := by omega
      obtain ⟨pa, pc, rfl, PA⟩ := bools_owns OP
      obtain ⟨qa, qc, rfl, QA⟩ := bools_owns OQ
      have ED3 := ED.below B (Nat.le_refl _)
      have B03 : Below w.heap.size w wr := B02.trans (B.mono (by omega))
      have hs3 : w.heap.size ≤ wr.heap.size := B03.size
      obtain ⟨W, hW⟩ : ∃ W, W = wr := ⟨_, rfl⟩
      obtain ⟨m, hm, hmn⟩ : ∃ m : Nat, first % ((n : Int) + 1) = (m : Int) ∧ m ≤ n := by
        have h1 := Int.emod_nonneg first (show ((n : Int) + 1) ≠ 0 by omega)
        have h2 := Int.emod_lt_of_pos first (show (0 : Int) < (n : Int) + 1 by omega)
        exact ⟨(first % ((n : Int) + 1)).toNat, by omega, by omega⟩
      have HM := hid hm
      have PK := pick_any first ((n : Int) + 1) wr hf (by omega) (by omega)
      rw [hm] at PK
      have NR := hid (show n ≤ 16 from hn)
      clear hm hf OP OQ AP R2 M2 ED B B02 hixr hixm hlr hlm hk hkn hW
      go_wp2_with fail
      refine PK.mono ?_
      rintro e w3 ⟨rfl, rfl⟩
      go_wp2_with fail
      refine (goodG_any ea n ec L pa pc ps m m m wr ED3 (by omega) PA.nn PA.cell (by omega) (by omega) hmn).mono ?_
      rintro e w4 ⟨za, zc, zs, p4, b4, f4, rfl, I4, z4, X4, IP4, HB4, HF4, B4⟩
      have hs4 : wr.heap.size ≤ w4.heap.size := B4.size
      have ED4 := ED3.below B4 (Nat.le_refl _)
      have QA4 := QA.below B4 (Nat.le_refl _)
      have PA4 := PA.below B4 (Nat.le_refl _)
      have IP4 := hid IP4
      have HB4 := hid HB4
      have HF4 := hid HF4
      have X4 := hid X4
      go_wp2_with fail
      refine (goodG_any ea n ec L qa qc qs m m m w4 ED4 (by omega) QA4.nn QA4.cell (by omega) (by omega) hmn).mono ?_
      rintro e w5 ⟨ya, yc, ys, p5, b5, f5, rfl, I5, z5, X5, IP5, HB5, HF5, B5⟩
      have hs5 : w4.heap.size ≤ w5.heap.size := B5.size
      have ED5 := ED4.below B5 (Nat.le_refl _)
      have PA5 := PA4.below B5 (Nat.le_refl _)
      have I45 := I4.below B5 (Nat.le_refl _)
      have IP5 := hid IP5
      have HB5 := hid HB5
      have HF5 := hid HF5
      have X5 := hid X5
      obtain ⟨m2, hm2, hmm, hm2n⟩ : ∃ m2 : Nat, min ((m : Int) + 1) (n : Int) = (m2 : Int) ∧ m ≤ m2 ∧ m2 ≤ n := ⟨min (m + 1) n, by omega, by omega, by omega⟩
      have CG := goodG_any ea n ec L pa pc ps ((m : Int) + 1) m2 m2 w5 ED5 (by omega) PA5.nn PA5.cell hm2 (by omega) hm2n
      clear hm2
      go_wp2_with fail
      refine CG.mono ?_
      rintro e w6 ⟨xa, xc, xs, p6, b6, f6, rfl, I6, z6, X6, IP6, HB6, HF6, B6⟩
      have hs6 : w5.heap.size ≤ w6.heap.size := B6.size
      have ED6 := ED5.below B6 (Nat.le_refl _)
      have PA6 := PA5.below B6 (Nat.le_refl _)
      have I46 := I45.below B6 (Nat.le_refl _)
      have I56 := I5.below B6 (Nat.le_refl _)
      have IP6 := hid IP6
      have HB6 := hid HB6
      have HF6 := hid HF6
      have X6 := hid X6
      clear CG I4 I5 I45
      go_wp2_with fail
      refine (parts_any ea n ec L w6 ED6 (by omega)).mono ?_
      rintro e w7 ⟨gp, p, rfl, hp, IP, hgp, B7⟩
      have hs7 : w6.heap.size ≤ w7.heap.size := B7.size
      have ED7 := ED6.below B7 (Nat.le_refl _)
      have IP := hid IP
      go_wp2_with fail
      refine (back_any ea n ec L w7 ED7 (by omega)).mono ?_
      rintro e w8 ⟨gb, o, rfl, hb, HO, hgb, B8⟩
      have hs8 : w7.heap.size ≤ w8.heap.size := B8.size
      have HO := hid HO
      go_wp2_with fail
      refine (known20_any w8).mono ?_
      rintro e w9 ⟨rfl, B9⟩
      have hs9 : w8.heap.size ≤ w9.heap.size := B9.size
      have hp9 := (B9.block gp (by have := lt_of_blk hp; omega)).trans ((B8.block gp (lt_of_blk hp)).trans hp)
      have hb9 := (B9.block gb (lt_of_blk hb)).trans hb
      have B69 : Below w6.heap.size w6 w9 := (B7.trans (B8.mono (by omega))).trans (B9.mono (by omega))
      have B39 : Below wr.heap.size wr w9 := ((B4.trans (B5.mono (by omega))).trans (B6.mono (by omega))).trans (B69.mono (by omega))
      have B09 : Below w.heap.size w w9 := B03.trans (B39.mono (by omega))
      have ED9 := ED3.below B39 (Nat.le_refl _)
      have PA9 := PA.below B39 (Nat.le_refl _)
      have I49 := I46.below B69 (Nat.le_refl _)
      have I59 := I56.below B69 (Nat.le_refl _)
      have I69 := I6.below B69 (Nat.le_refl _)
      have hlE := hid (edgeE_lt n L)
      have hixp := fun k (hk : k < n) => idx_at1 (P := Try.prog) (T := 27) Try.underlying27 (show (Try.prog.info? 4).map (·.size) = some 1 by kernel_rfl) (cap := pc) PA.nn hk
      have lp9 := lt_of_blk hp9
      have lb9 := lt_of_blk hb9
      clear hp hb B4 B5 B6 B7 B8 B9 B69 B39 ED3 ED4 ED5 ED6 ED7 PA4 PA5 PA6 QA4 QA PA I46 I56 I6
      go_wp2_with fail
      go_loopw [104] (fun v wx => ∃ i : Nat, v = .int .i64 i ∧ i ≤ n ∧ Below w9.heap.size w9 wx) (fun v _ => n - (intOf v).toNat)
      case atStart => exact ⟨0, rfl, Nat.zero_le _, Below.refl _ _⟩
      case round =>
        obtain ⟨i, rfl, hi0, BA⟩ := hrel
        by_cases hin : i < n
        · obtain ⟨W4, rfl⟩ : ∃ W, W = wr := ⟨wr, rfl⟩
          rename_i wi
          go_wp2_with fail
          go_loopw [19, 109] (fun u v wx => ∃ (k : Nat) (β : Bool), u = .bool β ∧ v = .int .i64 k ∧ k ≤ n ∧ Hid (β = true ↔ ∃ k', k' < k ∧ Want (edgeE n L) p ps o m i k') ∧ Below w9.heap.size w9 wx) (fun _ v _ => n - (intOf v).toNat)
          case atStart => exact ⟨0, false, rfl, rfl, Nat.zero_le _, hid (by simp), BA⟩
          case round =>
            obtain ⟨k, β, rfl, rfl, hk, HW, BK⟩ := hrel
            by_cases hkn : k < n
            · have k1 : (0 : Int) ≤ (k : Int) := by omega
              have k2 : (k : Int) < (n : Int) := by omega
              have cp := blk_cell ((BK.block gp lp9).trans hp9) (tab_get hkn)
              have co := blk_cell ((BK.block gb lb9).trans hb9) (tabB_get hkn)
              have cq := (PA9.below BK (Nat.le_refl _)).cell k hkn
              have hixpk := hixp k hkn
              have ST := hid (show (∃ k', k' < k + 1 ∧ Want (edgeE n L) p ps o m i k') ↔ ((∃ k', k' < k ∧ Want (edgeE n L) p ps o m i k') ∨ Want (edgeE n L) p ps o m i k) from ⟨fun ⟨k', h1, h2⟩ => by
                rcases Nat.lt_or_ge k' k with h | h
                · exact .inl ⟨k', h, h2⟩
                · obtain rfl : k' = k := by omega
                  exact .inr h2, fun h => h.elim (fun ⟨k', h1, h2⟩ => ⟨k', by omega, h2⟩) (fun h => ⟨k, by omega, h⟩)⟩)
              by_cases hall : p k = i ∧ ps k = true ∧ o k = true
              · obtain ⟨t1, t2, t3⟩ := hall
                rw [t1] at cp
                rw [t2] at cq
                rw [t3] at co
                have T1 := hid t1
                have T2 := hid t2
                have T3 := hid t3
                clear t1 t2 t3
                go_wp2_with fail
                go_loopw [19, 21] (fun u v wx => ∃ (j : Nat) (γ : Bool), u = .bool γ ∧ v = .int .i64 j ∧ j ≤ m ∧ Hid (γ = true ↔ (β = true ∨ ∃ j', j' < j ∧ (j' = k ∨ Lds (edgeE n L) j' k))) ∧ Below w9.heap.size w9 wx) (fun _ v _ => m - (intOf v).toNat)
                case atStart => exact ⟨0, β, rfl, rfl, Nat.zero_le _, hid (by simp), BK⟩
                case round =>
                  obtain ⟨j, γ, rfl, rfl, hj, HJ, BJ⟩ := hrel
                  have JT := hid (show (∃ j', j' < j + 1 ∧ (j' = k ∨ Lds (edgeE n L) j' k)) ↔ ((∃ j', j' < j ∧ (j' = k ∨ Lds (edgeE n L) j' k)) ∨ (j = k ∨ Lds (edgeE n L) j k)) from ⟨fun ⟨k', h1, h2⟩ => by
                    rcases Nat.lt_or_ge k' j with h | h
                    · exact .inl ⟨k', h, h2⟩
                    · obtain rfl : k' = j := by omega
                      exact .inr h2, fun h => h.elim (fun ⟨k', h1, h2⟩ => ⟨k', by omega, h2⟩) (fun h => ⟨j, by omega, h⟩)⟩)
                  by_cases hjm : j < m
                  · cases γ with
                    | true =>
                      go_wp2_with fail
                      go_roundw
                      case measure => simp [intOf]; omega
                      case rel => exact ⟨j + 1, true, rfl, by go_num, by omega, hid (by rw [JT.out, ← or_assoc, ← HJ.out]; simp), BJ⟩
                    | false =>
                      by_cases hjk : j = k
                      · subst hjk
                        go_wp2_with fail
                        go_roundw
                        case measure => simp [intOf]; omega
                        case rel => exact ⟨j + 1, true, rfl, by go_num, by omega, hid (by rw [JT.out]; simp), BJ⟩
                      · have n1 : ((j : Int) == (k : Int)) = false := by simp; omega
                        have n2 : ¬ ((j : Int) = (k : Int)) := by omega
                        have NJ := hid hjk
                        have hjn : j < n := by omega
                        have LK := leads_any ea n ec L j wr (ED9.below BJ (Nat.le_refl _)) (by omega) hjn
                        clear hjk
                        go_wp2_with fail
                        refine LK.mono ?_
                        rintro e w10 ⟨gt, f, rfl, ht, HF, hgt, B10⟩
                        have ct := blk_cell ht (tabB_get hkn)
                        have HFk' := HF k
                        have HFk := hid HFk'
                        clear HF HFk'
                        obtain ⟨φ, hφ⟩ : ∃ φ, f k = φ := ⟨_, rfl⟩
                        rw [hφ] at ct HFk
                        clear hφ
                        go_wp2_with fail
                        go_roundw
                        case measure => simp [intOf]; omega
                        case rel =>
                          refine ⟨j + 1, φ, rfl, by go_num, by omega, hid ?_, BJ.trans (B10.mono (by have := BJ.size; exact this))⟩
                          rw [JT.out, ← or_assoc, ← HJ.out, HFk.out]
                          constructor
                          · exact fun h => .inr (.inr h)
                          · rintro (h | h | h)
                            · cases h
                            · exact absurd h NJ.out
                            · exact h
                  · obtain rfl : m = j := by omega
                    go_wp2_with fail
                    go_roundw
                    case measure => simp [intOf]; omega
                    case rel =>
                      refine ⟨k + 1, γ, rfl, by go_num, by omega, hid ?_, BJ⟩
                      rw [ST.out, HJ.out, HW.out]
                      constructor
                      · rintro (h | ⟨j', h1, h2⟩)
                        · exact .inl h
                        · exact .inr ⟨T1.out, T2.out, T3.out, j', h1, h2⟩
                      · rintro (h | ⟨_, _, _, j', h1, h2⟩)
                        · exact .inl h
                        · exact .inr ⟨j', h1, h2⟩
              · have NW := hid (show ¬ Want (edgeE n L) p ps o m i k from fun h => hall ⟨h.1, h.2.1, h.2.2.1⟩)
                have HW2 : Hid (β = true ↔ ∃ k', k' < k + 1 ∧ Want (edgeE n L) p ps o m i k') := hid (by
                  rw [ST.out, HW.out]
                  exact ⟨.inl, fun h => h.elim id (fun h => absurd h NW.out)⟩)
                by_cases t1 : p k = i
                · rw [t1] at cp
                  cases t2 : ps k with
                  | false =>
                    rw [t2] at cq
                    clear hall t1 t2
                    go_wp2_with fail
                    go_roundw
                    case measure => simp [intOf]; omega
                    case rel => exact ⟨k + 1, β, rfl, by go_num, by omega, HW2, BK⟩
                  | true =>
                    have t3 : o k = false := by
                      cases h : o k
                      · rfl
                      · exact absurd ⟨t1, t2, h⟩ hall
                    rw [t2] at cq
                    rw [t3] at co
                    clear hall t1 t2 t3
                    go_wp2_with fail
                    go_roundw
                    case measure => simp [intOf]; omega
                    case rel => exact ⟨k + 1, β, rfl, by go_num, by omega, HW2, BK⟩
                · obtain ⟨x, hx⟩ : ∃ x, p k = x := ⟨_, rfl⟩
                  rw [hx] at cp t1
                  have n1 : ((x : Int) == (i : Int)) = false := by simp; omega
                  have n2 : ¬ ((x : Int) = (i : Int)) := by omega
                  clear hall hx t1
                  go_wp2_with fail
                  go_roundw
                  case measure => simp [intOf]; omega
                  case rel => exact ⟨k + 1, β, rfl, by go_num, by omega, HW2, BK⟩
            · obtain rfl : n = k := by omega
              have J4 := in_any za zs.length zc zs i wr (I49.below BK (Nat.le_refl _)) (by omega)
              have J5 := in_any ya ys.length yc ys i wr (I59.below BK (Nat.le_refl _)) (by omega)
              have J6 := in_any xa xs.length xc xs i wr (I69.below BK (Nat.le_refl _)) (by omega)
              have PQ : ∀ k, ps k = true → qs k = true := fun k h => by rw [QS.out k, h]; rfl
              have E4 := hid (show ∀ r : Bool, (r = true ↔ (i : Int) ∈ zs) → r = β from fun r hr => by
                have h1 : (i : Int) ∈ zs ↔ ∃ k', k' < n ∧ Want (edgeE n L) p ps o m i k' := by
                  rw [X4.out]
                  exact ⟨good_back IP.out IP4.out HO.out HB4.out HF4.out, good_iff (Nat.le_refl m) IP.out IP4.out HO.out HB4.out HF4.out (fun _ h => h)⟩
                have h2 := hr.trans (h1.trans HW.out.symm)
                cases r <;> cases β <;> simp_all)
              cases β with
              | true =>
                have W5 := HW.out.1 rfl
                have E5 := hid (show ∀ r : Bool, (r = true ↔ (i : Int) ∈ ys) → r = true from fun r hr => hr.2 ((X5.out _).2 (good_iff (Nat.le_refl m) IP.out IP5.out HO.out HB5.out HF5.out PQ W5)))
                have E6 := hid (show ∀ r : Bool, (r = true ↔ (i : Int) ∈ xs) → r = true from fun r hr => hr.2 ((X6.out _).2 (good_iff hmm IP.out IP6.out HO.out HB6.out HF6.out (fun _ h => h) W5)))
                clear PQ W5
                go_wp2_with fail
                refine J4.mono ?_
                rintro e w10 ⟨r4, he, hr4, rfl⟩
                obtain rfl := E4.out r4 hr4
                subst he
                clear hr4
                go_wp2_with fail
                refine J5.mono ?_
                rintro e w10 ⟨r5, he, hr5, rfl⟩
                obtain rfl := E5.out r5 hr5
                subst he
                clear hr5
                go_wp2_with fail
                refine J6.mono ?_
                rintro e w10 ⟨r6, he, hr6, rfl⟩
                obtain rfl := E6.out r6 hr6
                subst he
                clear hr6
                go_wp2_with fail
                go_roundw
                case measure => simp [intOf]; omega
                case rel => exact ⟨i + 1, by go_num, by omega, BK⟩
              | false =>
                clear PQ
                go_wp2_with fail
                refine J4.mono ?_
                rintro e w10 ⟨r4, he, hr4, rfl⟩
                obtain rfl := E4.out r4 hr4
                subst he
                clear hr4
                go_wp2_with fail
                go_roundw
                case measure => simp [intOf]; omega
                case rel => exact ⟨i + 1, by go_num, by omega, BK⟩
        · obtain rfl : n = i := by omega
          go_wp2_with fail
          go_ret
          exact ⟨rfl, B09.trans (BA.mono B09.size)⟩

end Go.Proofs.Ytfkooghdfidnpaa

