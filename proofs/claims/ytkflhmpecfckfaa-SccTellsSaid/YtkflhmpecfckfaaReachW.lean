/- scc.reached: the walk -/
import Derived.Test.YtkflhmpecfckfaaReach
open Go Go.RowKit
namespace Go.Proofs.Ytkflhmpecfckfaa
open Tj

theorem row_at (w : World) (c : Array Value) (t : TypeId) {b : Nat} (h : b = w.heap.size) : Row (w.alloc (.cells c t)) (some ⟨b, 0, none⟩) c.toList := by subst h; exact row_new w c t
theorem stkRow_cons (k : Nat) (l : List Nat) : stkRow (k :: l) = stkRow l ++ [(k : Int)] := by simp [stkRow]
theorem stkRow_length (l : List Nat) : (stkRow l).length = l.length := by simp [stkRow]
theorem stkRow_range (k : Nat) : stkRow (List.range (k + 1)).reverse = stkRow (List.range k).reverse ++ [(k : Int)] := by simp [stkRow, List.range_succ]
theorem upd_below (k : Nat) : upd (fun v => decide (v < k)) k true = fun v => decide (v < k + 1) := by
  funext x
  unfold upd
  by_cases e : x = k
  · simp [e]
  · simp only [e, if_false]
    congr 1
    apply propext
    omega

set_option maxRecDepth 100000 in
set_option maxHeartbeats 4000000 in
theorem reached_any (ea : Option Addr) (n ec : Nat) (L : Nat → List Int) (first q : Int) (m : Nat) (w : World) (hR : EdgesAt w ea n L) (hn : n ≤ 1000000) (h1 : min first (n : Int) = q) (h2 : max 0 q = (m : Int)) (hm : m ≤ n) :
    Calls Try.prog 17 #[.slice ea n ec, .int .i64 first] w fun e w' => ∃ (gb : Nat) (f : Nat → Bool), e = .returned (.slice (some ⟨gb, 0, none⟩) n n) ∧ w'.heap[gb]? = some (.cells (tabB n f).toArray 4 (0, 0)) ∧ (∀ v, f v = true ↔ ∃ j, j < m ∧ Rch (edgeE n L) j v) ∧ w.heap.size ≤ gb ∧ Below w.heap.size w w' := by
  have m2 := fun W => mkB hn W
  obtain ⟨i0, hi, hz0, hz1, hz2⟩ := info_parts iI
  go_enter Try.func17, Try.ntmps17
  go_wp2_with fail
  obtain ⟨W, hW⟩ : ∃ W, w.alloc (.cells (tabB n fun _ => false).toArray 4) = W := ⟨_, rfl⟩
  rw [hW]
  have hb0 : W.heap[w.heap.size]? = some (.cells (tabB n fun _ => false).toArray 4 (0, 0)) := hW ▸ blk_new w _
  have BW : Below w.heap.size w W := hW ▸ (Below.refl _ w).alloc (Nat.le_refl _) _
  obtain ⟨gb, hgb⟩ : ∃ gb, w.heap.size = gb := ⟨_, rfl⟩
  rw [hgb] at hb0 ⊢
  have hgbw : w.heap.size ≤ gb := by omega
  have hgbW : gb < W.heap.size := lt_of_blk hb0
  clear hW hgb m2
  have hbf : tabB n (fun v => decide (v < 0)) = tabB n fun _ => false := by congr 1
  go_loopw [6, 19] (fun tv' v wr => ∃ (k : Nat) (tv : Value), tv = tv' ∧ v = .int .i64 k ∧ k ≤ m ∧ wr.heap[gb]? = some (.cells (tabB n fun v => decide (v < k)).toArray 4 (0, 0)) ∧ wr.ownsRow W.heap.size 3 1 tv k (I8 (stkRow (List.range k).reverse)) ∧ Below w.heap.size w wr ∧ W.heap.size ≤ wr.heap.size) (fun _ v _ => m - (intOf v).toNat)
  case atStart => exact ⟨0, _, rfl, rfl, Nat.zero_le _, by rw [hbf]; exact hb0, World.ownsRow_nil _ _ _ _, BW, Nat.le_refl _⟩
  case round =>
    obtain ⟨k, tv, rfl, rfl, hk, hb, OT, B, hs⟩ := hrel
    by_cases hkm : k < m
    · have k1 : (0 : Int) ≤ (k : Int) := by omega
      have k2 : (k : Int) < (n : Int) := by omega
      have cb := blk_cell hb (tabB_get (show k < n by omega))
      have fb : wr.frozen? ⟨gb, k, none⟩ = false := blk_free hb
      have OT2 := ownsRow_setCell_below OT (show Addr.block ⟨gb, k, none⟩ < W.heap.size from hgbW) (.bool true)
      have hb2 := (blk_setCell hb (.bool true) (o := k)).trans (congrArg (fun c => some (Obj.cells c 4 (0, 0))) (tabB_set (x := true) (show k < n by omega)))
      rw [upd_below] at hb2
      have B2 : Below w.heap.size w (wr.setCell ⟨gb, k, none⟩ (.bool true)) := Below.setCell B hgbw _
      have hbs : W.heap.size ≤ ((wr.setCell ⟨gb, k, none⟩ (.bool true)).alloc (.cells #[.int .i64 k] 3)).heap.size := by simp; omega
      have h8 : (k + 1) * 8 ≤ 140737488355328 := by omega
      go_wp2_with (at_builtin; refine wpList_append_row rfl _ _ 29 rfl W.heap.size 3 i0 (.int .i64 0) Try.underlying29 hi hz0 hz1 (by omega) rfl tv k (I8 (stkRow (List.range k).reverse)) rfl (OT2.alloc _) (some ⟨wr.heap.size, 0, none⟩) 1 1 [.int .i64 k] rfl (row_at _ _ _ (by simp)) rfl (fun h => by cases h) (fun u hu => by simp at hu; subst hu; rfl) ?c4 ?c5 ?_)
      case c4 => exact h8
      case c5 => exact hbs
      intro v' w4 o4 B4 _
      go_wp2_with fail
      go_roundw
      case measure => simp [intOf]; omega
      case rel =>
        have hs4 := B4.size
        simp at hs4
        refine ⟨k + 1, v', rfl, by go_num, by omega, (B4.block gb hgbW).trans (blk_old _ hb2), ?_, (B2.alloc (by have := B2.size; exact this) _).trans (B4.mono (by have := BW.size; exact this)), by omega⟩
        rw [stkRow_range]
        simpa [I8] using o4
    · obtain rfl : m = k := by omega
      have HW := hid (Wk.start (E := edgeE n L) hm)
      have hbw : tabB n (fun v => decide (v < m)) = tabB n (fun v => decide (v < m)) := rfl
      obtain ⟨f0, hf0⟩ : ∃ f0 : Nat → Bool, (fun v => decide (v < m)) = f0 := ⟨_, rfl⟩
      obtain ⟨l0, hl0⟩ : ∃ l0, (List.range m).reverse = l0 := ⟨_, rfl⟩
      have hlen0 : m = l0.length := by rw [← hl0]; simp
      rw [hf0, hl0] at HW
      rw [hf0] at hb
      rw [hl0] at OT
      have HL0 := hid hlen0
      clear hf0 hl0 hlen0 hbw hbf
      obtain ⟨W2, rfl⟩ : ∃ W, W = wr := ⟨wr, rfl⟩
      go_wp2_with fail
      go_loopg [6] (wkw n f0 l0) (fun q tv' wr => ∃ (f : Nat → Bool) (l : List Nat) (tv : Value), tv = tv' ∧ Hid (wkw n f l = q) ∧ Hid (wkw n f l ≤ 3 * n) ∧ Hid (Wk n m (edgeE n L) f l) ∧ wr.heap[gb]? = some (.cells (tabB n f).toArray 4 (0, 0)) ∧ wr.ownsRow W.heap.size 3 1 tv l.length (I8 (stkRow l)) ∧ Below w.heap.size w wr ∧ W.heap.size ≤ wr.heap.size)
      case atStart =>
        have hl := HL0.out
        refine ⟨f0, l0, tv, rfl, hid rfl, hid (by unfold wkw; omega), HW, hb, ?_, B, hs⟩
        rw [← hl]; exact OT
      case round =>
        obtain ⟨f, l, tv1, rfl, HQ, H3, HK, hb1, O1, B1, hs1⟩ := hrel
        cases l with
        | nil =>
          obtain ⟨pa, pc, rfl⟩ := owns_slice O1
          simp only [List.length_nil] at O1 ⊢
          go_wp2_with fail
          go_ret
          exact ⟨gb, f, rfl, hb1, HK.out.fin, hgbw, B1⟩
        | cons k r =>
          obtain ⟨g, c, rfl, hgc⟩ := owns_some O1 (by simp)
          have hkn := (HK.out.inl k (by simp)).2
          have hlr : (k :: r).length = r.length + 1 := rfl
          have ck : wr.cell? ⟨g, r.length, none⟩ = some (.int .i64 (k : Int)) := by
            rw [O1.cellAt r.length (by rw [hlr]; omega), I8_get (by rw [stkRow_length, hlr]; omega), stkRow_cons, List.getElem?_append_right (by rw [stkRow_length]; omega), stkRow_length, Nat.sub_self]
            rfl
          have O2 := owns_take O1 (r := r.length) (by rw [hlr]; omega)
          have e2 : (I8 (stkRow (k :: r))).take r.length = I8 (stkRow r) := by
            rw [I8, I8, ← List.map_take, stkRow_cons, ← stkRow_length r, List.take_left]
          rw [e2] at O2
          have hrn : r.length ≤ c := by rw [hlr] at hgc; omega
          rw [hlr]
          obtain ⟨R, hRr⟩ : ∃ R, r.length = R := ⟨_, rfl⟩
          rw [hRr] at ck O2 hrn
          rw [hRr]
          have HRr := hid hRr
          have hRb : R ≤ 3000000 := by
            have h5 := H3.out
            unfold wkw at h5
            simp at h5
            omega
          obtain ⟨ak, lk, cak, hck, hik, hlk⟩ := (hR.below B1 (Nat.le_refl _)).row k hkn
          have FC := followers_any ea n ec k ak lk cak (L k) wr hkn (hR.nn (by omega)) hck hik hlk
          have hwk : wkw n f r < gk := by rw [← HQ.out]; unfold wkw; simp
          have hw3 : Hid (wkw n f r ≤ 3 * n) := hid (by have := H3.out; unfold wkw at this ⊢; simp at this; omega)
          have HP := hid HK.out.pop
          clear hlr hRr O1 e2 hck hik
          go_wp2_with fail
          refine FC.mono ?_
          rintro e w2 ⟨a2, m2, c2, rfl, I2, D2, hof, B2⟩
          rw [edgeE_ints hkn] at I2
          have hm2 : m2 = (edgeE n L k).length := by rw [← I2.len, List.length_map]
          have hE2 := edgeE_lt n L k
          have hsw : wr.heap.size ≤ w2.heap.size := B2.size
          have hb2 := (B2.block gb (lt_of_blk hb1)).trans hb1
          have O3 := Below.owns B2 (Nat.le_refl _) O2
          have hloc : 0 < m2 → W.heap.size ≤ sB a2 ∧ sB a2 < w2.heap.size ∧ (Value.slice (some ⟨g, 0, none⟩) R c).ownBlock ≠ some (sB a2) := fun h0 => by
            have hnn : a2 ≠ none := fun e => by have := (I2.nil e).1; omega
            obtain ⟨p1, p2⟩ := D2 hnn
            refine ⟨by omega, p2, fun e => ?_⟩
            have := (O2.lt _ e).2
            omega
          have hMb : m2 ≤ 1000000 := by
            have h1 : (edgeE n L k).length ≤ (L k).length := by unfold edgeE; rw [if_pos hkn, List.length_map]; exact List.length_filter_le _ _
            obtain ⟨a', l', c', h2, h3, h4⟩ := hR.row k hkn
            have := h3.len
            omega
          obtain ⟨EK, hEK⟩ : ∃ EK, edgeE n L k = EK := ⟨_, rfl⟩
          rw [hEK] at I2 hm2 hE2
          have HEK := hid hEK
          have HM := hid hm2
          have HE2 := hid hE2
          have B3 : Below w.heap.size w w2 := B1.trans (B2.mono (by have := BW.size; omega))
          have OR3 : w2.ownsRow W.heap.size 3 1 (.slice (some ⟨g, 0, none⟩) R c) r.length (I8 (stkRow r)) := by rw [HRr.out]; exact O3
          clear hEK hm2 hE2 FC O3
          go_wp2_with fail
          go_loopw [6, 48] (fun tv' v wx => ∃ (j : Nat) (f' : Nat → Bool) (l' : List Nat) (tv : Value), tv = tv' ∧ v = .int .i64 j ∧ j ≤ m2 ∧ Hid (wkw n f' l' ≤ wkw n f r) ∧ Hid (Wj n m (edgeE n L) f' l' k (EK.take j)) ∧ wx.heap[gb]? = some (.cells (tabB n f').toArray 4 (0, 0)) ∧ wx.ownsRow W.heap.size 3 1 tv l'.length (I8 (stkRow l')) ∧ Hid (IntsAt wx a2 m2 c2 (EK.map Int.ofNat)) ∧ Hid (0 < m2 → W.heap.size ≤ sB a2 ∧ sB a2 < wx.heap.size ∧ tv.ownBlock ≠ some (sB a2)) ∧ Below w.heap.size w wx ∧ W.heap.size ≤ wx.heap.size) (fun _ v _ => m2 - (intOf v).toNat)
          case atStart => exact ⟨0, f, r, _, rfl, rfl, Nat.zero_le _, hid (Nat.le_refl _), hid (by simpa using HP.out), hb2, OR3, hid I2, hid hloc, B3, by omega⟩
          case round =>
            obtain ⟨j, f', l', tv, rfl, rfl, hj, HW', HJ, hb3, O4, HI, HL, B4, hs4⟩ := hrel
            by_cases hjm : j < m2
            · have hjE : j < EK.length := by rw [← HM.out]; exact hjm
              obtain ⟨ab, ao, rfl⟩ : ∃ ab ao, a2 = some ⟨ab, ao, none⟩ := ⟨_, _, HI.out.row.nn (by rw [I8_length, List.length_map]; omega)⟩
              have hxE : EK[j]?.getD 0 ∈ EK := by rw [List.getElem?_eq_getElem hjE]; exact List.getElem_mem _
              have hxn := HE2.out _ hxE
              have cx : wr.cell? ⟨ab, ao + j, none⟩ = some (.int .i64 ((EK[j]?.getD 0 : Nat) : Int)) := by
                refine (HI.out.row.num (i := j) (by rw [List.length_map]; exact hjE)).trans ?_
                rw [List.getElem?_map, List.getElem?_eq_getElem hjE]
                rfl
              have TK := take_succD hjE
              obtain ⟨x, hx⟩ : ∃ x, EK[j]?.getD 0 = x := ⟨_, rfl⟩
              rw [hx] at hxn cx TK hxE
              have TK := hid TK
              have HXE := hid (show x ∈ edgeE n L k by rw [HEK.out]; exact hxE)
              clear hx hxE hjE
              have hj1 : (0 : Int) ≤ (j : Int) := by omega
              have hj2 : (j : Int) < (m2 : Int) := by omega
              have hx1 : (0 : Int) ≤ (x : Int) := by omega
              have hx2 : (x : Int) < (n : Int) := by omega
              have cb := blk_cell hb3 (tabB_get hxn)
              cases hfx : f' x with
              | true =>
                rw [hfx] at cb
                have HJ2 := hid (HJ.out.old hfx)
                clear hfx
                go_wp2_with fail
                go_roundw
                case measure => simp [intOf]; omega
                case rel =>
                  refine ⟨j + 1, f', l', tv, rfl, by go_num, by omega, HW', hid ?_, hb3, O4, HI, HL, B4, hs4⟩
                  rw [TK.out]; exact HJ2.out
              | false =>
                rw [hfx] at cb
                have fb : wr.frozen? ⟨gb, x, none⟩ = false := blk_free hb3
                have HJ2 := hid (HJ.out.new HXE.out hxn)
                have HW2 := hid (Nat.lt_of_lt_of_le (wkw_new (l := l') hxn hfx) HW'.out)
                have hll : l'.length ≤ 3000000 := by
                  have h5 := HW'.out
                  have h6 := hw3.out
                  have h7 : l'.length ≤ wkw n f' l' := by unfold wkw; omega
                  omega
                clear hfx
                have O5 := ownsRow_setCell_below O4 (show Addr.block ⟨gb, x, none⟩ < W.heap.size from hgbW) (.bool true)
                have hb5 := (blk_setCell hb3 (.bool true) (o := x)).trans (congrArg (fun c => some (Obj.cells c 4 (0, 0))) (tabB_set (x := true) hxn))
                have B5 : Below w.heap.size w (wr.setCell ⟨gb, x, none⟩ (.bool true)) := Below.setCell B4 hgbw _
                obtain ⟨M, hM⟩ : ∃ M, l'.length = M := ⟨_, rfl⟩
                rw [hM] at O5 hll
                have HM5 := hid hM
                have hbs : W.heap.size ≤ ((wr.setCell ⟨gb, x, none⟩ (.bool true)).alloc (.cells #[.int .i64 x] 3)).heap.size := by simp; omega
                have h8 : (M + 1) * 8 ≤ 140737488355328 := by omega
                have hml : M + 1 ≤ maxLen := by simp only [maxLen]; omega
                clear hM
                go_wp2_with (at_builtin; refine wpList_append_lies (P := Try.prog) _ rfl _ _ 29 rfl W.heap.size 3 i0 (.int .i64 0) 1 8 Try.underlying29 hi hz0 hz1 hz2 rfl (by decide) tv M (I8 (stkRow l')) rfl (O5.alloc _) ⟨wr.heap.size, 0, none⟩ 1 1 [.int .i64 x] rfl rfl (row_at (wr.setCell ⟨gb, x, none⟩ (.bool true)) #[.int .i64 x] 3 (by simp)).news (fun u hu => by simp at hu; subst hu; rfl) (by decide) hml h8 hbs (wr.heap.size + 1) (by simp) ?_)
                intro gg cc w6 O6 G6 hat hlt6
                go_wp2_with fail
                go_roundw
                case measure => simp [intOf]; omega
                case rel =>
                  have hM := HM5.out
                  subst hM
                  have hs6 := G6.size
                  simp at hs6
                  have hgbtv : tv.ownBlock ≠ some gb := fun e => by have := (O4.lt gb e).1; omega
                  have hx6 : Ext (fun q => q = gb ∨ tv.ownBlock = some q) wr w6 :=
                    (((Ext.refl (fun q => q = gb ∨ tv.ownBlock = some q) wr).setC (.inl rfl)).alloc _).trans (Ext.of_grown G6) (fun _ _ h => .inr h)
                  refine ⟨j + 1, upd f' x true, x :: l', _, rfl, by go_num, by omega, hid (Nat.le_of_lt HW2.out), hid (by rw [TK.out]; exact HJ2.out), (G6.block gb (by simp; omega) (Ne.symm hgbtv)).trans (blk_old _ hb5), ?_, hid (HI.out.ext hx6 (fun h0 h => ?_)), hid (fun h0 => ?_), (B5.alloc (by have := B5.size; exact this) _).grown G6 (by have := B5.size; simp at this ⊢; omega) (fun q hq => by have := (O4.lt q hq).1; have := BW.size; omega), by omega⟩
                  · rw [stkRow_cons]
                    simpa [I8] using O6
                  · obtain ⟨p1, p2, p3⟩ := HL.out h0
                    rcases h with h | h
                    · omega
                    · exact p3 h
                  · obtain ⟨p1, p2, p3⟩ := HL.out h0
                    refine ⟨p1, by omega, fun e => ?_⟩
                    have e : some gg = some (sB (some ⟨ab, ao, none⟩)) := e
                    cases e
                    rcases hat with h | h
                    · exact p3 h
                    · omega
            · obtain rfl : m2 = j := by omega
              go_wp2_with fail
              go_roundg (wkw n f' l')
              case measure => have := HW'.out; omega
              case rel =>
                refine ⟨f', l', tv, rfl, hid rfl, hid (Nat.le_trans HW'.out hw3.out), hid ?_, hb3, O4, B4, hs4⟩
                have := HJ.out
                rw [HM.out, List.take_length, ← HEK.out] at this
                exact this.close

end Go.Proofs.Ytkflhmpecfckfaa
