/- a drum that goes, whatever stands on it; a track in hand -/
import Derived.Test.YtleoelhhndeheaaGreatVTurnP
import Derived.Test.YtleoelhhndeheaaGreatStepRow
import Derived.Laws.BitsAllLaws
import Derived.Laws.CopyOwn
open Go Go.RowKit
open Go.Maps (Keyed has)
namespace Go.Proofs.YtleoelhhndeheaaGreat

/-- a track in hand: a block of its own whose first 96 cells are its bytes -/
def BufAt (w : World) (g : Nat) (zs : List Int) : Prop := ∃ cur : List Value, w.heap[g]? = some (.cells cur.toArray 5 (0, 0)) ∧ cur.take 96 = B8 zs ∧ zs.length = 96 ∧ IsBytes zs
theorem BufAt.of_owns {w : World} {base c : Nat} {a : Addr} {zs : List Int} (h : w.ownsRow base 5 1 (.slice (some a) 96 c) 96 (B8 zs)) (hb : IsBytes zs) (hl : zs.length = 96) : ∃ g, a = ⟨g, 0, none⟩ ∧ base ≤ g ∧ BufAt w g zs := by
  rcases h.2 with ⟨h', -⟩ | ⟨g, cap, cur, hv, hbg, hg, hnc, hcm, hcs, htake⟩
  · cases h'
  · have e : a = ⟨g, 0, none⟩ := by
      simp only [Value.slice.injEq, Option.some.injEq] at hv
      exact hv.1
    refine ⟨g, e, hbg, cur.toList, by simpa using hg, ?_, hl, hb⟩
    simpa using htake
theorem BufAt.lt {w : World} {g : Nat} {zs : List Int} (h : BufAt w g zs) : g < w.heap.size := by
  obtain ⟨cur, h1, -⟩ := h
  exact lt_of_blk h1
theorem BufAt.len {w : World} {g : Nat} {zs : List Int} (h : BufAt w g zs) : zs.length = 96 := by
  obtain ⟨cur, -, -, h3, -⟩ := h
  exact h3
theorem BufAt.bytes {w : World} {g : Nat} {zs : List Int} (h : BufAt w g zs) : IsBytes zs := by
  obtain ⟨cur, -, -, -, h4⟩ := h
  exact h4
theorem BufAt.below {w w' : World} {g : Nat} {zs : List Int} (h : BufAt w g zs) (k : Below w.heap.size w w') : BufAt w' g zs := by
  have hl := h.lt
  obtain ⟨cur, h1, h2⟩ := h
  exact ⟨cur, (Ext.of_below k (fun _ => False)).blk (fun h => h) h1, h2⟩
theorem BufAt.cell {w : World} {g : Nat} {zs : List Int} (h : BufAt w g zs) {k : Nat} (hk : k < 96) : w.cell? ⟨g, k, none⟩ = some (.int .u8 (zb zs k)) := by
  obtain ⟨cur, h1, h2, h3, -⟩ := h
  refine blk_cell h1 ?_
  have h4 : (cur.take 96)[k]? = some (.int .u8 (zb zs k)) := by
    rw [h2]
    unfold B8 zb
    rw [List.getElem?_map, List.getElem?_eq_getElem (by omega)]
    rfl
  rw [List.getElem?_take, if_pos hk] at h4
  simpa using h4
theorem BufAt.free {w : World} {g : Nat} {zs : List Int} (h : BufAt w g zs) (k : Nat) : w.frozen? ⟨g, k, none⟩ = false := by
  obtain ⟨cur, h1, -⟩ := h
  exact blk_free h1
theorem BufAt.row {w : World} {g : Nat} {zs : List Int} (h : BufAt w g zs) : Row w (some ⟨g, 0, none⟩) (B8 zs) := by
  refine ⟨fun _ => rfl, fun i v hv => ?_⟩
  have hi : i < 96 := by
    have h9 := h.len
    refine Classical.byContradiction fun hn => ?_
    rw [List.getElem?_eq_none (by rw [B8_length]; omega)] at hv
    cases hv
  show w.cell? ⟨g, 0 + i, none⟩ = some v
  rw [Nat.zero_add, h.cell hi]
  unfold B8 at hv
  rw [List.getElem?_map] at hv
  unfold zb
  cases hz : zs[i]? with
  | none => rw [hz] at hv; cases hv
  | some y => rw [hz] at hv; exact hv
theorem BufAt.set {w : World} {g : Nat} {zs : List Int} (h : BufAt w g zs) (k : Nat) {y : Int} (hy : 0 ≤ y ∧ y ≤ 255) : BufAt (w.setCell ⟨g, k, none⟩ (.int .u8 y)) g (zs.set k y) := by
  obtain ⟨cur, h1, h2, h3, h4⟩ := h
  refine ⟨cur.set k (.int .u8 y), by simpa using blk_setCell (o := k) h1 (.int .u8 y), ?_, by simpa using h3, fun n hn => ?_⟩
  · rw [List.take_set, h2]
    unfold B8
    rw [List.map_set]
  · rcases List.mem_or_eq_of_mem_set hn with hn | rfl
    · exact h4 n hn
    · exact hy
theorem BufAt.drew {w : World} {g : Nat} {zs : List Int} (h : BufAt w g zs) : BufAt w.drew g zs := h.below ((Below.refl _ _).drew)
/-- some bytes are copied ahead -/
theorem BufAt.copied {w' : World} {g : Nat} {zs ys : List Int} {cur : List Value} (h2 : cur.take 96 = B8 zs) (h3 : zs.length = 96) (h4 : IsBytes zs) (hy : ys.length ≤ 96) (hyb : IsBytes ys) (k : w'.heap[g]? = some (.cells (splice cur 0 (B8 ys)).toArray 5 (0, 0))) : BufAt w' g (ys ++ zs.drop ys.length) := by
  refine ⟨_, k, ?_, by simp; omega, hyb.append (h4.drop _)⟩
  unfold splice
  have e1 : cur = B8 zs ++ cur.drop 96 := by rw [← h2, List.take_append_drop]
  rw [List.take_zero, List.nil_append, Nat.zero_add, B8_length]
  rw [List.take_append, B8_length]
  have e2 : (B8 ys).take 96 = B8 ys := List.take_of_length_le (by rw [B8_length]; exact hy)
  rw [e2]
  have e3 : (cur.drop ys.length).take (96 - ys.length) = B8 (zs.drop ys.length) := by
    rw [← List.drop_take, h2]
    unfold B8
    rw [List.map_drop]
  rw [e3]
  unfold B8
  rw [List.map_append]

/-- copy into a track in hand -/
theorem copy_buf {w : World} {g c yl yc : Nat} {zt yz : List Int} {ya : Option Addr} (b : BufAt w g zt) (hy : ByteIn w ya yl yc yz) :
    ∃ n w', (∀ ty, (Builtin.copy_ #[27, 27] ty #[.slice (some ⟨g, 0, none⟩) 96 c, .slice ya yl yc]).run Tryz.prog w = .ok (goInt n) w') ∧ (∃ zt', BufAt w' g zt') ∧ ∀ (K : Nat) (w0 : World), Below K w0 w → K ≤ g → Below K w0 w' := by
  have szU : (Tryz.prog.info? 5).map (·.size) = some 1 := by kernel_rfl
  by_cases h0 : yl = 0
  · subst h0
    refine ⟨0, w, fun ty => run_copy_none (P := Tryz.prog) w _ _ ty 5 _ _ 96 c 0 yc Tryz.underlying27 szU (by simp), ⟨zt, b⟩, fun K w0 h _ => h⟩
  · obtain ⟨cur, q1, q2, q3, q4⟩ := b
    have hya := hy.hrow.nn (by rw [B8_length, hy.hlen]; omega)
    have hl : (B8 (yz.take 96)).length = min yl 96 := by rw [B8_length, List.length_take, hy.hlen, Nat.min_comm]
    have hcur : 96 ≤ cur.length := by
      have h9 : (cur.take 96).length = 96 := by rw [q2, B8_length, q3]
      rw [List.length_take] at h9
      omega
    have hc : ∀ j v, (B8 (yz.take 96))[j]? = some v → w.cell? ((⟨sB ya, sO ya, none⟩ : Addr).add j) = some v := fun j v hv => by
      rw [add_eq]
      refine hy.hrow.cell j v ?_
      unfold B8 at hv ⊢
      rw [List.map_take, List.getElem?_take] at hv
      split at hv
      · exact hv
      · cases hv
    refine ⟨_, _, fun ty => by rw [hya]; exact run_copy_row (P := Tryz.prog) w _ _ ty 5 g 0 96 c ⟨sB ya, sO ya, none⟩ yl yc cur.toArray 5 (B8 (yz.take 96)) Tryz.underlying27 szU q1 hl hc (by rw [hl]; simp; omega) (B8_one _), ⟨_, BufAt.copied (zs := zt) (ys := yz.take 96) q2 q3 q4 (List.length_take_le ..) (hy.hbytes.take 96) ?_⟩, fun K w0 h hK => below_setRow h hK _⟩
    have := setRow_heap w g cur.toArray (cur.toArray.toList.take 0 ++ B8 (yz.take 96) ++ cur.toArray.toList.drop (0 + (B8 (yz.take 96)).length)).toArray 5 _ q1
    rw [this]
    unfold splice
    simp

/-- a drum that goes -/
def RawD (w1 w : World) (d n N : Nat) : Prop := ∃ M s, DrumAt w M d s ∧ s.Up ∧ s.Wf ∧ s.n = n ∧ s.up.length ≤ 10000000 + N ∧ Since w1 w M none'
/-- a vault that was opened -/
def VGot (w1 w : World) (v H : Nat) (R : Rcs) : Prop := ∃ M B C d l mb s L, VSys w M B C d l mb v s L R R ∧ L.Lv s ∧ L.H s = H ∧ RcsOk R H ∧ Below w1.heap.size w1 w
section
variable {w1 w : World} {d n N : Nat}
theorem RawD.since (h : RawD w1 w d n N) : Below w1.heap.size w1 w := by
  obtain ⟨M, s, -, -, -, -, -, h6⟩ := h
  exact h6.below
theorem RawD.below {w' : World} (h : RawD w1 w d n N) (k : Below w.heap.size w w') : RawD w1 w' d n N := by
  obtain ⟨M, s, h1, h2, h3, h4, h5, h6⟩ := h
  exact ⟨M, s, h1.below k, h2, h3, h4, h5, h6.to k⟩
theorem RawD.le {N' : Nat} (h : RawD w1 w d n N) (hN : N ≤ N') : RawD w1 w d n N' := by
  obtain ⟨M, s, h1, h2, h3, h4, h5, h6⟩ := h
  exact ⟨M, s, h1, h2, h3, h4, by omega, h6⟩
theorem RawD.look (h : RawD w1 w d n N) (k : Int) (hk : 0 ≤ k ∧ k < n) :
    Calls Tryz.prog 20 #[.pointer (some ⟨d, 0, none⟩), .int .i64 k] w fun e w' => ∃ g c zs, e = .returned (.tuple #[.slice (some ⟨g, 0, none⟩) 96 c, .int .i64 0]) ∧ w.heap.size ≤ g ∧ BufAt w' g zs ∧ Below w.heap.size w w' := by
  obtain ⟨M, s, h1, h2, h3, h4, h5, h6⟩ := h
  refine (look_any h1 k).mono ?_
  rintro e w' ⟨⟨hn, -⟩ | ⟨-, -, hb, -⟩ | ⟨-, -, -, a, c, rfl, O, hl, hb⟩, B⟩
  · exact absurd (by rw [h4]; exact hk) hn
  · rw [h2.broken] at hb; cases hb
  · obtain ⟨g, rfl, hg, hbuf⟩ := BufAt.of_owns O hb hl
    exact ⟨g, c, _, rfl, hg, hbuf, B⟩
theorem RawD.lay {w0 : World} (h : RawD w1 w0 d n N) (kb : Below w0.heap.size w0 w) (k : Int) (hk : 0 ≤ k ∧ k < n) {g c : Nat} {zs : List Int} (hg : w0.heap.size ≤ g) (hb : BufAt w g zs) (hN : N ≤ 1000) :
    Calls Tryz.prog 21 #[.pointer (some ⟨d, 0, none⟩), .int .i64 k, .slice (some ⟨g, 0, none⟩) 96 c] w fun e w' => e = .returned (.int .i64 0) ∧ RawD w1 w' d n (N + 1) := by
  obtain ⟨M, s, h1, h2, h3, h4, h5, h6⟩ := h
  obtain ⟨e1, e2⟩ := h2.layC (k := k) (by rw [h4]; exact hk) hb.len
  refine (lay_any (h1.below kb) k (some ⟨g, 0, none⟩) 96 c zs hb.row hb.len hb.bytes (fun h => by cases h) (fun _ hm => ?_) (by omega)).mono ?_
  · obtain ⟨p, -, D⟩ := h1
    have := D.ml g hm
    omega
  · rintro e w' ⟨rfl, M', D, S⟩
    rw [e1] at D
    rw [e2]
    refine ⟨rfl, M', _, D, h2.lay1 _ _, fun j hj => ?_, h4, ?_, (h6.to kb).step S⟩
    · show (upd s.now k.toNat zs j).length = 96 ∧ IsBytes (upd s.now k.toNat zs j)
      unfold upd
      split
      · exact ⟨hb.len, hb.bytes⟩
      · exact h3 j hj
    · show (s.up ++ [_]).length ≤ _
      rw [List.length_append, List.length_singleton]
      omega
theorem RawD.settle (h : RawD w1 w d n N) : Calls Tryz.prog 22 #[.pointer (some ⟨d, 0, none⟩)] w fun e w' => e = .returned (.int .i64 0) ∧ RawD w1 w' d n N := by
  obtain ⟨M, s, h1, h2, h3, h4, h5, h6⟩ := h
  refine (settle_any h1).mono ?_
  rintro e w' ⟨rfl, M', D, S⟩
  rw [h2.settle] at D
  rw [h2.code]
  exact ⟨rfl, M', _, D, h2.settle1, h3, h4, Nat.zero_le _, h6.step S⟩
theorem RawD.opened (h : RawD w1 w d n N) (hn : 2 ≤ n ∧ n ≤ 4096) (hN : N ≤ 1000) : Calls Tryz.prog 18 #[.pointer (some ⟨d, 0, none⟩)] w fun e w' => (e = .returned (.tuple #[.pointer none, .int .i64 11]) ∧ Below w1.heap.size w1 w') ∨ ∃ v H R, e = .returned (.tuple #[.pointer (some ⟨v, 0, none⟩), .int .i64 0]) ∧ VGot w1 w' v H R := by
  obtain ⟨M, s, h1, h2, h3, h4, h5, h6⟩ := h
  refine (openVRaw h1 h2 h3 (by omega) (by omega) (by omega)).mono ?_
  rintro e w' (⟨-, rfl, M', T⟩ | ⟨-, M', B', C', l, mb, v, s', L', R, rfl, T, VS, lv, hH, ok, -⟩)
  · exact .inl ⟨rfl, (h6.lstep T).below⟩
  · exact .inr ⟨v, _, R, rfl, M', B', C', d, l, mb, s', L', VS, lv, hH, ok, (h6.lstep T).below⟩
theorem VGot.below {w' : World} {v H : Nat} {R : Rcs} (h : VGot w1 w v H R) (k : Below w.heap.size w w') : VGot w1 w' v H R := by
  obtain ⟨M, B, C, d, l, mb, s, L, h1, h2, h3, h4, h5⟩ := h
  exact ⟨M, B, C, d, l, mb, s, L, h1.below k, h2, h3, h4, h5.trans (k.mono h5.size)⟩
theorem VRun.closeRaw {lv : Int} {N v : Nat} {Rn Rk : Rcs} {ms : List (Nat × DT)} (h : VRun w1 w d n lv N v Rn Rk ms) (hN : N ≤ 999) : Calls Tryz.prog 19 #[.pointer (some ⟨v, 0, none⟩)] w fun e w' => e = .returned (.int .i64 0) ∧ RawD w1 w' d n 0 := by
  obtain ⟨M, B, C, l, mb, s, L, V, h1, h2, h3⟩ := h.out
  refine (closeV_any h1.vs (Q := fun c w' => c = 0 ∧ RawD w1 w' d n 0) ((balanceU h1.live (by omega)).mono ?_)).mono ?_
  · rintro e w' ⟨rfl, M', B', mb', s', L', T, LV, -⟩
    obtain ⟨P, f⟩ := LV.full
    have hu := LV.up
    exact ⟨0, rfl, rfl, M', s', LV.sys.drum, f.g.up, f.g.wf, LV.n, by omega, (h2.lstep (T.vault (C := C))).forget⟩
  · rintro e w' ⟨c, rfl, rfl, k⟩
    exact ⟨rfl, k⟩
end

end Go.Proofs.YtleoelhhndeheaaGreat
