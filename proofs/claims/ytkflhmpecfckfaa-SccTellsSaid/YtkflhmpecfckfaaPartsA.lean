/- lariatref13.Parts: the first phase's state -/
import Derived.Test.YtkflhmpecfckfaaRPart
open Go Go.RowKit
namespace Go.Proofs.Ytkflhmpecfckfaa
open Tj

def lenE (L : Nat → List Int) (v : Nat) : List Nat := (L v).map Int.toNat
theorem lenE_length (L : Nat → List Int) (v : Nat) : (lenE L v).length = (L v).length := by simp [lenE]
/-- what is still to do in the first phase -/
def mq (n : Nat) (L : Nat → List Int) (met : Nat → Bool) (way : List (Nat × Nat)) : Nat := unmet n (lenE L) (fun v => if met v = true then 1 else 0) + Tj.ahead (lenE L) way
theorem mq_leave {n k g : Nat} {L : Nat → List Int} {met : Nat → Bool} {r : List (Nat × Nat)} : mq n L met r < mq n L met ((k, g) :: r) := by
  unfold mq Tj.ahead
  simp only [List.map_cons, List.sum_cons]
  omega
theorem mq_bump {n k g : Nat} {L : Nat → List Int} {met : Nat → Bool} {r : List (Nat × Nat)} (h : g < (L k).length) : mq n L met ((k, g + 1) :: r) < mq n L met ((k, g) :: r) := by
  unfold mq Tj.ahead
  simp only [List.map_cons, List.sum_cons, lenE_length]
  omega
theorem upd_ones (met : Nat → Bool) (t : Nat) : (fun v => if upd met t true v = true then 1 else 0) = upd (fun v => if met v = true then 1 else 0) t 1 := by
  funext v
  unfold upd
  by_cases e : v = t <;> simp [e]
theorem mq_into {n k g t : Nat} {L : Nat → List Int} {met : Nat → Bool} {r : List (Nat × Nat)} (h : g < (L k).length) (ht : t < n) (hm : met t = false) : mq n L (upd met t true) ((t, 0) :: (k, g + 1) :: r) < mq n L met ((k, g) :: r) := by
  have h1 := unmet_upd (N := n) (E := lenE L) (f := fun v => if met v = true then 1 else 0) (c := 1) ht (by simp [hm]) (by omega)
  unfold mq Tj.ahead
  rw [upd_ones]
  simp only [List.map_cons, List.sum_cons, lenE_length] at h1 ⊢
  omega

/-- the first phase's state, and where it stands -/
structure P1 (w0 wr : World) (Bm gm n : Nat) (L : Nat → List Int) (lv wv gv : Value) (met : Nat → Bool) (left : List Nat) (way : List (Nat × Nat)) : Prop where
  r3 : R3 wr Bm lv wv gv left (way.map Prod.fst) (way.map Prod.snd)
  bm : wr.heap[gm]? = some (.cells (tabB n met).toArray 4 (0, 0))
  k1 : K1 n (edgeE n L) (DD n L) met left way
  le : ∀ p ∈ way, p.2 ≤ (L p.1).length
  below : Below w0.heap.size w0 wr
  ge : w0.heap.size ≤ gm
  lt : gm < Bm
  sz : Bm ≤ wr.heap.size
section
variable {w0 wr w6 : World} {Bm gm n : Nat} {L : Nat → List Int} {lv wv gv : Value} {met : Nat → Bool} {left : List Nat} {way r : List (Nat × Nat)}
theorem P1.to (h : P1 w0 wr Bm gm n L lv wv gv met left way) (k : Below wr.heap.size wr w6) : P1 w0 w6 Bm gm n L lv wv gv met left way :=
  ⟨h.r3.below k, (k.block gm (lt_of_blk h.bm)).trans h.bm, h.k1, h.le, h.below.trans (k.mono h.below.size), h.ge, h.lt, Nat.le_trans h.sz k.size⟩
theorem P1.wayLen (h : P1 w0 wr Bm gm n L lv wv gv met left way) : way.length + left.length ≤ n := by
  have h1 := nodup_le h.k1.nd (fun v hv => by
    refine h.k1.lt v ((h.k1.mt v).2 ?_)
    rcases List.mem_append.1 hv with hv | hv
    · exact .inr hv
    · exact .inl hv)
  simpa using h1
theorem grown_blk {o : Obj} {v : Value} {b : Nat} {x : Obj} (G : (wr.alloc o).grownBy w6 v.ownBlock) (h : wr.heap[b]? = some x) (hne : v.ownBlock ≠ some b) : w6.heap[b]? = some x :=
  (G.block b (by have := lt_of_blk h; simp; omega) (Ne.symm hne)).trans (blk_old _ h)
theorem R3.notM {b0 b : Nat} {vl vw vg : Value} {ln wn gn : List Nat} (h : R3 wr b0 vl vw vg ln wn gn) (hb : b < b0) : vl.ownBlock ≠ some b ∧ vw.ownBlock ≠ some b ∧ vg.ownBlock ≠ some b :=
  ⟨fun e => by have := (h.ol.lt b e).1; omega, fun e => by have := (h.ow.lt b e).1; omega, fun e => by have := (h.og.lt b e).1; omega⟩
/-- what a step by an append keeps -/
theorem P1.grown {o : Obj} {v : Value} (h : P1 w0 wr Bm gm n L lv wv gv met left way) (G : (wr.alloc o).grownBy w6 v.ownBlock) (hv : ∀ q, v.ownBlock = some q → Bm ≤ q) : w6.heap[gm]? = some (.cells (tabB n met).toArray 4 (0, 0)) ∧ Below w0.heap.size w0 w6 ∧ Bm ≤ w6.heap.size := by
  have hs := G.size
  simp at hs
  have := h.sz
  refine ⟨grown_blk G h.bm (fun e => by have := hv gm e; have := h.lt; omega), (h.below.alloc h.below.size o).grown G (by have := h.below.size; simp; omega) (fun q hq => by have := hv q hq; have := h.ge; have := h.lt; omega), by omega⟩
/-- a node is left -/
theorem P1.leave {gw cw gg cg k g g' c' : Nat} {o : Obj} (h : P1 w0 wr Bm gm n L lv (.slice (some ⟨gw, 0, none⟩) (r.length + 1) cw) (.slice (some ⟨gg, 0, none⟩) (r.length + 1) cg) met left ((k, g) :: r)) (hg : g = (L k).length)
    (O : w6.ownsRow Bm 3 1 (.slice (some ⟨g', 0, none⟩) (left.length + 1) c') (left.length + 1) (I8 (left.map Int.ofNat) ++ [.int .i64 (k : Int)])) (G : (wr.alloc o).grownBy w6 lv.ownBlock) (hat : lv.ownBlock = some g' ∨ g' = wr.heap.size + 1) :
    P1 w0 w6 Bm gm n L (.slice (some ⟨g', 0, none⟩) (left.length + 1) c') (.slice (some ⟨gw, 0, none⟩) r.length cw) (.slice (some ⟨gg, 0, none⟩) r.length cg) met (left ++ [k]) r := by
  obtain ⟨e1, e2, e3⟩ := h.grown G (fun q hq => (h.r3.ol.lt q hq).1)
  have h3 := h.r3.pushL O G hat
  have h4 : R3 w6 Bm (.slice (some ⟨g', 0, none⟩) (left.length + 1) c') (.slice (some ⟨gw, 0, none⟩) ((r.map Prod.fst).length + 1) cw) (.slice (some ⟨gg, 0, none⟩) ((r.map Prod.snd).length + 1) cg) (left ++ [k]) (k :: r.map Prod.fst) (g :: r.map Prod.snd) := by
    simpa using h3
  have h5 := h4.pop
  simp only [List.length_map] at h5
  subst hg
  exact ⟨h5, e1, h.k1.leave (DD.edg n L), fun p hp => h.le p (List.mem_cons_of_mem _ hp), e2, h.ge, h.lt, e3⟩
/-- an edge more is gone, and leads nowhere new -/
theorem P1.bump {gg cg k g : Nat} (h : P1 w0 wr Bm gm n L lv wv (.slice (some ⟨gg, 0, none⟩) (r.length + 1) cg) met left ((k, g) :: r)) (hg : g < (L k).length) (hu : ∀ u, DD n L k (g + 1) u → DD n L k g u ∨ met u = true) :
    P1 w0 (wr.setCell ⟨gg, r.length, none⟩ (.int .i64 ((g : Int) + 1))) Bm gm n L lv wv (.slice (some ⟨gg, 0, none⟩) (r.length + 1) cg) met left ((k, g + 1) :: r) := by
  have h4 : R3 wr Bm lv wv (.slice (some ⟨gg, 0, none⟩) ((r.map Prod.snd).length + 1) cg) left (k :: r.map Prod.fst) (g :: r.map Prod.snd) := by simpa using h.r3
  have h5 := h4.bump
  simp only [List.length_map] at h5
  have hgg : Bm ≤ gg := (h.r3.og.lt gg rfl).1
  refine ⟨by simpa using h5, (Below.heap_setCell _ _ _ _ (by show ¬ gm = gg; have := h.lt; omega)).trans h.bm, h.k1.bump hu, fun p hp => ?_, Below.setCell h.below (by show w0.heap.size ≤ gg; have := h.ge; have := h.lt; omega) _, h.ge, h.lt, by simpa using h.sz⟩
  rcases List.mem_cons.1 hp with rfl | hp
  · exact hg
  · exact h.le p (List.mem_cons_of_mem _ hp)
theorem P1.into0 {gw cw gg cg k g t : Nat} (h : P1 w0 wr Bm gm n L lv (.slice (some ⟨gw, 0, none⟩) (r.length + 1) cw) (.slice (some ⟨gg, 0, none⟩) (r.length + 1) cg) met left ((k, g) :: r)) :
    R3 ((wr.setCell ⟨gg, r.length, none⟩ (.int .i64 ((g : Int) + 1))).setCell ⟨gm, t, none⟩ (.bool true)) Bm lv (.slice (some ⟨gw, 0, none⟩) (r.length + 1) cw) (.slice (some ⟨gg, 0, none⟩) (r.length + 1) cg) left (k :: r.map Prod.fst) ((g + 1) :: r.map Prod.snd) := by
  have h4 : R3 wr Bm lv (.slice (some ⟨gw, 0, none⟩) (r.length + 1) cw) (.slice (some ⟨gg, 0, none⟩) ((r.map Prod.snd).length + 1) cg) left (k :: r.map Prod.fst) (g :: r.map Prod.snd) := by simpa using h.r3
  have h5 := h4.bump
  simp only [List.length_map] at h5
  exact h5.low h.lt
theorem P1.into1 {wt : World} {gw cw gg cg k g t g1 c1 : Nat} {o : Obj} (h5 : R3 wt Bm lv (.slice (some ⟨gw, 0, none⟩) (r.length + 1) cw) (.slice (some ⟨gg, 0, none⟩) (r.length + 1) cg) left (k :: r.map Prod.fst) ((g + 1) :: r.map Prod.snd))
    (O : w6.ownsRow Bm 3 1 (.slice (some ⟨g1, 0, none⟩) (r.length + 1 + 1) c1) (r.length + 1 + 1) (I8 (stkRow (k :: r.map Prod.fst)) ++ [.int .i64 (t : Int)])) (G : (wt.alloc o).grownBy w6 (some gw)) (hat : gw = g1 ∨ g1 = wt.heap.size + 1) :
    R3 w6 Bm lv (.slice (some ⟨g1, 0, none⟩) (r.length + 1 + 1) c1) (.slice (some ⟨gg, 0, none⟩) (r.length + 1) cg) left (t :: k :: r.map Prod.fst) ((g + 1) :: r.map Prod.snd) := by
  have h6 := h5.pushW (k := t) (g' := g1) (c' := c1) (by simpa using O) G (by rcases hat with e | e; exact .inl (by rw [e]; rfl); exact .inr e)
  simpa using h6
theorem P1.into2 {wy w8 : World} {gw cw gg cg k g t g1 c1 g2 c2 : Nat} {o o2 : Obj} (h : P1 w0 wr Bm gm n L lv (.slice (some ⟨gw, 0, none⟩) (r.length + 1) cw) (.slice (some ⟨gg, 0, none⟩) (r.length + 1) cg) met left ((k, g) :: r)) (hg : g < (L k).length) (htn : t < n) (ht : met t = false) (hE : t ∈ edgeE n L k) (hu : ∀ u, DD n L k (g + 1) u → DD n L k g u ∨ u = t)
    (G : (((wr.setCell ⟨gg, r.length, none⟩ (.int .i64 ((g : Int) + 1))).setCell ⟨gm, t, none⟩ (.bool true)).alloc o).grownBy wy (some gw))
    (h6 : R3 wy Bm lv (.slice (some ⟨g1, 0, none⟩) (r.length + 1 + 1) c1) (.slice (some ⟨gg, 0, none⟩) (r.length + 1) cg) left (t :: k :: r.map Prod.fst) ((g + 1) :: r.map Prod.snd))
    (O : w8.ownsRow Bm 3 1 (.slice (some ⟨g2, 0, none⟩) (r.length + 1 + 1) c2) (r.length + 1 + 1) (I8 (stkRow ((g + 1) :: r.map Prod.snd)) ++ [.int .i64 0])) (G2 : (wy.alloc o2).grownBy w8 (some gg)) (hat : gg = g2 ∨ g2 = wy.heap.size + 1) :
    P1 w0 w8 Bm gm n L lv (.slice (some ⟨g1, 0, none⟩) (r.length + 1 + 1) c1) (.slice (some ⟨g2, 0, none⟩) (r.length + 1 + 1) c2) (upd met t true) left ((t, 0) :: (k, g + 1) :: r) := by
  have h7 := h6.pushG (k := 0) (g' := g2) (c' := c2) (by simpa using O) G2 (by rcases hat with e | e; exact .inl (by rw [e]; rfl); exact .inr e)
  have hgg : Bm ≤ gg := (h.r3.og.lt gg rfl).1
  have hgw : Bm ≤ gw := (h.r3.ow.lt gw rfl).1
  have hge := h.ge
  have hlt := h.lt
  have hsz := h.sz
  have b1 : ((wr.setCell ⟨gg, r.length, none⟩ (.int .i64 ((g : Int) + 1))).setCell ⟨gm, t, none⟩ (.bool true)).heap[gm]? = some (.cells (tabB n (upd met t true)).toArray 4 (0, 0)) :=
    (blk_setCell ((Below.heap_setCell _ _ _ _ (by show ¬ gm = gg; omega)).trans h.bm) (.bool true) (o := t)).trans (congrArg (fun c => some (Obj.cells c 4 (0, 0))) (tabB_set (x := true) htn))
  have k1 : Below w0.heap.size w0 ((wr.setCell ⟨gg, r.length, none⟩ (.int .i64 ((g : Int) + 1))).setCell ⟨gm, t, none⟩ (.bool true)) :=
    Below.setCell (Below.setCell h.below (by show w0.heap.size ≤ gg; omega) _) (by show w0.heap.size ≤ gm; omega) _
  have sA : ((wr.setCell ⟨gg, r.length, none⟩ (.int .i64 ((g : Int) + 1))).setCell ⟨gm, t, none⟩ (.bool true)).heap.size = wr.heap.size := by simp
  have s1 := G.size
  have s2 := G2.size
  simp only [size_alloc] at s1 s2
  rw [sA] at s1
  have h0 := h.below.size
  have b2 := grown_blk (v := .slice (some ⟨gw, 0, none⟩) 0 0) G b1 (fun e => by have e : gw = gm := Option.some.inj e; omega)
  have b3 := grown_blk (v := .slice (some ⟨gg, 0, none⟩) 0 0) G2 b2 (fun e => by have e : gg = gm := Option.some.inj e; omega)
  have k2 : Below w0.heap.size w0 wy := (k1.alloc (by rw [sA]; exact h0) o).grown G (by simp only [size_alloc]; rw [sA]; omega) (fun q hq => by cases hq; omega)
  have k3 : Below w0.heap.size w0 w8 := (k2.alloc (by omega) o2).grown G2 (by simp only [size_alloc]; omega) (fun q hq => by cases hq; omega)
  refine ⟨by simpa using h7, b3, h.k1.into (DD.edg n L) ht hE hu, fun p hp => ?_, k3, hge, hlt, by omega⟩
  rcases List.mem_cons.1 hp with rfl | hp
  · exact Nat.zero_le _
  · rcases List.mem_cons.1 hp with rfl | hp
    · exact hg
    · exact h.le p (List.mem_cons_of_mem _ hp)
end

end Go.Proofs.Ytkflhmpecfckfaa
