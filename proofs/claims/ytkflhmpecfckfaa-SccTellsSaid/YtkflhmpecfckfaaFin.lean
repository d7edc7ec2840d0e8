/- scc.finder: what its blocks hold, over the plain law's states -/
import Derived.Test.YtkflhmpecfckfaaFol
import Derived.Test.YtkflhmpecfckfaaTarjan
import Derived.Deep.RegionHeld3
import Derived.Deep.DeepCutAuto
open Go Go.RowKit
namespace Go.Proofs.Ytkflhmpecfckfaa
open Tj

def tab (N : Nat) (f : Nat → Nat) : List Value := (List.range N).map fun v => .int .i64 (f v : Int)
def tabB (N : Nat) (f : Nat → Bool) : List Value := (List.range N).map fun v => .bool (f v)
theorem tab_length (N : Nat) (f : Nat → Nat) : (tab N f).length = N := by simp [tab]
theorem tabB_length (N : Nat) (f : Nat → Bool) : (tabB N f).length = N := by simp [tabB]
theorem tab_get {N : Nat} {f : Nat → Nat} {k : Nat} (h : k < N) : (tab N f).toArray[k]? = some (.int .i64 (f k : Int)) := by
  simp [tab, h]
theorem tabB_get {N : Nat} {f : Nat → Bool} {k : Nat} (h : k < N) : (tabB N f).toArray[k]? = some (.bool (f k)) := by
  simp [tabB, h]
theorem tab_set {N : Nat} {f : Nat → Nat} {k x : Nat} (_h : k < N) : (tab N f).toArray.setIfInBounds k (.int .i64 (x : Int)) = (tab N (upd f k x)).toArray := by
  rw [List.setIfInBounds_toArray]
  congr 1
  apply List.ext_getElem (by simp [tab])
  intro i h1 h2
  simp only [tab, List.getElem_set, List.getElem_map, List.getElem_range, upd]
  by_cases e : k = i
  · subst e; simp
  · rw [if_neg e, if_neg (fun h => e h.symm)]
theorem tabB_set {N : Nat} {f : Nat → Bool} {k : Nat} {x : Bool} (_h : k < N) : (tabB N f).toArray.setIfInBounds k (.bool x) = (tabB N (upd f k x)).toArray := by
  rw [List.setIfInBounds_toArray]
  congr 1
  apply List.ext_getElem (by simp [tabB])
  intro i h1 h2
  simp only [tabB, List.getElem_set, List.getElem_map, List.getElem_range, upd]
  by_cases e : k = i
  · subst e; simp
  · rw [if_neg e, if_neg (fun h => e h.symm)]

/-- the stack as it lies: the top last -/
def stkRow (l : List Nat) : List Int := l.reverse.map Int.ofNat

/-- the finder's blocks -/
structure FB where
  f : Nat
  go : Nat
  gl : Nat
  gi : Nat
  gp : Nat
  base : Nat

/-- its blocks are unlike -/
structure FB.Ok (b : FB) : Prop where
  n1 : b.f ≠ b.go
  n2 : b.f ≠ b.gl
  n3 : b.f ≠ b.gi
  n4 : b.f ≠ b.gp
  n5 : b.go ≠ b.gl
  n6 : b.go ≠ b.gi
  n7 : b.go ≠ b.gp
  n8 : b.gl ≠ b.gi
  n9 : b.gl ≠ b.gp
  n10 : b.gi ≠ b.gp
  l1 : b.f < b.base
  l2 : b.go < b.base
  l3 : b.gl < b.base
  l4 : b.gi < b.base
  l5 : b.gp < b.base

/-- the blocks that it writes -/
def FB.may (b : FB) (k : Nat) : Prop := k = b.f ∨ k = b.go ∨ k = b.gl ∨ k = b.gi ∨ k = b.gp ∨ b.base ≤ k

/-- the blocks that an operation writes: its own, and the stack's -/
def FB.may1 (b : FB) (stv : Value) (k : Nat) : Prop := k = b.f ∨ k = b.go ∨ k = b.gl ∨ k = b.gi ∨ k = b.gp ∨ stv.ownBlock = some k
theorem FB.may1_f {b : FB} {stv : Value} : b.may1 stv b.f := .inl rfl
theorem FB.may1_go {b : FB} {stv : Value} : b.may1 stv b.go := .inr (.inl rfl)
theorem FB.may1_gl {b : FB} {stv : Value} : b.may1 stv b.gl := .inr (.inr (.inl rfl))
theorem FB.may1_gi {b : FB} {stv : Value} : b.may1 stv b.gi := .inr (.inr (.inr (.inl rfl)))
theorem FB.may1_gp {b : FB} {stv : Value} : b.may1 stv b.gp := .inr (.inr (.inr (.inr (.inl rfl))))
theorem FB.may1_s {b : FB} {stv : Value} {k : Nat} (h : stv.ownBlock = some k) : b.may1 stv k := .inr (.inr (.inr (.inr (.inr h))))

structure Fin (w : World) (b : FB) (ev stv : Value) (N : Nat) (s : St) : Prop where
  obj : w.heap[b.f]? = some (.cells #[ev, .slice (some ⟨b.go, 0, none⟩) N N, .slice (some ⟨b.gl, 0, none⟩) N N, .slice (some ⟨b.gi, 0, none⟩) N N, stv, .int .i64 (s.clk : Int), .slice (some ⟨b.gp, 0, none⟩) N N] 36 (0, 0))
  ord : w.heap[b.go]? = some (.cells (tab N s.ord).toArray 3 (0, 0))
  low : w.heap[b.gl]? = some (.cells (tab N s.low).toArray 3 (0, 0))
  inS : w.heap[b.gi]? = some (.cells (tabB N s.inS).toArray 4 (0, 0))
  part : w.heap[b.gp]? = some (.cells (tab N s.part).toArray 3 (0, 0))
  stk : w.ownsRow b.base 3 1 stv s.stk.length (I8 (stkRow s.stk))
  small : N ≤ 1000000
  clk : s.clk ≤ 1000000000
  base : b.base ≤ w.heap.size

/-- what a cell holds, for whoever does not want to say it -/
def val (w : World) (b o : Nat) : Value := (w.cell? ⟨b, o, none⟩).getD undef
theorem has_of {w : World} {b o : Nat} {v : Value} (h : w.cell? ⟨b, o, none⟩ = some v) : w.cell? ⟨b, o, none⟩ = some (val w b o) := by unfold val; rw [h]; rfl
theorem has_set {w : World} {b o b' o' : Nat} {u : Value} (h : w.cell? ⟨b, o, none⟩ = some (val w b o)) : (w.setCell ⟨b', o', none⟩ u).cell? ⟨b, o, none⟩ = some (val (w.setCell ⟨b', o', none⟩ u) b o) := by
  by_cases e : b = b' ∧ o = o'
  · obtain ⟨rfl, rfl⟩ := e
    exact has_of (World.cell?_setCell_same _ _ _ h)
  · refine has_of ((World.cell?_setCell_other _ _ _ _ ?_).trans h)
    intro h2; cases h2; exact e ⟨rfl, rfl⟩

theorem Ext.setC {F : Nat → Prop} {a w : World} (h : Ext F a w) {b o : Nat} {v : Value} (hF : F b) : Ext F a (w.setCell ⟨b, o, none⟩ v) :=
  ⟨h.os, h.tape, h.output, by have := h.size; simpa using this, fun k hk hk2 => (Below.heap_setCell _ _ _ _ (fun e => hk2 (by rw [e]; exact hF))).trans (h.block k hk hk2)⟩
theorem Ext.setN {F : Nat → Prop} {a w : World} (h : Ext F a w) {b o : Nat} {v : Value} (hF : a.heap.size ≤ b) : Ext F a (w.setCell ⟨b, o, none⟩ v) :=
  ⟨h.os, h.tape, h.output, by have := h.size; simpa using this, fun k hk hk2 => (Below.heap_setCell _ _ _ _ (fun e => by have e : k = b := e; omega)).trans (h.block k hk hk2)⟩
theorem heap_set_ne {w : World} {b o k : Nat} {v : Value} (h : k ≠ b) : (w.setCell ⟨b, o, none⟩ v).heap[k]? = w.heap[k]? := Below.heap_setCell _ _ _ _ h

theorem ss_set {w : World} {f go gl gi N k : Nat} {c : Int} {b o : Nat} {v : Value} (hb : f ≠ b) (h : w.cell? ⟨f, 1, none⟩ = some (.slice (some ⟨go, 0, none⟩) N N) ∧ w.cell? ⟨f, 2, none⟩ = some (.slice (some ⟨gl, 0, none⟩) N N) ∧ w.cell? ⟨f, 3, none⟩ = some (.slice (some ⟨gi, 0, none⟩) N N) ∧ w.cell? ⟨f, 5, none⟩ = some (.int .i64 c) ∧
    w.cell? ⟨go, k, none⟩ = some (val w go k) ∧ w.cell? ⟨gl, k, none⟩ = some (val w gl k) ∧ w.cell? ⟨gi, k, none⟩ = some (val w gi k) ∧ w.frozen? ⟨go, k, none⟩ = false ∧ w.frozen? ⟨gl, k, none⟩ = false ∧ w.frozen? ⟨gi, k, none⟩ = false) :
    (w.setCell ⟨b, o, none⟩ v).cell? ⟨f, 1, none⟩ = some (.slice (some ⟨go, 0, none⟩) N N) ∧ (w.setCell ⟨b, o, none⟩ v).cell? ⟨f, 2, none⟩ = some (.slice (some ⟨gl, 0, none⟩) N N) ∧ (w.setCell ⟨b, o, none⟩ v).cell? ⟨f, 3, none⟩ = some (.slice (some ⟨gi, 0, none⟩) N N) ∧ (w.setCell ⟨b, o, none⟩ v).cell? ⟨f, 5, none⟩ = some (.int .i64 c) ∧
    (w.setCell ⟨b, o, none⟩ v).cell? ⟨go, k, none⟩ = some (val (w.setCell ⟨b, o, none⟩ v) go k) ∧ (w.setCell ⟨b, o, none⟩ v).cell? ⟨gl, k, none⟩ = some (val (w.setCell ⟨b, o, none⟩ v) gl k) ∧ (w.setCell ⟨b, o, none⟩ v).cell? ⟨gi, k, none⟩ = some (val (w.setCell ⟨b, o, none⟩ v) gi k) ∧ (w.setCell ⟨b, o, none⟩ v).frozen? ⟨go, k, none⟩ = false ∧ (w.setCell ⟨b, o, none⟩ v).frozen? ⟨gl, k, none⟩ = false ∧ (w.setCell ⟨b, o, none⟩ v).frozen? ⟨gi, k, none⟩ = false := by
  obtain ⟨h1, h2, h3, h4, h5, h6, h7, h8, h9, h10⟩ := h
  have hf : ∀ j, (w.setCell ⟨b, o, none⟩ v).cell? ⟨f, j, none⟩ = w.cell? ⟨f, j, none⟩ := fun j => World.cell?_setCell_other _ _ _ _ (fun e => by cases e; exact hb rfl)
  refine ⟨(hf 1).trans h1, (hf 2).trans h2, (hf 3).trans h3, (hf 5).trans h4, has_set h5, has_set h6, has_set h7, ?_, ?_, ?_⟩
  · simpa using h8
  · simpa using h9
  · simpa using h10

theorem enter_stk (l : List Nat) (k : Nat) : I8 (stkRow l) ++ [.int .i64 (k : Int)] = I8 (stkRow (k :: l)) := by
  simp [stkRow, I8]

set_option maxRecDepth 100000 in
set_option maxHeartbeats 4000000 in
theorem enter_any {w : World} {b : FB} {ev stv : Value} {N : Nat} {s : St} (hb : b.Ok) (h : Fin w b ev stv N s) (k : Nat) (hk : k < N) (hc : s.clk < 1000000000) (hl : s.stk.length ≤ 1000000) :
    Calls Try.prog 24 #[.pointer (some ⟨b.f, 0, none⟩), .int .i64 k] w fun e w' => e = .returned (.agg #[.int .i64 k, .int .i64 0]) ∧ (∃ stv', Fin w' b ev stv' N (s.enter k)) ∧ Ext (b.may1 stv) w w' := by
  obtain ⟨f, go, gl, gi, gp, base⟩ := b
  have h1 := h.obj
  have h2 := h.ord
  have h3 := h.low
  have h4 := h.inS
  have hlt := lt_of_blk h1
  obtain ⟨n1, n2, n3, n4, n5, n6, n7, n8, n9, n10, l1, l2, l3, l4, l5⟩ := hb
  simp only at *
  have c5 : ∀ o, (w.alloc o).cell? ⟨f, 5, none⟩ = some (.int .i64 (s.clk : Int)) := fun o => cell_alloc o (blk_cell h1 rfl)
  have f5 : ∀ o, (w.alloc o).frozen? ⟨f, 5, none⟩ = false := fun o => free_alloc o hlt (blk_free h1)
  go_enter Try.func24, Try.ntmps24
  go_wp2_with fail
  obtain ⟨w1, hw1⟩ : ∃ w1, (w.setCell ⟨f, 5, none⟩ (.int .i64 (s.clk + 1))).alloc (.cells #[.int .i64 0, .int .i64 0] 46) = w1 := ⟨_, rfl⟩
  rw [hw1]
  have g1 : w1.heap[f]? = some (.cells #[ev, .slice (some ⟨go, 0, none⟩) N N, .slice (some ⟨gl, 0, none⟩) N N, .slice (some ⟨gi, 0, none⟩) N N, stv, .int .i64 (s.clk + 1), .slice (some ⟨gp, 0, none⟩) N N] 36 (0, 0)) := hw1 ▸ blk_old _ (blk_setCell h1 _)
  have g2 : w1.heap[go]? = _ := hw1 ▸ blk_old _ ((heap_set_ne (Ne.symm n1)).trans h2)
  have g3 : w1.heap[gl]? = _ := hw1 ▸ blk_old _ ((heap_set_ne (Ne.symm n2)).trans h3)
  have g4 : w1.heap[gi]? = _ := hw1 ▸ blk_old _ ((heap_set_ne (Ne.symm n3)).trans h4)
  have g5 : w1.heap[gp]? = _ := hw1 ▸ blk_old _ ((heap_set_ne (Ne.symm n4)).trans h.part)
  have g6 : w1.ownsRow base 3 1 stv s.stk.length (I8 (stkRow s.stk)) := hw1 ▸ (ownsRow_setCell_below h.stk l1 _).alloc _
  have x1 : Ext (fun j => j = f) w w1 := hw1 ▸ (Ext.of_set (Below.refl _ _)).alloc _
  have g7 : w1.heap[w.heap.size]? = some (.cells #[.int .i64 0, .int .i64 0] 46 (0, 0)) := hw1 ▸ blk_at _ (by simp)
  clear hw1 c5 f5
  have S0 : w1.drew.cell? ⟨f, 1, none⟩ = some (.slice (some ⟨go, 0, none⟩) N N) ∧ w1.drew.cell? ⟨f, 2, none⟩ = some (.slice (some ⟨gl, 0, none⟩) N N) ∧ w1.drew.cell? ⟨f, 3, none⟩ = some (.slice (some ⟨gi, 0, none⟩) N N) ∧ w1.drew.cell? ⟨f, 5, none⟩ = some (.int .i64 (s.clk + 1)) ∧
    w1.drew.cell? ⟨go, k, none⟩ = some (val w1.drew go k) ∧ w1.drew.cell? ⟨gl, k, none⟩ = some (val w1.drew gl k) ∧ w1.drew.cell? ⟨gi, k, none⟩ = some (val w1.drew gi k) ∧ w1.drew.frozen? ⟨go, k, none⟩ = false ∧ w1.drew.frozen? ⟨gl, k, none⟩ = false ∧ w1.drew.frozen? ⟨gi, k, none⟩ = false :=
    ⟨blk_cell g1 rfl, blk_cell g1 rfl, blk_cell g1 rfl, blk_cell g1 rfl, has_of (blk_cell g2 (tab_get hk)), has_of (blk_cell g3 (tab_get hk)), has_of (blk_cell g4 (tabB_get hk)), blk_free g2, blk_free g3, blk_free g4⟩
  have hk1 : (0 : Int) ≤ (k : Int) := by omega
  have hk2 : (k : Int) < (N : Int) := by omega
  go_cut [] (fun W => W.heap[go]? = some (.cells (tab N (upd s.ord k (s.clk + 1))).toArray 3 (0, 0)) ∧ W.heap[gl]? = some (.cells (tab N (upd s.low k (s.clk + 1))).toArray 3 (0, 0)) ∧
    W.heap[gi]? = some (.cells (tabB N (upd s.inS k true)).toArray 4 (0, 0)) ∧ Ext (fun j => j = go ∨ j = gl ∨ j = gi) w1 W)
  case first =>
    go_region_held3 (fun w' => w'.cell? ⟨f, 1, none⟩ = some (.slice (some ⟨go, 0, none⟩) N N) ∧ w'.cell? ⟨f, 2, none⟩ = some (.slice (some ⟨gl, 0, none⟩) N N) ∧ w'.cell? ⟨f, 3, none⟩ = some (.slice (some ⟨gi, 0, none⟩) N N) ∧ w'.cell? ⟨f, 5, none⟩ = some (.int .i64 (s.clk + 1)) ∧
    w'.cell? ⟨go, k, none⟩ = some (val w' go k) ∧ w'.cell? ⟨gl, k, none⟩ = some (val w' gl k) ∧ w'.cell? ⟨gi, k, none⟩ = some (val w' gi k) ∧ w'.frozen? ⟨go, k, none⟩ = false ∧ w'.frozen? ⟨gl, k, none⟩ = false ∧ w'.frozen? ⟨gi, k, none⟩ = false) (first | exact S0 | exact ss_set n1 (by assumption) | exact ss_set n2 (by assumption) | exact ss_set n3 (by assumption) | assumption) (fail)
    all_goals (go_wp2_with fail; go_meet; refine ⟨?_, ?_, ?_, ?_⟩)
    all_goals first
      | (repeat' (first | exact (blk_setCell g2 _).trans (congrArg (fun c => some (Obj.cells c 3 (0, 0))) (tab_set (x := s.clk + 1) hk)) | refine (heap_set_ne n5).trans ?_ | refine (heap_set_ne n6).trans ?_ | refine (blk_setCell (c := (tab N s.ord).toArray) ?_ _).trans (congrArg (fun c => some (Obj.cells c 3 (0, 0))) (tab_set (x := s.clk + 1) hk)) | exact g2)); done
      | (repeat' (first | refine (heap_set_ne (Ne.symm n5)).trans ?_ | refine (heap_set_ne n8).trans ?_ | refine (blk_setCell (c := (tab N s.low).toArray) ?_ _).trans (congrArg (fun c => some (Obj.cells c 3 (0, 0))) (tab_set (x := s.clk + 1) hk)) | exact g3)); done
      | (repeat' (first | refine (heap_set_ne (Ne.symm n6)).trans ?_ | refine (heap_set_ne (Ne.symm n8)).trans ?_ | refine (blk_setCell (c := (tabB N s.inS).toArray) ?_ _).trans (congrArg (fun c => some (Obj.cells c 4 (0, 0))) (tabB_set hk)) | exact g4)); done
      | (refine Ext.drew ?_; repeat' (first | exact (Ext.refl _ _) | exact (Ext.refl _ _).drew | refine Ext.setC ?_ (by simp)))
  case rest =>
    obtain ⟨y2, y3, y4, x2⟩ := hcut
    have y1 := x2.blk (show ¬ (f = go ∨ f = gl ∨ f = gi) by omega) g1
    have y5 := x2.blk (show ¬ (gp = go ∨ gp = gl ∨ gp = gi) by omega) g5
    have y7 := x2.blk (show ¬ (w.heap.size = go ∨ w.heap.size = gl ∨ w.heap.size = gi) by have := h.base; simp only at this; omega) g7
    have y6 := x2.owns (fun g hg => by have := (g6.lt g hg).1; omega) g6
    have hb1 : base ≤ wc.heap.size := Nat.le_trans h.base (Nat.le_trans x1.size x2.size)
    have x3 : Ext (FB.may1 ⟨f, go, gl, gi, gp, base⟩ stv) w wc := (x1.mono (fun i _ hi => by subst hi; exact FB.may1_f)).trans x2 (fun i _ hi => by rcases hi with rfl | rfl | rfl <;> first | exact FB.may1_go | exact FB.may1_gl | exact FB.may1_gi)
    have hbl : base ≤ (wc.alloc (.cells #[.int .i64 k] 3)).heap.size := by simp; omega
    have hsk : (s.stk.length + 1) * 8 ≤ 140737488355328 := by omega
    have hK := hid h
    clear x1 x2 g1 g2 g3 g4 g5 g6 S0 h1 h2 h3 h4 h
    obtain ⟨i0, hi, hz0, hz1, hz2⟩ := info_parts iI
    have hc4 : wc.cell? ⟨f, 4, none⟩ = some stv := blk_cell y1 rfl
    go_wp2_with (at_builtin; refine wpList_append_rowG rfl _ _ 29 rfl base 3 i0 (.int .i64 0) Try.underlying29 hi hz0 hz1 (by omega) rfl stv s.stk.length (I8 (stkRow s.stk)) rfl (y6.alloc _) (some ⟨wc.heap.size, 0, none⟩) 1 1 [.int .i64 k] rfl (row_new _ _ _) rfl (fun h => by cases h) (fun u hu => by simp at hu; subst hu; rfl) ?c4 ?c5 ?_)
    case c4 => exact hsk
    case c5 => exact hbl
    intro v' w2 o2 B2
    rw [enter_stk] at o2
    have nb : ∀ i, i < base → stv.ownBlock ≠ some i := fun i hi e => by have := (y6.lt i e).1; omega
    have X2 := Ext.of_grown B2
    have z1 := X2.blk (nb f l1) (blk_old _ y1)
    have z2 := X2.blk (nb go l2) (blk_old _ y2)
    have z3 := X2.blk (nb gl l3) (blk_old _ y3)
    have z4 := X2.blk (nb gi l4) (blk_old _ y4)
    have z5 := X2.blk (nb gp l5) (blk_old _ y5)
    have z7 := X2.blk (owns_ne y6 y7 (by decide)) (blk_old _ y7)
    have n7 := owns_ne o2 z7 (by decide)
    have x4 : Ext (FB.may1 ⟨f, go, gl, gi, gp, base⟩ stv) w w2 := (x3.alloc _).trans X2 (fun i _ hi => FB.may1_s hi)
    obtain ⟨a2, cp, rfl, -⟩ := row_of_owns o2
    obtain ⟨w3, hw3⟩ : ∃ w3, w2.setCell ⟨f, 4, none⟩ (.slice a2 (s.stk.length + 1) cp) = w3 := ⟨_, rfl⟩
    have q1 := hw3 ▸ blk_setCell z1 (.slice a2 (s.stk.length + 1) cp) (o := 4)
    have q2 := hw3 ▸ (heap_set_ne (Ne.symm n1)).trans z2
    have q3 := hw3 ▸ (heap_set_ne (Ne.symm n2)).trans z3
    have q4 := hw3 ▸ (heap_set_ne (Ne.symm n3)).trans z4
    have q5 := hw3 ▸ (heap_set_ne (Ne.symm n4)).trans z5
    have q7 := hw3 ▸ (heap_set_ne (show w.heap.size ≠ f by omega)).trans z7
    have q6 := hw3 ▸ ownsRow_setCell_below o2 (show Addr.block ⟨f, 4, none⟩ < base from l1) (.slice a2 (s.stk.length + 1) cp)
    have x5 : Ext (FB.may1 ⟨f, go, gl, gi, gp, base⟩ stv) w w3 := hw3 ▸ Ext.setC x4 (.inl rfl)
    have r0 : w3.cell? ⟨w.heap.size, 0, none⟩ = some (.int .i64 0) := blk_cell q7 rfl
    have r1 : (w3.setCell ⟨w.heap.size, 0, none⟩ (.int .i64 k)).cell? ⟨w.heap.size, 1, none⟩ = some (.int .i64 0) := blk_cell (blk_setCell q7 _) rfl
    have f0 : w3.frozen? ⟨w.heap.size, 0, none⟩ = false := blk_free q7
    have f1 : (w3.setCell ⟨w.heap.size, 0, none⟩ (.int .i64 k)).frozen? ⟨w.heap.size, 1, none⟩ = false := blk_free (blk_setCell q7 _)
    have hc4 : w2.cell? ⟨f, 4, none⟩ = some stv := blk_cell z1 rfl
    have hf4 : w2.frozen? ⟨f, 4, none⟩ = false := blk_free z1
    clear z1 z2 z3 z4 z5 z7 y1 y2 y3 y4 y5 y7 x3 x4 X2 B2
    go_wp2_with fail
    have q7' : ((w3.setCell ⟨w.heap.size, 0, none⟩ (.int .i64 k)).setCell ⟨w.heap.size, 1, none⟩ (.int .i64 0)).heap[w.heap.size]? = some (.cells #[.int .i64 k, .int .i64 0] 46 (0, 0)) := blk_setCell (blk_setCell q7 (.int .i64 k) (o := 0)) (.int .i64 0) (o := 1)
    try simp only [Exit.inBlock, Exit.then]
    refine bodyPost_ret (results_cell_row rfl _ _ w.heap.size _ _ _ _ rfl q7' Try.underlying46 rfl (by kernel_rfl)) rfl ?_
    have nV : ∀ i, i < base → i ≠ w.heap.size := fun i hi e => by have := hK.out.base; simp only at this; omega
    have k1 : ∀ {i x}, i < base → w3.heap[i]? = x → ((w3.setCell ⟨w.heap.size, 0, none⟩ (.int .i64 k)).setCell ⟨w.heap.size, 1, none⟩ (.int .i64 0)).heap[i]? = x := fun hi hx => (heap_set_ne (nV _ hi)).trans ((heap_set_ne (nV _ hi)).trans hx)
    refine ⟨rfl, ⟨_, k1 l1 q1, k1 l2 q2, k1 l3 q3, k1 l4 q4, k1 l5 q5, ownsRow_setCell_other (ownsRow_setCell_other q6 n7 _) n7 _, hK.out.small, by show s.clk + 1 ≤ _; omega, ?_⟩, ?_⟩
    · have := x5.size; have := hK.out.base; simp at this ⊢; omega
    · exact (x5.setN (Nat.le_refl _)).setN (Nat.le_refl _)

end Go.Proofs.Ytkflhmpecfckfaa
