/- scc.finder.from: the walk -/
import Derived.Test.YtkflhmpecfckfaaFinD
import Derived.Deep.LoopGhost
import Derived.StillTailTactics
open Go Go.RowKit
namespace Go.Proofs.Ytkflhmpecfckfaa
open Tj

theorem owns_slice {w : World} {base : Nat} {E : TypeId} {sz : Nat} {v : Value} {n : Nat} {vs : List Value} (h : w.ownsRow base E sz v n vs) : ∃ a cap, v = .slice a n cap := by
  rcases h.2 with ⟨hv, h0⟩ | ⟨g, cap, cur, hv, _⟩
  · subst h0; exact ⟨none, 0, hv⟩
  · exact ⟨_, _, hv⟩
theorem owns_some {w : World} {base : Nat} {E : TypeId} {sz : Nat} {v : Value} {n : Nat} {vs : List Value} (h : w.ownsRow base E sz v n vs) (hn : 0 < n) : ∃ g cap, v = .slice (some ⟨g, 0, none⟩) n cap ∧ n ≤ cap := by
  rcases h.2 with ⟨hv, h0⟩ | ⟨g, cap, cur, hv, _, _, h1, _⟩
  · omega
  · exact ⟨_, _, hv, h1⟩

theorem Fin.may {w : World} {b : FB} {ev stv : Value} {N : Nat} {s : St} (h : Fin w b ev stv N s) {k : Nat} (hk : b.may1 stv k) : b.may k := by
  rcases hk with h1 | h1 | h1 | h1 | h1 | h1
  · exact .inl h1
  · exact .inr (.inl h1)
  · exact .inr (.inr (.inl h1))
  · exact .inr (.inr (.inr (.inl h1)))
  · exact .inr (.inr (.inr (.inr (.inl h1))))
  · exact .inr (.inr (.inr (.inr (.inr (h.stk.lt k h1).1))))
theorem FB.not_may {b : FB} {k : Nat} (h1 : k < b.base) (h2 : k ≠ b.f) (h3 : k ≠ b.go) (h4 : k ≠ b.gl) (h5 : k ≠ b.gi) (h6 : k ≠ b.gp) : ¬ b.may k := by unfold FB.may; omega

theorem Fin.drew {w : World} {b : FB} {ev stv : Value} {N : Nat} {s : St} (h : Fin w b ev stv N s) : Fin w.drew b ev stv N s :=
  ⟨h.obj, h.ord, h.low, h.inS, h.part, h.stk, h.small, h.clk, h.base⟩
theorem Fin.setLow {w : World} {b : FB} {ev stv : Value} {N : Nat} {s : St} (h : Fin w b ev stv N s) (hb : b.Ok) {a : Nat} (ha : a < N) (m : Nat) : Fin (w.setCell ⟨b.gl, a, none⟩ (.int .i64 (m : Int))).drew b ev stv N { s with low := upd s.low a m } :=
  ⟨(heap_set_ne hb.n2).trans h.obj, (heap_set_ne hb.n5).trans h.ord, (blk_setCell h.low _).trans (congrArg (fun c => some (Obj.cells c 3 (0, 0))) (tab_set ha)), (heap_set_ne (Ne.symm hb.n8)).trans h.inS, (heap_set_ne (Ne.symm hb.n9)).trans h.part,
    (ownsRow_setCell_below h.stk (show Addr.block ⟨b.gl, a, none⟩ < b.base from hb.l3) _).drew, h.small, h.clk, by have := h.base; show b.base ≤ (w.setCell _ _).heap.size; simpa using this⟩
theorem path_free {w : World} {b : FB} {ev stv pv : Value} {N : Nat} {s : St} {m : Nat} {vs : List Value} (hb : b.Ok) (F : Fin w b ev stv N s) (O : w.ownsRow b.base 46 2 pv m vs) : ∀ q, pv.ownBlock = some q → ¬ b.may1 stv q := by
  intro q hq hm
  have h1 := (O.lt q hq).1
  obtain ⟨n1, n2, n3, n4, n5, n6, n7, n8, n9, n10, l1, l2, l3, l4, l5⟩ := hb
  rcases hm with h | h | h | h | h | h
  · omega
  · omega
  · omega
  · omega
  · omega
  · exact owns_ne2 F.stk O (by decide) q hq h

/-- the number in a cell -/
def iv (w : World) (b o : Nat) : Int := match w.cell? ⟨b, o, none⟩ with | some (.int _ z) => z | _ => 0
theorem iv_of {w : World} {b o : Nat} {z : Int} (h : w.cell? ⟨b, o, none⟩ = some (.int .i64 z)) : iv w b o = z := by unfold iv; rw [h]
theorem iv_has {w : World} {b o : Nat} {z : Int} (h : w.cell? ⟨b, o, none⟩ = some (.int .i64 z)) : w.cell? ⟨b, o, none⟩ = some (.int .i64 (iv w b o)) := by rw [iv_of h]; exact h
theorem iv_set {w : World} {b o b' o' : Nat} {z : Int} (h : w.cell? ⟨b, o, none⟩ = some (.int .i64 (iv w b o))) : (w.setCell ⟨b', o', none⟩ (.int .i64 z)).cell? ⟨b, o, none⟩ = some (.int .i64 (iv (w.setCell ⟨b', o', none⟩ (.int .i64 z)) b o)) := by
  by_cases e : b = b' ∧ o = o'
  · obtain ⟨rfl, rfl⟩ := e
    exact iv_has (World.cell?_setCell_same _ _ _ h)
  · refine iv_has ((World.cell?_setCell_other _ _ _ _ ?_).trans h)
    intro h2; cases h2; exact e ⟨rfl, rfl⟩
theorem low_set {w : World} {f go gl N a n t : Nat} {z : Int} (h1 : f ≠ gl) (h2 : go ≠ gl) (h : w.cell? ⟨f, 1, none⟩ = some (.slice (some ⟨go, 0, none⟩) N N) ∧ w.cell? ⟨f, 2, none⟩ = some (.slice (some ⟨gl, 0, none⟩) N N) ∧ w.cell? ⟨gl, a, none⟩ = some (.int .i64 (iv w gl a)) ∧ w.cell? ⟨gl, n, none⟩ = some (.int .i64 (iv w gl n)) ∧ w.cell? ⟨go, t, none⟩ = some (.int .i64 (iv w go t)) ∧ w.frozen? ⟨gl, a, none⟩ = false) :
    (w.setCell ⟨gl, a, none⟩ (.int .i64 z)).cell? ⟨f, 1, none⟩ = some (.slice (some ⟨go, 0, none⟩) N N) ∧ (w.setCell ⟨gl, a, none⟩ (.int .i64 z)).cell? ⟨f, 2, none⟩ = some (.slice (some ⟨gl, 0, none⟩) N N) ∧ (w.setCell ⟨gl, a, none⟩ (.int .i64 z)).cell? ⟨gl, a, none⟩ = some (.int .i64 (iv (w.setCell ⟨gl, a, none⟩ (.int .i64 z)) gl a)) ∧
    (w.setCell ⟨gl, a, none⟩ (.int .i64 z)).cell? ⟨gl, n, none⟩ = some (.int .i64 (iv (w.setCell ⟨gl, a, none⟩ (.int .i64 z)) gl n)) ∧ (w.setCell ⟨gl, a, none⟩ (.int .i64 z)).cell? ⟨go, t, none⟩ = some (.int .i64 (iv (w.setCell ⟨gl, a, none⟩ (.int .i64 z)) go t)) ∧ (w.setCell ⟨gl, a, none⟩ (.int .i64 z)).frozen? ⟨gl, a, none⟩ = false := by
  obtain ⟨c1, c2, c3, c4, c5, c6⟩ := h
  have hf : ∀ j, (w.setCell ⟨gl, a, none⟩ (.int .i64 z)).cell? ⟨f, j, none⟩ = w.cell? ⟨f, j, none⟩ := fun j => World.cell?_setCell_other _ _ _ _ (fun e => by cases e; exact h1 rfl)
  refine ⟨(hf 1).trans c1, (hf 2).trans c2, iv_set c3, iv_set c4, iv_set c5, ?_⟩
  simpa using c6

set_option maxRecDepth 100000 in
set_option maxHeartbeats 8000000 in
theorem from_any {w : World} {b : FB} {stv : Value} {ge ce N : Nat} {E : Nat → List Nat} {s : St} (hb : b.Ok) (h : Fin w b (.slice (some ⟨ge, 0, none⟩) N ce) stv N s) (he : Eds w b ge ce N E) (hE : ∀ v, ∀ u ∈ E v, u < N) (I : Inv N E s) (hC : Cnt N s) (hp : s.path = []) (k : Nat) (hk : k < N) (h0 : s.ord k = 0) :
    Calls Try.prog 15 #[.pointer (some ⟨b.f, 0, none⟩), .int .i64 k] w fun e w' => e = .returned (.tuple #[]) ∧ ∃ (s' : St) (stv' : Value), Fin w' b (.slice (some ⟨ge, 0, none⟩) N ce) stv' N s' ∧ Inv N E s' ∧ Cnt N s' ∧ s'.path = [] ∧ s'.ord k ≠ 0 ∧ (∀ v, s.ord v ≠ 0 → s'.ord v ≠ 0) ∧ Ext b.may w w' := by
  have hNs := h.small
  have hcl := hC.le
  have hsl := Inv.stk_le I
  have IH := hid (I.root hp h0 hk)
  have CH := hid (hC.enter hk h0)
  have EN := enter_any hb h k hk (by omega) (by omega)
  have HH := hid h
  have HC := hid hC
  have HE := hid hE
  have HP := hid hp
  have H0 := hid h0
  have II := hid I
  have hpl : (s.enter k).path.length = 1 := by show (_ :: s.path).length = 1; rw [hp]; rfl
  have hpp : P2 (s.enter k).path = [.int .i64 (k : Int), .int .i64 (0 : Int)] := by show P2 ((k, 0) :: s.path) = _; rw [hp, P2_cons]; rfl
  obtain ⟨s1, hs1⟩ : ∃ s1, s.enter k = s1 := ⟨_, rfl⟩
  rw [hs1] at hpl hpp EN IH CH
  have HS1 := hid hs1
  have HPL := hid hpl
  have HPP := hid hpp
  clear h hC hE hp h0 I hcl hsl hs1 hpl hpp
  go_enter Try.func15, Try.ntmps15
  go_wp2_with fail
  refine EN.mono ?_
  rintro e w1 ⟨rfl, ⟨stv1, F1⟩, X1⟩
  go_wp2_with fail
  have O1 : (w1.alloc (.cells #[.int .i64 k, .int .i64 0] 46)).ownsRow b.base 46 2 (.slice (some ⟨w1.heap.size, 0, none⟩) 1 1) s1.path.length (P2 s1.path) := by
    rw [HPL.out, HPP.out]
    exact World.ownsRow_lit w1 #[.int .i64 k, .int .i64 0] 1 F1.base (by simp [maxLen]) rfl
  go_loopg [4] (weight N E s1) (fun q pv wr => ∃ (s' : St) (stv' : Value), Hid (weight N E s' = q) ∧ Hid (Inv N E s') ∧ Hid (Cnt N s') ∧ Fin wr b (.slice (some ⟨ge, 0, none⟩) N ce) stv' N s' ∧ wr.ownsRow b.base 46 2 pv s'.path.length (P2 s'.path) ∧ Ext b.may w wr ∧ ∀ v, s1.ord v ≠ 0 → s'.ord v ≠ 0)
  case atStart =>
    have hnew : ∀ g, stv1.ownBlock = some g → g < w1.heap.size := fun g hg => (F1.stk.lt g hg).2
    exact ⟨s1, stv1, hid rfl, IH, CH, F1.ext (F := fun _ => False) ((Ext.refl _ _).alloc _) (fun _ _ h => h) hb (fun _ _ h => h), O1, (X1.mono (fun _ _ h => HH.out.may h)).alloc _, fun _ h => h⟩
  case round =>
    obtain ⟨s', stv', hw, hI, hC, F, O, X, hmet⟩ := hrel
    cases hpath : s'.path with
    | nil =>
      rw [hpath] at O
      obtain ⟨pa, pc, rfl⟩ := owns_slice O
      have HPa := hid hpath
      clear hpath
      simp only [List.length_nil] at O ⊢
      go_wp2_with fail
      try simp only [Exit.inBlock, Exit.then]
      refine bodyPost_end (results_none rfl _ _ _) rfl ⟨rfl, s', stv', F, hI.out, hC.out, HPa.out, hmet k ?_, fun v hv => hmet v ?_, X⟩
      · rw [← HS1.out]; show upd s.ord k _ k ≠ 0; rw [upd_same]; omega
      · rw [← HS1.out]; show upd s.ord k _ v ≠ 0; unfold upd; split <;> omega
    | cons p r =>
      obtain ⟨n, g⟩ := p
      have HPa := hid hpath
      rw [hpath] at O
      have hnS := (hI.out.sub (n, g) (by rw [hpath]; simp)).1
      have hgl := (hI.out.sub (n, g) (by rw [hpath]; simp)).2
      simp only at hnS hgl
      have hnN := hI.out.lt n hnS
      clear hpath
      obtain ⟨pg, pc, rfl, hpc⟩ := owns_some O (by simp)
      have hLr : ((n, g) :: r).length = r.length + 1 := rfl
      have cN := (O.cellAt (r.length * 2) (by rw [hLr]; omega)).trans (P2_node n g r)
      have cG := (O.cellAt (r.length * 2 + 1) (by rw [hLr]; omega)).trans (P2_gone n g r)
      have fG := O.frozenAt (r.length * 2 + 1)
      have hsl : s'.stk.length ≤ 1000000 := by
        have := Inv.stk_le hI.out
        have := hC.out.le
        omega
      have hRb : r.length ≤ 1000000 := by
        have := Inv.path_le hI.out
        rw [HPa.out, hLr] at this
        have := hC.out.le
        omega
      have hwt : weight N E (s'.round E) < gk := by rw [← hw.out]; exact Inv.lighter hI.out HE.out (by rw [HPa.out]; simp)
      have IR := hid (hI.out.round HE.out)
      have CR := hid (hC.out.round hI.out HE.out)
      have MR : Hid (∀ v, s1.ord v ≠ 0 → (s'.round E).ord v ≠ 0) := hid fun v h => round_met (hmet v h)
      have hI2 : ∀ (R cp : Nat) W, (Instr.indexAt 48 (.slice (some ⟨pg, 0, none⟩) (R + 1) cp) (.int .i64 (R : Int))).run Try.prog W = .ok (.pointer (some ⟨pg, R * 2, none⟩)) W := by
        intro R cp W
        have := idx_at (P := Try.prog) (T := 48) Try.underlying48 szV (a := some ⟨pg, 0, none⟩) (len := R + 1) (cap := cp) (fun _ => rfl) (k := R) (by omega) W
        rw [this, show sB (some ⟨pg, 0, none⟩) = pg from rfl, show sO (some ⟨pg, 0, none⟩) = 0 from rfl, Nat.zero_add]
      rw [hLr] at O hpc ⊢
      obtain ⟨R, hR⟩ : ∃ R, r.length = R := ⟨_, rfl⟩
      rw [hR] at O cN cG fG hpc hRb
      rw [hR]
      have HR := hid hR
      clear hR hLr
      obtain ⟨a, c, ca, ha, hna⟩ := (he.ext X (fun k h1 h2 h3 h4 h5 h6 => FB.not_may h1 h2 h3 h4 h5 h6)).row n hnN
      obtain ⟨M, hM⟩ : ∃ M, (E n).length = M := ⟨_, rfl⟩
      rw [hM] at ca ha hgl
      have HM := hid hM
      clear hM
      have c0 := blk_cell F.obj (o := 0) rfl
      have hn1 : (0 : Int) ≤ (n : Int) := by omega
      have hn2 : (n : Int) < (N : Int) := by omega
      by_cases hg : g = M
      · subst hg
        have S0 : wr.drew.cell? ⟨pg, R * 2 + 1, none⟩ = some (.int .i64 (g : Int)) ∧ wr.drew.cell? ⟨b.f, 0, none⟩ = some (.slice (some ⟨ge, 0, none⟩) N ce) ∧ wr.drew.cell? ⟨ge, n, none⟩ = some (.slice a g c) := ⟨cG, c0, ca⟩
        go_wp2_with fail
        go_region_held3 (fun w' => w'.cell? ⟨pg, R * 2 + 1, none⟩ = some (.int .i64 (g : Int)) ∧ w'.cell? ⟨b.f, 0, none⟩ = some (.slice (some ⟨ge, 0, none⟩) N ce) ∧ w'.cell? ⟨ge, n, none⟩ = some (.slice a g c)) (first | exact S0 | assumption) (fail)
        go_wp2_with fail
        refine (close_any hb F.drew n hnN hnS hI.out.lt hsl).mono ?_
        rintro e w2 ⟨rfl, ⟨stv2, F2⟩, X2⟩
        have O2 := X2.owns2 (path_free hb F O) O.drew
        have X3 : Ext b.may w w2 := X.drew.trans X2 (fun _ _ h => F.may h)
        have ER := hid (round_close HPa.out HM.out.symm)
        clear O cN cG fG S0
        cases r with
        | nil =>
          obtain rfl : R = 0 := HR.out.symm
          have O3 := owns_take2 O2 (r := 0) (by omega)
          go_wp2_with fail
          go_roundg (weight N E (s'.round E))
          case measure => exact hwt
          case rel =>
            refine ⟨s'.round E, stv2, hid rfl, IR, CR, ?_, ?_, X3, MR.out⟩
            · rw [ER.out]; exact F2.withPath []
            · rw [ER.out]; exact O3
        | cons q r =>
          obtain ⟨a2, g2⟩ := q
          obtain ⟨R, rfl⟩ : ∃ R2, R = R2 + 1 := ⟨r.length, HR.out.symm⟩
          have ha2 : a2 < N := hI.out.lt _ (hI.out.sub (a2, g2) (by rw [HPa.out]; simp)).1
          have hRl : r.length = R := by have := HR.out; simpa using this
          have cA : w2.cell? ⟨pg, R * 2, none⟩ = some (.int .i64 (a2 : Int)) := by
            have := O2.cellAt (R * 2) (by omega)
            rw [this, P2_cons, List.getElem?_append_left (by rw [P2_length]; simp; omega), ← hRl, P2_node]
          have O3 := owns_take2 O2 (r := R + 1) (by omega)
          rw [show (R + 1) * 2 = ((a2, g2) :: r).length * 2 by simp; omega, P2_pop] at O3
          have G1 := F2.low
          have l0 := blk_cell F2.low (tab_get ha2)
          have l1 := blk_cell F2.low (tab_get hnN)
          have l2 := blk_cell F2.obj (o := 2) rfl
          have l3 : w2.frozen? ⟨b.gl, a2, none⟩ = false := blk_free F2.low
          obtain ⟨sc, hsc⟩ : ∃ sc, s'.close n = sc := ⟨_, rfl⟩
          rw [hsc] at F2 ER G1 l0 l1 l2
          obtain ⟨x, hx⟩ : ∃ x, sc.low a2 = x := ⟨_, rfl⟩
          obtain ⟨y, hy⟩ : ∃ y, sc.low n = y := ⟨_, rfl⟩
          have hmin : min (x : Int) (y : Int) = ((min x y : Nat) : Int) := by omega
          obtain ⟨m, hm⟩ : ∃ m, min x y = m := ⟨_, rfl⟩
          have HMI := hid hm
          rw [hm] at hmin
          rw [hx] at l0
          rw [hy] at l1
          have HX := hid hx
          have HY := hid hy
          have HRl := hid hRl
          clear hx hy hm hRl hsc
          have a1 : (0 : Int) ≤ (a2 : Int) := by omega
          have a3 : (a2 : Int) < (N : Int) := by omega
          have l4 : w2.cell? ⟨b.f, 1, none⟩ = some (.slice (some ⟨b.go, 0, none⟩) N N) := blk_cell F2.obj (o := 1) rfl
          go_wp2_with fail
          go_still_tail 21, (by kernel_rfl)
          change wpList _ _ _ _ _ w2.drew
          all_goals
            go_wp2_with fail
            go_roundg (weight N E (s'.round E))
            case measure => exact hwt
            case rel =>
              refine ⟨s'.round E, stv2, hid rfl, IR, CR, ?_, ?_, (X3.setC (.inr (.inr (.inl rfl)))).drew, MR.out⟩
              · rw [ER.out]
                have hmm : m = min (sc.low a2) (sc.low n) := by rw [HX.out, HY.out, HMI.out]
                have := (F2.setLow hb ha2 m).withPath ((a2, g2) :: r)
                rw [hmm] at this ⊢
                exact this
              · rw [ER.out, pop_path, show ((a2, g2) :: r).length = R + 1 by simp [HRl.out]]
                exact (ownsRow_setCell_below O3 (show Addr.block ⟨b.gl, a2, none⟩ < b.base from hb.l3) _).drew
      · have hne : ((g : Int) == (M : Int)) = false := by simp; omega
        have hgM : g < M := by omega
        have hMc := ha.cap
        have hcm := ha.capm
        unfold maxLen at hcm
        obtain ⟨ab, ao, rfl⟩ : ∃ ab ao, a = some ⟨ab, ao, none⟩ := ⟨_, _, ha.row.nn (by rw [I8_length, ha.len]; omega)⟩
        have hgE : g < (E n).length := by rw [HM.out]; exact hgM
        have cT : wr.cell? ⟨ab, ao + g, none⟩ = some (.int .i64 (((E n).getD g 0 : Nat) : Int)) := by
          refine (ha.row.num (i := g) (by rw [ha.len]; omega)).trans ?_
          rw [List.getElem?_map, List.getElem?_eq_getElem hgE, List.getD_eq_getElem?_getD, List.getElem?_eq_getElem hgE]
          rfl
        have hgne : g ≠ (E n).length := by omega
        have htm : (E n).getD g 0 ∈ E n := by
          have : (E n).getD g 0 = (E n)[g] := by simp [List.getD, hgE]
          rw [this]; exact List.getElem_mem _
        have htN := HE.out _ _ htm
        have R1 := hid fun h0 => round_enter HPa.out hgne h0
        have R2 := hid fun h0 h1 => round_low HPa.out hgne h0 h1
        have R3 := hid fun h0 h1 => round_skip HPa.out hgne h0 h1
        obtain ⟨t, ht⟩ : ∃ t, (E n).getD g 0 = t := ⟨_, rfl⟩
        rw [ht] at cT htN R1 R2 R3
        clear ht htm hgne hgE
        have ht1 : (0 : Int) ≤ (t : Int) := by omega
        have ht2 : (t : Int) < (N : Int) := by omega
        have hg1 : (0 : Int) ≤ (g : Int) := by omega
        have hg2 : (g : Int) < (M : Int) := by omega
        have S0 : wr.drew.cell? ⟨pg, R * 2 + 1, none⟩ = some (.int .i64 (g : Int)) ∧ wr.drew.cell? ⟨b.f, 0, none⟩ = some (.slice (some ⟨ge, 0, none⟩) N ce) ∧ wr.drew.cell? ⟨ge, n, none⟩ = some (.slice (some ⟨ab, ao, none⟩) M c) ∧ wr.drew.cell? ⟨ab, ao + g, none⟩ = some (.int .i64 (t : Int)) := ⟨cG, c0, ca, cT⟩
        have S1 : wr.drew.drew.cell? ⟨pg, R * 2 + 1, none⟩ = some (.int .i64 (g : Int)) ∧ wr.drew.drew.cell? ⟨b.f, 0, none⟩ = some (.slice (some ⟨ge, 0, none⟩) N ce) ∧ wr.drew.drew.cell? ⟨ge, n, none⟩ = some (.slice (some ⟨ab, ao, none⟩) M c) ∧ wr.drew.drew.cell? ⟨ab, ao + g, none⟩ = some (.int .i64 (t : Int)) := ⟨cG, c0, ca, cT⟩
        have S4 := O.drew.drew.stored (R * 2 + 1) (.int .i64 ((g : Int) + 1))
        have fG4 : wr.drew.drew.frozen? ⟨pg, R * 2 + 1, none⟩ = false := fG
        have hpgb : b.base ≤ pg := (O.lt pg rfl).1
        have PF := path_free hb F O
        have PN := owns_ne2 F.stk O (by decide)
        obtain ⟨w4, hw4⟩ : ∃ w4, wr.drew.drew.setCell ⟨pg, R * 2 + 1, none⟩ (.int .i64 ((g : Int) + 1)) = w4 := ⟨_, rfl⟩
        rw [hw4] at S4
        obtain ⟨O4, G4⟩ := S4
        have e4 : (P2 ((n, g) :: r)).set (R * 2 + 1) (.int .i64 ((g : Int) + 1)) = P2 ((n, g + 1) :: r) := by rw [← HR.out]; exact P2_bump n g r _ (by omega)
        rw [e4] at O4
        have hx1 : ∀ q, q < b.base → ¬ some pg = some q := fun q hq h => by cases h; omega
        have hx2 : ∀ q, stv'.ownBlock = some q → ¬ some pg = some q := fun q hq h => PN q h hq
        have F4 : Fin w4 b (.slice (some ⟨ge, 0, none⟩) N ce) stv' N { s' with path := (n, g + 1) :: r } :=
          (F.drew.drew.ext (Ext.of_grown G4) hx1 hb hx2).withPath _
        have X4 : Ext b.may w w4 := X.drew.drew.trans (Ext.of_grown G4) (fun q hq h => .inr (.inr (.inr (.inr (.inr (by have h : some pg = some q := h; cases h; exact hpgb))))))
        clear hx1 hx2 G4 e4 PN
        go_wp2_with fail
        go_region_held3 (fun w' => w'.cell? ⟨pg, R * 2 + 1, none⟩ = some (.int .i64 (g : Int)) ∧ w'.cell? ⟨b.f, 0, none⟩ = some (.slice (some ⟨ge, 0, none⟩) N ce) ∧ w'.cell? ⟨ge, n, none⟩ = some (.slice (some ⟨ab, ao, none⟩) M c) ∧ w'.cell? ⟨ab, ao + g, none⟩ = some (.int .i64 (t : Int))) (first | exact S0 | assumption) (fail)
        go_wp2_with fail
        go_region_held3 (fun w' => w'.cell? ⟨pg, R * 2 + 1, none⟩ = some (.int .i64 (g : Int)) ∧ w'.cell? ⟨b.f, 0, none⟩ = some (.slice (some ⟨ge, 0, none⟩) N ce) ∧ w'.cell? ⟨ge, n, none⟩ = some (.slice (some ⟨ab, ao, none⟩) M c) ∧ w'.cell? ⟨ab, ao + g, none⟩ = some (.int .i64 (t : Int))) (first | exact S1 | assumption) (fail)
        have d1 := blk_cell F4.obj (o := 1) rfl
        have d3 := blk_cell F4.obj (o := 3) rfl
        by_cases ho : s'.ord t = 0
        · have d5 : w4.cell? ⟨b.go, t, none⟩ = some (.int .i64 0) := by have := blk_cell F4.ord (tab_get htN); simp only [ho] at this; exact this
          have hcl4 : s'.clk < 1000000000 := by have := hC.out.le; omega
          have EN4 := enter_any hb F4 t htN hcl4 hsl
          obtain ⟨i0, hi, hz0, hz1, hz2⟩ := info_parts iV
          have ER := hid (R1.out ho)
          clear R1 R2 R3 S0 S1
          go_wp2_with fail
          refine EN4.mono ?_
          rintro e w5 ⟨rfl, ⟨stv5, F5⟩, X5⟩
          have O5 := X5.owns2 (path_free hb F4 O4) O4
          have X6 : Ext b.may w w5 := X4.trans X5 (fun _ _ h => F4.may h)
          have PN5 := owns_ne2 F5.stk O5 (by decide)
          have hb5 : b.base ≤ w5.heap.size := F5.base
          have hbl : b.base ≤ (w5.alloc (.cells #[.int .i64 t, .int .i64 0] 46)).heap.size := by simp; omega
          have hRc : (R + 1 + 1) * 16 ≤ 140737488355328 := by omega
          have hRm : R + 1 + 1 ≤ maxLen := by simp only [maxLen]; omega
          go_wp2_with (at_builtin; refine wpList_append_own (P := Try.prog) _ rfl _ _ 48 rfl b.base 46 i0 (.agg #[.int .i64 0, .int .i64 0]) 2 16 Try.underlying48 hi hz0 hz1 hz2 rfl (by decide) (.slice (some ⟨pg, 0, none⟩) (R + 1) pc) (R + 1) (P2 ((n, g + 1) :: r)) rfl (O5.alloc _) ⟨w5.heap.size, 0, none⟩ 1 1 [.int .i64 t, .int .i64 0] rfl rfl (row_new w5 #[.int .i64 t, .int .i64 0] 46).news (fun u hu => by simp at hu; rcases hu with rfl | rfl <;> rfl) ?c3 ?c4 ?c5 ?_)
          case c3 => exact hRm
          case c4 => exact hRc
          case c5 => exact hbl
          intro v' w6 O6 G6 _
          go_wp2_with fail
          go_roundg (weight N E (s'.round E))
          case measure => exact hwt
          case rel =>
            have hx1 : ∀ q, q < b.base → ¬ some pg = some q := fun q hq h => by cases h; omega
            have hx2 : ∀ q, stv5.ownBlock = some q → ¬ some pg = some q := fun q hq h => PN5 q h hq
            refine ⟨s'.round E, stv5, hid rfl, IR, CR, ?_, ?_, ?_, MR.out⟩
            · rw [ER.out]
              exact (F5.ext ((Ext.refl (fun _ => False) w5).alloc _) (fun _ _ h => h) hb (fun _ _ h => h)).ext (Ext.of_grown G6) hx1 hb hx2
            · rw [ER.out]
              show World.ownsRow _ _ _ _ _ ((t, 0) :: (n, g + 1) :: r).length (P2 ((t, 0) :: (n, g + 1) :: r))
              rw [P2_cons, show ((t, 0) :: (n, g + 1) :: r).length = R + 1 + 1 by simp [HR.out]]
              exact O6
            · exact (X6.alloc _).trans (Ext.of_grown G6) (fun q hq h => .inr (.inr (.inr (.inr (.inr (by have h : some pg = some q := h; cases h; exact hpgb))))))
        · have d5 : w4.cell? ⟨b.go, t, none⟩ = some (.int .i64 (s'.ord t : Int)) := blk_cell F4.ord (tab_get htN)
          have hone : ((s'.ord t : Int) == 0) = false := by simp; omega
          have d6 : w4.cell? ⟨b.gi, t, none⟩ = some (.bool (s'.inS t)) := blk_cell F4.inS (tabB_get htN)
          cases hin : s'.inS t with
          | false =>
            rw [hin] at d6
            have ER := hid (R3.out ho hin)
            clear R1 R2 R3 S0 S1 hin
            go_wp2_with fail
            go_roundg (weight N E (s'.round E))
            case measure => exact hwt
            case rel =>
              refine ⟨s'.round E, stv', hid rfl, IR, CR, ?_, ?_, X4, MR.out⟩
              · rw [ER.out]; exact F4
              · rw [ER.out]
                show World.ownsRow _ _ _ _ _ ((n, g + 1) :: r).length (P2 ((n, g + 1) :: r))
                rw [show ((n, g + 1) :: r).length = R + 1 by simp [HR.out]]
                exact O4
          | true =>
            rw [hin] at d6
            have ER := hid (R2.out ho hin)
            clear R1 R2 R3 S0 S1 hin
            have l0 : w4.cell? ⟨b.gl, n, none⟩ = some (.int .i64 (s'.low n : Int)) := blk_cell F4.low (tab_get hnN)
            have l3 : w4.frozen? ⟨b.gl, n, none⟩ = false := blk_free F4.low
            obtain ⟨x, hx⟩ : ∃ x, s'.low n = x := ⟨_, rfl⟩
            obtain ⟨y, hy⟩ : ∃ y, s'.ord t = y := ⟨_, rfl⟩
            have hmin : min (x : Int) (y : Int) = ((min x y : Nat) : Int) := by omega
            obtain ⟨m, hm⟩ : ∃ m, min x y = m := ⟨_, rfl⟩
            have HMI := hid hm
            rw [hm] at hmin
            rw [hx] at l0
            rw [hy] at d5 hone
            have HX := hid hx
            have HY := hid hy
            have HO := hid ho
            clear hx hy hm ho
            have d2 : w4.cell? ⟨b.f, 2, none⟩ = some (.slice (some ⟨b.gl, 0, none⟩) N N) := blk_cell F4.obj (o := 2) rfl
            go_wp2_with fail
            go_still_tail 21, (by kernel_rfl)
            change wpList _ _ _ _ _ w4.drew
            all_goals
              go_wp2_with fail
              go_roundg (weight N E (s'.round E))
              case measure => exact hwt
              case rel =>
                refine ⟨s'.round E, stv', hid rfl, IR, CR, ?_, ?_, (X4.setC (.inr (.inr (.inl rfl)))).drew, MR.out⟩
                · rw [ER.out]
                  have hmm : m = min (s'.low n) (s'.ord t) := by rw [HX.out, HY.out, HMI.out]
                  have := F4.setLow hb hnN m
                  rw [hmm] at this ⊢
                  exact this
                · rw [ER.out]
                  show World.ownsRow _ _ _ _ _ ((n, g + 1) :: r).length (P2 ((n, g + 1) :: r))
                  rw [show ((n, g + 1) :: r).length = R + 1 by simp [HR.out]]
                  exact (ownsRow_setCell_below O4 (show Addr.block ⟨b.gl, n, none⟩ < b.base from hb.l3) _).drew

end Go.Proofs.Ytkflhmpecfckfaa
