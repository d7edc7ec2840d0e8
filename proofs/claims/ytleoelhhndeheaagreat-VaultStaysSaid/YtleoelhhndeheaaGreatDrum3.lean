/- package drum: Break, Afloat, New, Settle -/
import Derived.Test.YtleoelhhndeheaaGreatDrum2
import Derived.Test.YtleoelhhndeheaaGreatIRow
open Go Go.RowKit
namespace Go.Proofs.YtleoelhhndeheaaGreat

/-- a drum's parts, but for the object itself -/
structure DrumQ (w : World) (M : Dom) (p : DP) (s : DS) : Prop where
  mb : M p.bb
  mt : M p.tb
  kept : HT w M p.kb p.kc s.n s.kept
  now : HT w M p.nb p.nc s.n s.now
  apart : p.kb ≠ p.nb
  up : UpAt w M p.av s.n s.up
  fuse : FuseAt w M p.fv s.fuse
  flag : isFlag w p.bb 107 s.broken
  turns : isInt w p.tb 112 s.turns
  t0 : 0 ≤ s.turns
  t1 : s.turns ≤ 4611686018427387904
  n0 : 0 < s.n
  n1 : s.n ≤ 1000000
  u1 : s.up.length ≤ 1000000000
theorem DrumP.q {w : World} {M : Dom} {p : DP} {s : DS} (h : DrumP w M p s) : DrumQ w M p s :=
  ⟨h.mb, h.mt, h.kept, h.now, h.apart, h.up, h.fuse, h.flag, h.turns, h.t0, h.t1, h.n0, h.n1, h.u1⟩
theorem ml_or {M : Dom} {w w' : World} {g : Nat} (ml : ∀ q, M q → q < w.heap.size) (hs : w.heap.size ≤ w'.heap.size) (hg : g < w'.heap.size) : ∀ q, (M.add g) q → q < w'.heap.size :=
  fun q hq => hq.elim (fun h => Nat.lt_of_lt_of_le (ml q h) hs) (fun h => h ▸ hg)
def DP.cells (p : DP) (n : Nat) : Array Value := #[.slice (some ⟨p.kb, 0, none⟩) n p.kc, .slice (some ⟨p.nb, 0, none⟩) n p.nc, p.av, p.fv, .pointer (some ⟨p.bb, 0, none⟩), .pointer (some ⟨p.tb, 0, none⟩)]
theorem DrumQ.p {w : World} {M : Dom} {p : DP} {s : DS} (h : DrumQ w M p s) (md : M p.d) (ml : ∀ q, M q → q < w.heap.size) (xl : ∀ q, M.X q → q < w.heap.size) (ho : w.heap[p.d]? = some (.cells (p.cells s.n) 90 (0, 0))) : DrumP w M p s :=
  ⟨ho, md, h.mb, h.mt, h.kept, h.now, h.apart, h.up, h.fuse, h.flag, h.turns, h.t0, h.t1, h.n0, h.n1, h.u1, ml, xl⟩
/-- the object alone is written -/
theorem DrumQ.ext {w w' : World} {M : Dom} {p : DP} {s : DS} (h : DrumQ w M p s) {d : Nat} {c : Array Value} (hd : w.heap[d]? = some (.cells c 90 (0, 0))) (md : M d) (k : Ext (· = d) w w') : DrumQ w' M p s := by
  have hM : ∀ q, q = d → M q := fun q hq => by subst hq; exact md
  obtain ⟨ck, hk⟩ := h.kept.blk
  obtain ⟨cn, hn⟩ := h.now.blk
  refine ⟨h.mb, h.mt, h.kept.ext k hM (blk_ne hk hd (by decide)), h.now.ext k hM (blk_ne hn hd (by decide)), h.apart, h.up.ext k hM (fun q hq => h.up.ne hq hd (by decide)), h.fuse.ext k (fun b hb => h.fuse.ne hb hd (by decide)),
    k.blk (blk_ne h.flag hd (by decide)) h.flag, k.blk (blk_ne h.turns hd (by decide)) h.turns, h.t0, h.t1, h.n0, h.n1, h.u1⟩
theorem DrumQ.ext' {w w' : World} {M : Dom} {p : DP} {s : DS} (h : DrumQ w M p s) (kx : Ext (fun _ => False) w w') : DrumQ w' M p s :=
  ⟨h.mb, h.mt, h.kept.ext kx (fun _ h => h.elim) id, h.now.ext kx (fun _ h => h.elim) id, h.apart, h.up.ext kx (fun _ h => h.elim) (fun _ _ => id), h.fuse.ext kx (fun _ _ => id), kx.blk id h.flag, kx.blk id h.turns, h.t0, h.t1, h.n0, h.n1, h.u1⟩
theorem DrumQ.below {w w' : World} {M : Dom} {p : DP} {s : DS} (h : DrumQ w M p s) (k : Below w.heap.size w w') : DrumQ w' M p s := by
  have kx := Ext.of_below k (fun _ => False)
  exact ⟨h.mb, h.mt, h.kept.ext kx (fun _ h => h.elim) id, h.now.ext kx (fun _ h => h.elim) id, h.apart, h.up.ext kx (fun _ h => h.elim) (fun _ _ => id), h.fuse.ext kx (fun _ _ => id), kx.blk id h.flag, kx.blk id h.turns, h.t0, h.t1, h.n0, h.n1, h.u1⟩
theorem Ext.set {w : World} {b o : Nat} {v : Value} : Ext (· = b) w (w.setCell ⟨b, o, none⟩ v) := Ext.of_set (Below.refl _ _)

/-- the drum's blocks become more -/
theorem DrumQ.to {w : World} {M M' : Dom} {p : DP} {s : DS} (h : DrumQ w M p s) (hM : ∀ q, M' q → M q ∨ w.heap.size ≤ q) (hm : ∀ q, M q → q < w.heap.size → M' q) (hX : M'.X = M.X := by rfl) : DrumQ w M' p s :=
  ⟨hm _ h.mb (lt_of_blk h.flag), hm _ h.mt (lt_of_blk h.turns), h.kept.to hM (hm _ h.kept.may h.kept.lt) hX, h.now.to hM (hm _ h.now.may h.now.lt) hX, h.apart, h.up.to hM hm hX, h.fuse.to hm, h.flag, h.turns, h.t0, h.t1, h.n0, h.n1, h.u1⟩

def DS.brk (s : DS) (a : Int) : DS := { s with fuse := if 0 ≤ a then some (clip a) else none }

theorem break_any {w : World} {M : Dom} {d : Nat} {s : DS} (h : DrumAt w M d s) (a : Int) :
    Calls Tryz.prog 37 #[.pointer (some ⟨d, 0, none⟩), .int .i64 a] w fun e w' => e = .returned (.tuple #[]) ∧ ∃ M', DrumAt w' M' d (s.brk a) ∧ Step M w M' w' := by
  obtain ⟨p, rfl, h⟩ := h
  obtain ⟨-, -, -, c3, -, -⟩ := h.cells
  have fr := fun o => blk_free (o := o) h.obj
  have ho1 := blk_setCell (o := 3) h.obj (.pointer none)
  have Q1 := h.q.ext h.obj h.md (Ext.set (o := 3) (v := .pointer none))
  have X1 : Ext (· = p.d) w (w.setCell ⟨p.d, 3, none⟩ (.pointer none)) := Ext.set
  have MD := hid h.md
  have ML := hid h.ml
  have XL := hid h.xl
  have T0 := hid (show s.n = s.n from rfl)
  clear h T0
  by_cases ha : 0 ≤ a
  · have HA := hid ha
    go_enter Tryz.func37, Tryz.ntmps37
    go_wp2_with fail
    refine (newBudget_o a _).mono ?_
    rintro e w2 ⟨rfl, hb, X2⟩
    have Q2 := Q1.ext' X2
    have ho2 := X2.blk id ho1
    have fr2 := fun o => blk_free (o := o) ho2
    have c3' : w2.cell? ⟨p.d, 3, none⟩ = some (.pointer none) := blk_cell ho2 rfl
    generalize hg : (w.setCell ⟨p.d, 3, none⟩ (.pointer none)).heap.size = g at hb
    go_wp2_with fail
    try simp only [Exit.inBlock, Exit.then]
    have sz : w.heap.size = g := by rw [← hg]; simp
    have hw1 : ∀ q, (M.add g) q → M q ∨ w.heap.size ≤ q := fun q hq => hq.imp id (fun h => by omega)
    refine bodyPost_end (results_none rfl _ _ _) rfl ⟨rfl, M.add g, ?_, ?_⟩
    · have X3 : Ext (· = p.d) w2 (w2.setCell ⟨p.d, 3, none⟩ (.pointer (some ⟨g, 0, none⟩))) := Ext.set
      have ho3 := blk_setCell (o := 3) ho2 (.pointer (some ⟨g, 0, none⟩))
      have Q1' := Q1.to (M' := M.add g) (fun q hq => hq.imp id (fun h => by simp; omega)) (fun q hq _ => .inl hq)
      have Q2' := (Q1'.ext' X2).ext ho2 (.inl MD.out) X3
      have hb3 := X3.blk (blk_ne hb ho2 (by decide)) hb
      refine ⟨{ p with fv := .pointer (some ⟨g, 0, none⟩) }, rfl, DrumQ.p ⟨Q2'.mb, Q2'.mt, Q2'.kept, Q2'.now, Q2'.apart, Q2'.up, ?_, Q2'.flag, Q2'.turns, Q2'.t0, Q2'.t1, Q2'.n0, Q2'.n1, Q2'.u1⟩ (.inl MD.out) (ml_or ML.out (Nat.le_trans X1.size (Nat.le_trans X2.size X3.size)) (lt_of_blk hb3)) (fun q hq => Nat.lt_of_lt_of_le (XL.out q hq) (Nat.le_trans X1.size (Nat.le_trans X2.size X3.size))) ho3⟩
      have e : (s.brk a).fuse = some (clip a) := by unfold DS.brk; rw [if_pos HA.out]
      rw [e]
      exact ⟨g, _, rfl, .inr rfl, hb3, by unfold clip; omega, by unfold clip; omega⟩
    · exact ⟨((X1.trans X2 (fun _ _ h => h.elim)).trans Ext.set (fun _ _ h => h)).mono (fun q _ hq => by subst hq; exact MD.out), hw1, rfl⟩
  · have HA := hid ha
    go_enter Tryz.func37, Tryz.ntmps37
    go_wp2_with fail
    try simp only [Exit.inBlock, Exit.then]
    refine bodyPost_end (results_none rfl _ _ _) rfl ⟨rfl, M, ⟨{ p with fv := .pointer none }, rfl, DrumQ.p ⟨Q1.mb, Q1.mt, Q1.kept, Q1.now, Q1.apart, Q1.up, ?_, Q1.flag, Q1.turns, Q1.t0, Q1.t1, Q1.n0, Q1.n1, Q1.u1⟩ MD.out (fun q hq => by have := ML.out q hq; simpa using this) (fun q hq => by have := XL.out q hq; simpa using this) ho1⟩, Step.of_ext X1 (fun q hq => by subst hq; exact MD.out)⟩
    have e : (s.brk a).fuse = none := by unfold DS.brk; rw [if_neg (by have := HA.out; omega)]
    rw [e]
    rfl

/-- a lay that is afloat: where it lies -/
theorem UpAt.get {w : World} {M : Dom} {av : Value} {n : Nat} {up : List (Nat × List Int)} (h : UpAt w M av n up) {i : Nat} (hi : i < up.length) :
    ∃ g c a cc, av = .slice (some ⟨g, 0, none⟩) up.length c ∧ w.cell? ⟨g, i * 2, none⟩ = some (.int .i64 ((up[i].1 : Nat) : Int)) ∧ w.cell? ⟨g, i * 2 + 1, none⟩ = some (.slice (some a) 96 cc) ∧ up[i].1 < n ∧ Trk w M (.slice (some a) 96 cc) up[i].2 := by
  obtain ⟨vs, h0, h1, h2⟩ := h.row
  obtain ⟨g, c, rfl, -⟩ := owns_some h1 (by omega)
  obtain ⟨h3, v, h4, a, cc, rfl, h5⟩ := h2 i up[i] (List.getElem?_eq_getElem hi)
  obtain ⟨k1, k2⟩ := layCells_get up vs i up[i] _ (List.getElem?_eq_getElem hi) h4
  exact ⟨g, c, a, cc, rfl, (h1.cellAt (i * 2) (by omega)).trans (by rw [Nat.mul_comm]; exact k1), (h1.cellAt (i * 2 + 1) (by omega)).trans (by rw [Nat.mul_comm]; exact k2), h3, a, cc, rfl, h5⟩
theorem UpAt.slice {w : World} {M : Dom} {av : Value} {n : Nat} {up : List (Nat × List Int)} (h : UpAt w M av n up) : ∃ a c, av = .slice a up.length c := by
  obtain ⟨vs, h0, h1, h2⟩ := h.row
  exact owns_slice h1

theorem iT : (Tryz.prog.info? 27).map (fun i => (i.zero, i.size, i.bytes)) = some (some (.slice none 0 0), 1, 24) := by kernel_rfl
theorem clone2_any {w : World} {M : Dom} {b c n : Nat} {K : Nat → List Int} (h : HT w M b c n K) (hn : 0 < n) (hb : n ≤ 1000000) :
    Calls Tryz.prog 53 #[.slice (some ⟨b, 0, none⟩) n c] w fun e w' => ∃ g c', e = .returned (.slice (some ⟨g, 0, none⟩) n c') ∧ w.heap.size ≤ g ∧ HT w' (M.add g) g c' n K ∧ Below w.heap.size w w' := by
  have heq := fun w1 => Lib.run_eql_slice_nil (P := Tryz.prog) w1 46 27 (some ⟨b, 0, none⟩) n c 0 0 Tryz.underlying46
  obtain ⟨i0, hi, hz0, hz1, hz2⟩ := info_parts iT
  obtain ⟨hs, h1, h2⟩ := h.row
  obtain ⟨a', c1, e1, hl, -, -, hrow, -, -⟩ := row_of_owns h1
  cases e1
  have hone : ∀ u ∈ hs, u.oneCell' = true := by
    intro u hu
    obtain ⟨i, hi⟩ := List.getElem?_of_mem hu
    have hin : i < n := by have := (List.getElem?_eq_some_iff.1 hi).1; omega
    obtain ⟨v, h3, a, cc, rfl, h4⟩ := h2 i hin
    rw [hi] at h3
    cases h3
    rfl
  have hnews := fun o => (hrow.alloc o).news
  have HL := hid hl
  have hown : (w.alloc (.cells #[] 27)).ownsRow w.heap.size 27 1 (.slice (some ⟨w.heap.size, 0, none⟩) 0 0) 0 [] := World.ownsRow_lit w #[] 0 (Nat.le_refl _) (by simp [maxLen]) rfl
  have H2 := hid h2
  have H1 := hid h1
  clear hl h1 h2
  go_enter Tryz.func53, Tryz.ntmps53
  go_wp2_with (at_builtin; refine wpList_append_own _ rfl _ _ 46 rfl w.heap.size 27 i0 (.slice none 0 0) 1 24 Tryz.underlying46 hi hz0 hz1 hz2 rfl (by decide) _ 0 [] rfl hown ⟨b, 0, none⟩ n c hs rfl (by rw [HL.out, Nat.mul_one]) (hnews _) hone ?c3 ?c4 ?c5 ?_)
  case c3 => simp only [maxLen]; omega
  case c4 => omega
  case c5 => simp
  intro v' w1 ho hg _
  have hB : Below w.heap.size w w1 := ((Below.refl _ _).alloc (Nat.le_refl _) _).grown hg (by simp) (by rintro k hk; cases hk; exact Nat.le_refl _)
  clear hg
  obtain ⟨g, c2, rfl, -⟩ := owns_some ho hn
  go_wp2_with fail
  go_ret
  have hg := (ho.lt g rfl).1
  refine ⟨g, c2, rfl, hg, ⟨.inr rfl, hs, owns_mono ho (Nat.zero_le _), fun i hi => ?_⟩, hB⟩
  obtain ⟨v, h3, h4⟩ := H2.out i hi
  exact ⟨v, h3, (h4.to (M' := M.add g) (fun q hq => hq.imp id (fun h => by omega))).ext (Ext.of_below hB (fun _ => False)) (fun _ h => h.elim)⟩

end Go.Proofs.YtleoelhhndeheaaGreat
