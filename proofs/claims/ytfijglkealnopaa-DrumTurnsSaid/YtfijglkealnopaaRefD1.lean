/- lariatref3's drum: turn, set, Settle -/
import Derived.Test.YtfijglkealnopaaRefD0
import Derived.StillTailTactics
open Go Go.RowKit
namespace Go.Proofs.Ytfijglkealnopaa

theorem rturn_any {w : World} {R : Dom} {r : Nat} {s : RS} (h : RefAt w R r s) (ht : s.turns < 1000000) :
    Calls Try.prog 36 #[.pointer (some ⟨r, 0, none⟩)] w fun e w' => e = .returned (.int .i64 s.code) ∧ RefAt w' R r s.turn ∧ Step R w R w' := by
  obtain ⟨p, rfl, h⟩ := h
  obtain ⟨-, -, c2, c3, c4⟩ := h.cells
  have fr := fun o => blk_free (o := o) h.obj
  have H := hid h
  have hl0 := h.l0
  have hl1 := h.l1
  have ht0 := h.t0
  obtain ⟨n, K, up, left, broken, turns⟩ := s
  simp only at c2 c3 c4 hl0 hl1 ht0 ht
  clear h
  by_cases hz : left = 0
  · subst hz
    have e1 : (RS.code ⟨n, K, up, 0, broken, turns⟩) = 4 := by unfold RS.code; simp
    have e2 : (RS.turn ⟨n, K, up, 0, broken, turns⟩) = ⟨n, K, up, 0, true, turns⟩ := by unfold RS.turn; simp
    rw [e1, e2]
    clear e1 e2
    go_enter Try.func36, Try.ntmps36
    go_wp2_with fail
    go_ret
    exact ⟨rfl, ⟨p, rfl, H.out.put Ext.set _ rfl rfl rfl (blk_setCell H.out.obj _) hl0 hl1 ht0 H.out.t1⟩, Step.of_ext Ext.set (fun q hq => by subst hq; exact H.out.rr)⟩
  · have n1 : (left == 0) = false := by simp; omega
    cases broken with
    | true =>
      have e1 : (RS.code ⟨n, K, up, left, true, turns⟩) = 4 := by unfold RS.code; simp
      have e2 : (RS.turn ⟨n, K, up, left, true, turns⟩) = ⟨n, K, up, left, true, turns⟩ := by unfold RS.turn; simp
      rw [e1, e2]
      clear e1 e2
      go_enter Try.func36, Try.ntmps36
      go_wp2_with fail
      go_ret
      exact ⟨rfl, ⟨p, rfl, H.out⟩, Step.refl _ _⟩
    | false =>
      have e1 : (RS.code ⟨n, K, up, left, false, turns⟩) = 0 := by unfold RS.code; simp [hz]
      have e2 : (RS.turn ⟨n, K, up, left, false, turns⟩) = ⟨n, K, up, max (-1) (left - 1), false, turns + 1⟩ := by unfold RS.turn; simp [hz]
      rw [e1, e2]
      obtain ⟨x, hx⟩ : ∃ x, max (-1) (left - 1) = x := ⟨_, rfl⟩
      have hx0 : -1 ≤ x := by omega
      have hx1 : x ≤ 1000000 := by omega
      rw [hx]
      clear e1 e2
      go_enter Try.func36, Try.ntmps36
      go_wp2_with fail
      go_ret
      exact ⟨rfl, ⟨p, rfl, H.out.put (Ext.set.trans Ext.set (fun _ _ h => h)) _ rfl rfl rfl (blk_setCell (blk_setCell H.out.obj _) _) hx0 hx1 (by show 0 ≤ turns + 1; omega) (by show turns + 1 ≤ 1000000; omega)⟩, Step.of_ext (Ext.set.trans Ext.set (fun _ _ h => h)) (fun q hq => by subst hq; exact H.out.rr)⟩

theorem iS : (Try.prog.info? 9).map (fun i => (i.zero, i.size, i.bytes)) = some (some (.string ⟨#[]⟩), 1, 16) := by kernel_rfl

def RS.setT (s : RS) (k : Nat) (zs : List Int) : RS := { s with K := upd s.K k zs }
theorem rset_any {w : World} {R : Dom} {r : Nat} {s : RS} (h : RefAt w R r s) (k : Nat) (hk : k < s.n) (zs : List Int) (hz : zs.length = 96 ∧ IsBytes zs) :
    Calls Try.prog 37 #[.pointer (some ⟨r, 0, none⟩), .int .i64 (k : Int), .string (strOfNums zs)] w fun e w' => e = .returned (.tuple #[]) ∧ ∃ R', RefAt w' R' r (s.setT k zs) ∧ Step R w R' w' := by
  obtain ⟨p, rfl, h⟩ := h
  obtain ⟨c0, -⟩ := h.cells
  obtain ⟨i0, hi, hz0, hz1, hz2⟩ := info_parts iS
  have H := hid h
  have hn := h.n1
  have hn0 := h.n0
  have hdr := lt_of_blk h.obj
  obtain ⟨a', c1, e1, -, -, -, hrow, -, -⟩ := row_of_owns h.trow
  cases e1
  have hone := strK_one s.K s.n
  have hlen := strK_length s.K s.n
  have hnews := fun o => (hrow.alloc o).news
  have hown : (w.alloc (.cells #[] 9)).ownsRow w.heap.size 9 1 (.slice (some ⟨w.heap.size, 0, none⟩) 0 0) 0 [] := World.ownsRow_lit w #[] 0 (Nat.le_refl _) (by simp [maxLen]) rfl
  have k1 : (0 : Int) ≤ (k : Int) := by omega
  have k2 : (k : Int) < (s.n : Int) := by omega
  clear h
  go_enter Try.func37, Try.ntmps37
  go_wp2_with (at_builtin; refine wpList_append_own _ rfl _ _ 46 rfl w.heap.size 9 i0 (.string ⟨#[]⟩) 1 16 Try.underlying46 hi hz0 hz1 hz2 rfl (by decide) _ 0 [] rfl hown ⟨p.tb, 0, none⟩ s.n p.tc (strK s.K s.n) rfl (by rw [hlen, Nat.mul_one]) (hnews _) hone ?c3 ?c4 ?c5 ?_)
  case c3 => simp only [maxLen]; omega
  case c4 => omega
  case c5 => simp
  intro v' w1 ho hg _
  have hB : Below w.heap.size w w1 := ((Below.refl _ _).alloc (Nat.le_refl _) _).grown hg (by simp) (by rintro k hk; cases hk; exact Nat.le_refl _)
  clear hg
  obtain ⟨g, c2, rfl, -⟩ := owns_some ho hn0
  have hg1 := (ho.lt g rfl).1
  have cg : w1.cell? ⟨g, k, none⟩ = some (.string (strOfNums (s.K k))) := (ho.cellAt k (by omega)).trans (strK_get _ hk)
  have fg := ho.frozenAt k
  have ho1 := (hB.block p.r hdr).trans H.out.obj
  have hgr : g ≠ p.r := by omega
  have hX1 : Ext (· = g) w1 (w1.setCell ⟨g, k, none⟩ (.string (strOfNums zs))) := Ext.set
  have ho2 := hX1.blk (Ne.symm hgr) ho1
  have HO := hid ho
  have d0 := blk_cell (o := 0) ho2 rfl
  have fd := blk_free (o := 0) ho2
  have HO2 := hid ho2
  clear ho ho1 ho2
  go_wp2_with fail
  try simp only [Exit.inBlock, Exit.then]
  refine bodyPost_end (results_none rfl _ _ _) rfl ⟨rfl, R.add g, ⟨{ p with tb := g, tc := c2 }, rfl, ?_⟩, ?_⟩
  · obtain ⟨st1, -⟩ := HO.out.stored k (.string (strOfNums zs))
    rw [strK_set] at st1
    have hX2 : Ext (· = p.r) (w1.setCell ⟨g, k, none⟩ (.string (strOfNums zs))) ((w1.setCell ⟨g, k, none⟩ (.string (strOfNums zs))).setCell ⟨p.r, 0, none⟩ (.slice (some ⟨g, 0, none⟩) s.n c2)) := Ext.set
    have ar1 := hX1.owns2 (fun q hq e => by have := H.out.rl q (H.out.ra q hq); omega) ((Ext.of_below hB (fun _ => False)).owns2 (fun _ _ => id) H.out.arow)
    have gl : g < w1.heap.size := (HO.out.lt g rfl).2
    have z1 := hB.size
    exact ⟨blk_setCell HO2.out _, .inl H.out.rr, .inr rfl, fun q hq => .inl (H.out.ra q hq), hX2.owns2 (fun q hq e => by cases hq; exact hgr e) (owns_mono st1 (Nat.zero_le _)), hX2.owns2 (fun q hq e => owns_ne ar1 HO2.out (by decide) (e ▸ hq)) ar1,
      (fun q hq => by
        have h2 := hX1.size
        have h3 := hX2.size
        rcases hq with hq | hq
        · have := H.out.rl q hq; omega
        · omega), H.out.n0, H.out.n1, H.out.ul, (fun j hj => by
        show (upd s.K k zs j).length = 96 ∧ IsBytes (upd s.K k zs j)
        by_cases e : j = k
        · subst e; rw [upd_same]; exact hz
        · rw [upd_ne _ _ e]; exact H.out.kl j hj), H.out.upl, H.out.l0, H.out.l1, H.out.t0, H.out.t1⟩
  · refine ⟨((Ext.of_below hB R.M).trans hX1 (fun i hi e => by omega)).trans Ext.set (fun i hi e => by subst e; exact H.out.rr), fun q hq => hq.imp id (fun e => by omega), rfl⟩

end Go.Proofs.Ytfijglkealnopaa
