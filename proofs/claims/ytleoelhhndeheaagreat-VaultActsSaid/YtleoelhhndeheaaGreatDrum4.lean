/- package drum: Settle, Lay -/
import Derived.Test.YtleoelhhndeheaaGreatDrum3
import Derived.StillTailTactics
open Go Go.RowKit
namespace Go.Proofs.YtleoelhhndeheaaGreat

def DS.settle (s : DS) : DS := if s.goes then { s.turn with kept := s.now, up := [] } else s.turn
theorem turn_parts (s : DS) : s.turn.n = s.n ∧ s.turn.kept = s.kept ∧ s.turn.now = s.now ∧ s.turn.up = s.up := by
  unfold DS.turn
  split
  · exact ⟨rfl, rfl, rfl, rfl⟩
  · split <;> exact ⟨rfl, rfl, rfl, rfl⟩
  · split <;> exact ⟨rfl, rfl, rfl, rfl⟩

theorem settle_any {w : World} {M : Dom} {d : Nat} {s : DS} (h : DrumAt w M d s) :
    Calls Tryz.prog 22 #[.pointer (some ⟨d, 0, none⟩)] w fun e w' => e = .returned (.int .i64 s.code) ∧ ∃ M', DrumAt w' M' d s.settle ∧ Step M w M' w' := by
  have TA := dturn_any h
  have HS : s.settle = if s.goes then { s.turn with kept := s.now, up := [] } else s.turn := rfl
  have HC : s.code = if s.goes then 0 else 4 := rfl
  obtain ⟨t, ht⟩ : ∃ t, s.settle = t := ⟨_, rfl⟩
  obtain ⟨cd, hcd⟩ : ∃ cd, s.code = cd := ⟨_, rfl⟩
  rw [ht] at HS ⊢
  rw [hcd] at HC TA ⊢
  obtain ⟨p1, p2, p3, p4⟩ := turn_parts s
  obtain ⟨u, hu⟩ : ∃ u, s.turn = u := ⟨_, rfl⟩
  rw [hu] at HS TA p1 p2 p3 p4
  rw [← p3] at HS
  clear h p1 p2 p3 p4 hu ht hcd
  by_cases hg : s.goes = true
  · rw [if_pos hg] at HS HC
    subst HS
    subst HC
    clear hg
    go_enter Tryz.func22, Tryz.ntmps22
    go_wp2_with fail
    refine TA.mono ?_
    rintro e w1 ⟨rfl, ⟨p, rfl, h⟩, S1⟩
    obtain ⟨-, c1, -⟩ := h.cells
    have CL := clone2_any h.now h.n0 h.n1
    have H := hid h
    clear h
    go_wp2_with fail
    refine CL.mono ?_
    rintro e w2 ⟨g, c', rfl, hgs, K2, B2⟩
    have Q2 := H.out.q.below B2
    have ho2 := (B2.block p.d (lt_of_blk H.out.obj)).trans H.out.obj
    have k0 := blk_cell (o := 0) ho2 rfl
    have k2 := blk_cell (o := 2) ho2 rfl
    have fr := fun o => blk_free (o := o) ho2
    have HO := hid ho2
    clear ho2
    go_wp2_with fail
    go_ret
    have ho2 := HO.out
    have md : (M.add g) p.d := .inl H.out.md
    have Q1 := (H.out.q.to (M' := M.add g) (fun q hq => hq.imp id (fun h => by omega)) (fun q hq _ => .inl hq)).below B2
    have X : Ext (· = p.d) w2 ((w2.setCell ⟨p.d, 0, none⟩ (.slice (some ⟨g, 0, none⟩) u.n c')).setCell ⟨p.d, 2, none⟩ (.slice none 0 0)) := Ext.set.trans Ext.set (fun _ _ h => h)
    have Q3 := Q1.ext ho2 md X
    obtain ⟨cur, hcur⟩ := K2.blk
    have K3 := K2.ext X (fun q hq => by subst hq; exact md) (blk_ne hcur ho2 (by decide))
    have hnb := H.out.now.lt
    refine ⟨rfl, M.add g, ⟨{ p with kb := g, kc := c', av := .slice none 0 0 }, rfl, DrumQ.p ⟨Q3.mb, Q3.mt, K3, Q3.now, ?_, UpAt.nil _ _ _, Q3.fuse, Q3.flag, Q3.turns, Q3.t0, Q3.t1, Q3.n0, Q3.n1, Nat.zero_le _⟩ md (ml_or H.out.ml (Nat.le_trans B2.size X.size) K3.lt) (fun q hq => Nat.lt_of_lt_of_le (H.out.xl q hq) (Nat.le_trans B2.size X.size)) (blk_setCell (blk_setCell ho2 _) _)⟩, ?_⟩
    · exact fun e => by have e : g = p.nb := e; omega
    · refine S1.trans ⟨(Ext.of_below B2 _).trans (X.mono (fun q _ hq => by subst hq; exact H.out.md)) (fun _ _ h => h), fun q hq => hq.imp id (fun h => by omega), rfl⟩
  · rw [if_neg hg] at HS HC
    subst HS
    subst HC
    clear hg
    go_enter Tryz.func22, Tryz.ntmps22
    go_wp2_with fail
    refine TA.mono ?_
    rintro e w1 ⟨rfl, h, S1⟩
    go_wp2_with fail
    go_ret
    exact ⟨rfl, M, h, S1⟩

end Go.Proofs.YtleoelhhndeheaaGreat
