import Derived.Test.YtleoelhhndeheaaGreatDrum3
import Derived.StillTailTactics
import Derived.Test.YtleoelhhndeheaaGreatConcat
import Derived.Lib.MinMax
/- package drum: Settle, Lay -/
open Go Go.RowKit
namespace Go.Proofs.YtleoelhhndeheaaGreat

def DS.settle (s : DS) : DS := if s.goes then { s.turn with kept := s.now, up := [] } else s.turn
theorem turn_parts (s : DS) : s.turn.n = s.n ∧ s.turn.kept = s.kept ∧ s.turn.now = s.now ∧ s.turn.up = s.up := by
  unfold DS.turn
  split
  · exact ⟨rfl, rfl, rfl, rfl⟩
  · split <;> exact ⟨rfl, rfl, rfl, rfl⟩
  · split <;> exact ⟨rfl, rfl, rfl, rfl⟩

theorem settle_any {w : World} {M : Dom} {d : Nat} {s : DS} (h : DrumAt w M d s) :
    Calls Tryz.prog 22 #[.pointer (some ⟨d, 0, none⟩)] w fun e w' => e = .returned (.int .i64 s.code) ∧ ∃ M', DrumAt w' M' d s.settle ∧ Step M w M' w' := by
  have TA := dturn_any h
  have HS : s.settle = if s.goes then { s.turn with kept := s.now, up := [] } else s.turn := rfl
  have HC : s.code = if s.goes then 0 else 4 := rfl
  obtain ⟨t, ht⟩ : ∃ t, s.settle = t := ⟨_, rfl⟩
  obtain ⟨cd, hcd⟩ : ∃ cd, s.code = cd := ⟨_, rfl⟩
  rw [ht] at HS ⊢
  rw [hcd] at HC TA ⊢
  obtain ⟨p1, p2, p3, p4⟩ := turn_parts s
  obtain ⟨u, hu⟩ : ∃ u, s.turn = u := ⟨_, rfl⟩
  rw [hu] at HS TA p1 p2 p3 p4
  rw [← p3] at HS
  clear h p1 p2 p3 p4 hu ht hcd
  by_cases hg : s.goes = true
  · rw [if_pos hg] at HS HC
    subst HS
    subst HC
    clear hg
    go_enter Tryz.func22, Tryz.ntmps22
    go_wp2_with fail
    refine TA.mono ?_
    rintro e w1 ⟨rfl, ⟨p, rfl, h⟩, S1⟩
    obtain ⟨-, c1, -⟩ := h.cells
    have CL := clone2_any h.now h.n0 h.n1
    have H := hid h
    clear h
    go_wp2_with fail
    refine CL.mono ?_
    rintro e w2 ⟨g, c', rfl, hgs, K2, B2⟩
    have Q2 := H.out.q.below B2
    have ho2 := (B2.block p.d (lt_of_blk H.out.obj)).trans H.out.obj
    have k0 := blk_cell (o := 0) ho2 rfl
    have k2 := blk_cell (o := 2) ho2 rfl
    have fr := fun o => blk_free (o := o) ho2
    have HO := hid ho2
    clear ho2
    go_wp2_with fail
    go_ret
    have ho2 := HO.out
    have md : (M.add g) p.d := .inl H.out.md
    have Q1 := (H.out.q.to (M' := M.add g) (fun q hq => hq.imp id (fun h => by omega)) (fun q hq _ => .inl hq)).below B2
    have X : Ext (· = p.d) w2 ((w2.setCell ⟨p.d, 0, none⟩ (.slice (some ⟨g, 0, none⟩) u.n c')).setCell ⟨p.d, 2, none⟩ (.slice none 0 0)) := Ext.set.trans Ext.set (fun _ _ h => h)
    have Q3 := Q1.ext ho2 md X
    obtain ⟨cur, hcur⟩ := K2.blk
    have K3 := K2.ext X (fun q hq => by subst hq; exact md) (blk_ne hcur ho2 (by decide))
    have hnb := H.out.now.lt
    refine ⟨rfl, M.add g, ⟨{ p with kb := g, kc := c', av := .slice none 0 0 }, rfl, DrumQ.p ⟨Q3.mb, Q3.mt, K3, Q3.now, ?_, UpAt.nil _ _ _, Q3.fuse, Q3.flag, Q3.turns, Q3.t0, Q3.t1, Q3.n0, Q3.n1, Nat.zero_le _⟩ md (ml_or H.out.ml (Nat.le_trans B2.size X.size) K3.lt) (fun q hq => Nat.lt_of_lt_of_le (H.out.xl q hq) (Nat.le_trans B2.size X.size)) (blk_setCell (blk_setCell ho2 _) _)⟩, ?_⟩
    · exact fun e => by have e : g = p.nb := e; omega
    · refine S1.trans ⟨(Ext.of_below B2 _).trans (X.mono (fun q _ hq => by subst hq; exact H.out.md)) (fun _ _ h => h), fun q hq => hq.imp id (fun h => by omega), rfl⟩
  · rw [if_neg hg] at HS HC
    subst HS
    subst HC
    clear hg
    go_enter Tryz.func22, Tryz.ntmps22
    go_wp2_with fail
    refine TA.mono ?_
    rintro e w1 ⟨rfl, h, S1⟩
    go_wp2_with fail
    go_ret
    exact ⟨rfl, M, h, S1⟩

end Go.Proofs.YtleoelhhndeheaaGreat

/- package drum: Lay -/
open Go Go.RowKit
namespace Go.Proofs.YtleoelhhndeheaaGreat

/-- may it be laid? -/
def DS.fits (s : DS) (k : Int) (zs : List Int) : Bool := decide (0 ≤ k ∧ k < s.n ∧ zs.length = 96)
def DS.laid (s : DS) (k : Nat) (zs : List Int) : DS := { s with now := upd s.now k zs, up := s.up ++ [(k, zs)] }
def DS.lay (s : DS) (k : Int) (zs : List Int) : DS := if s.fits k zs then (if s.goes then s.turn.laid k.toNat zs else s.turn) else s
def DS.layCode (s : DS) (k : Int) (zs : List Int) : Int := if s.fits k zs then s.code else 1

theorem iL : (Tryz.prog.info? 92).map (fun i => (i.zero, i.size, i.bytes)) = some (some (.agg #[.int .i64 0, .slice none 0 0]), 2, 32) := by kernel_rfl

theorem owns_blk' {w : World} {M : Dom} {av : Value} {n : Nat} {up : List (Nat × List Int)} (h : UpAt w M av n up) {b : Nat} (hb : av.ownBlock = some b) : True ∧ w.heap[b]? = some (.cells (((w.heap[b]?).bind fun o => match o with | .cells c _ _ => some c | _ => none).getD #[]) 92 (0, 0)) := by
  obtain ⟨vs, h0, h1, h2⟩ := h.row
  refine ⟨trivial, ?_⟩
  rcases h1.2 with ⟨hv, _⟩ | ⟨g, cap, cur, hv, _, hh, _⟩
  · subst hv; cases hb
  · subst hv
    cases hb
    rw [hh]
    rfl
/-- a store into the tracks that are looked at -/
theorem DrumP.setNow {w : World} {M : Dom} {p : DP} {s : DS} (h : DrumP w M p s) {i : Nat} {v : Value} {zs : List Int} (hv : Trk w M v zs) : DrumP (w.setCell ⟨p.nb, i, none⟩ v) M p { s with now := upd s.now i zs } := by
  obtain ⟨ck, hk⟩ := h.kept.blk
  obtain ⟨cn, hn⟩ := h.now.blk
  have k : Ext (· = p.nb) w (w.setCell ⟨p.nb, i, none⟩ v) := Ext.set
  have hM : ∀ q, q = p.nb → M q := fun q hq => by subst hq; exact h.now.may
  exact ⟨k.blk (blk_ne h.obj hn (by decide)) h.obj, h.md, h.mb, h.mt, h.kept.ext k hM h.apart, h.now.store hv, h.apart, h.up.ext k hM (fun q hq => h.up.ne hq hn (by decide)), h.fuse.ext k (fun b hb => h.fuse.ne hb hn (by decide)),
    k.blk (blk_ne h.flag hn (by decide)) h.flag, k.blk (blk_ne h.turns hn (by decide)) h.turns, h.t0, h.t1, h.n0, h.n1, h.u1, fun q hq => Nat.lt_of_lt_of_le (h.ml q hq) k.size, fun q hq => Nat.lt_of_lt_of_le (h.xl q hq) k.size⟩
theorem DrumP.setKept {w : World} {M : Dom} {p : DP} {s : DS} (h : DrumP w M p s) {i : Nat} {v : Value} {zs : List Int} (hv : Trk w M v zs) : DrumP (w.setCell ⟨p.kb, i, none⟩ v) M p { s with kept := upd s.kept i zs } := by
  obtain ⟨ck, hk⟩ := h.kept.blk
  obtain ⟨cn, hn⟩ := h.now.blk
  have k : Ext (· = p.kb) w (w.setCell ⟨p.kb, i, none⟩ v) := Ext.set
  have hM : ∀ q, q = p.kb → M q := fun q hq => by subst hq; exact h.kept.may
  exact ⟨k.blk (blk_ne h.obj hk (by decide)) h.obj, h.md, h.mb, h.mt, h.kept.store hv, h.now.ext k hM (Ne.symm h.apart), h.apart, h.up.ext k hM (fun q hq => h.up.ne hq hk (by decide)), h.fuse.ext k (fun b hb => h.fuse.ne hb hk (by decide)),
    k.blk (blk_ne h.flag hk (by decide)) h.flag, k.blk (blk_ne h.turns hk (by decide)) h.turns, h.t0, h.t1, h.n0, h.n1, h.u1, fun q hq => Nat.lt_of_lt_of_le (h.ml q hq) k.size, fun q hq => Nat.lt_of_lt_of_le (h.xl q hq) k.size⟩

/-- one lay more is afloat -/
theorem DrumP.push {w w6 : World} {M : Dom} {p : DP} {s : DS} (h : DrumP w M p s) {i : Nat} {v : Value} {zs : List Int} (hv : Trk w M v zs) (hi : i < s.n) {gg cap : Nat} {vs : List Value} (v0 : vs.length = s.up.length)
    (v2 : ∀ (i : Nat) (q : Nat × List Int), s.up[i]? = some q → q.1 < s.n ∧ ∃ v, vs[i]? = some v ∧ Trk w M v q.2) (hx : Ext (fun q => p.av.ownBlock = some q) w w6) (hg : p.av.ownBlock = some gg ∨ w.heap.size ≤ gg) (hlt : gg < w6.heap.size)
    (O6 : w6.ownsRow 0 92 2 (.slice (some ⟨gg, 0, none⟩) (s.up.length + 1) cap) (s.up.length + 1) (layCells s.up vs ++ [.int .i64 (i : Int), v])) (hu : s.up.length + 1 ≤ 1000000000) :
    DrumP (w6.setCell ⟨p.d, 2, none⟩ (.slice (some ⟨gg, 0, none⟩) (s.up.length + 1) cap)) (M.add gg) { p with av := .slice (some ⟨gg, 0, none⟩) (s.up.length + 1) cap } { s with up := s.up ++ [(i, zs)] } := by
  have hto : ∀ q, (M.add gg) q → M q ∨ w.heap.size ≤ q := fun q hq => hq.elim .inl (fun e => hg.elim (fun h1 => .inl (h.up.may q (e ▸ h1))) (fun h1 => .inr (e ▸ h1)))
  have hF : ∀ q, (fun q => p.av.ownBlock = some q) q → (M.add gg) q := fun q hq => .inl (h.up.may q hq)
  have Q := h.q.to hto (fun q hq _ => .inl hq)
  obtain ⟨ck, hk⟩ := h.kept.blk
  obtain ⟨cn, hn⟩ := h.now.blk
  have hne : ∀ {b : Nat} {c : Array Value} {t : TypeId}, w.heap[b]? = some (.cells c t (0, 0)) → t ≠ 92 → ¬ (fun q => p.av.ownBlock = some q) b := fun hb ht hq => h.up.ne hq hb ht rfl
  have obj6 := hx.blk (hne h.obj (by decide)) h.obj
  have up6 : UpAt w6 (M.add gg) (.slice (some ⟨gg, 0, none⟩) (s.up.length + 1) cap) s.n (s.up ++ [(i, zs)]) := by
    refine ⟨fun q hq => ?_, vs ++ [v], by simp [v0], ?_, fun j q hq => ?_⟩
    · have e : some gg = some q := hq
      cases e
      exact .inr rfl
    · rw [layCells_push _ _ v0, List.length_append]
      exact O6
    · by_cases hj : j < s.up.length
      · rw [List.getElem?_append_left hj] at hq
        obtain ⟨h1, u, h2, h3⟩ := v2 j q hq
        exact ⟨h1, u, by rw [List.getElem?_append_left (by omega)]; exact h2, (h3.to hto).ext hx hF⟩
      · rw [List.getElem?_append_right (by omega)] at hq
        have hj0 : j - s.up.length = 0 := by
          have := (List.getElem?_eq_some_iff.1 hq).1
          simp at this
          omega
        rw [hj0] at hq
        cases hq
        refine ⟨hi, v, ?_, (hv.to hto).ext hx hF⟩
        rw [List.getElem?_append_right (by omega), v0, hj0]
        rfl
  have Q6 : DrumQ w6 (M.add gg) { p with av := .slice (some ⟨gg, 0, none⟩) (s.up.length + 1) cap } { s with up := s.up ++ [(i, zs)] } :=
    ⟨Q.mb, Q.mt, Q.kept.ext hx hF (hne hk (by decide)), Q.now.ext hx hF (hne hn (by decide)), Q.apart, up6, Q.fuse.ext hx (fun b hb hf => by
        exact h.fuse.ne hb (owns_blk' h.up hf).2 (by decide) rfl), hx.blk (hne h.flag (by decide)) h.flag, hx.blk (hne h.turns (by decide)) h.turns, Q.t0, Q.t1, Q.n0, Q.n1, by simpa using hu⟩
  have X : Ext (· = p.d) w6 (w6.setCell ⟨p.d, 2, none⟩ (.slice (some ⟨gg, 0, none⟩) (s.up.length + 1) cap)) := Ext.set
  exact DrumQ.p (Q6.ext obj6 (.inl h.md) X) (.inl h.md) (ml_or h.ml (Nat.le_trans hx.size X.size) (Nat.lt_of_lt_of_le hlt X.size)) (fun q hq => Nat.lt_of_lt_of_le (h.xl q hq) (Nat.le_trans hx.size X.size)) (blk_setCell obj6 _)

set_option maxRecDepth 100000 in
theorem lay_any {w : World} {M : Dom} {d : Nat} {s : DS} (h : DrumAt w M d s) (k : Int) (a : Option Addr) (lb cb : Nat) (zs : List Int) (hrow : Row w a (B8 zs)) (hl : zs.length = lb) (hby : IsBytes zs) (hnil : a = none → lb = 0) (hM : 0 < lb → ¬ M (sB a)) (hu : s.up.length < 1000000000) :
    Calls Tryz.prog 21 #[.pointer (some ⟨d, 0, none⟩), .int .i64 k, .slice a lb cb] w fun e w' => e = .returned (.int .i64 (s.layCode k zs)) ∧ ∃ M', DrumAt w' M' d (s.lay k zs) ∧ Step M w M' w' := by
  have TA := dturn_any h
  have HA := has_any h k
  have HS : s.lay k zs = if s.fits k zs then (if s.goes then s.turn.laid k.toNat zs else s.turn) else s := rfl
  have HC : s.layCode k zs = if s.fits k zs then s.code else 1 := rfl
  have HD : s.code = if s.goes then 0 else 4 := rfl
  have HF : s.fits k zs = decide (0 ≤ k ∧ k < s.n ∧ zs.length = 96) := rfl
  obtain ⟨t, ht⟩ : ∃ t, s.lay k zs = t := ⟨_, rfl⟩
  obtain ⟨cd, hcd⟩ : ∃ cd, s.layCode k zs = cd := ⟨_, rfl⟩
  rw [ht] at HS ⊢
  rw [hcd] at HC ⊢
  obtain ⟨p1, p2, p3, p4⟩ := turn_parts s
  obtain ⟨u, hu⟩ : ∃ u, s.turn = u := ⟨_, rfl⟩
  rw [hu] at HS TA p1 p2 p3 p4
  have H0 := hid h
  clear h ht hcd hu
  by_cases hk : 0 ≤ k ∧ k < (s.n : Int)
  · rw [show decide (0 ≤ k ∧ k < (s.n : Int)) = true by simpa using hk] at HA
    by_cases hlb : lb = 96
    · subst hlb
      rw [show s.fits k zs = true by rw [HF]; simp; exact ⟨hk.1, hk.2, hl⟩, if_pos rfl] at HS HC
      by_cases hg : s.goes = true
      · rw [if_pos hg] at HS HD
        rw [HD] at HC TA
        subst HS
        subst HC
        clear hg HD HF
        obtain ⟨i, rfl⟩ : ∃ i : Nat, k = i := ⟨k.toNat, by omega⟩
        have hiu : i < u.n := by omega
        have hun : u.up.length < 1000000000 := by rw [p4]; exact hu
        have HR := hid hrow
        have HL := hid hl
        have hnM := hid (hM (by omega))
        clear p1 p2 p3 p4 hl hrow hk
        go_enter Tryz.func21, Tryz.ntmps21
        go_wp2_with fail
        refine HA.mono ?_
        rintro e w0 ⟨rfl, rfl⟩
        go_wp2_with fail
        refine TA.mono ?_
        rintro e w1 ⟨rfl, ⟨p, rfl, h⟩, S1⟩
        have CL := cloneB_any a 96 cb zs w1 (HR.out.ext S1.ext (fun _ => hnM.out)) HL.out hnil (by omega)
        have H := hid h
        clear h
        go_wp2_with fail
        refine CL.mono ?_
        rintro e w2 ⟨v, rfl, ho, B2⟩
        obtain ⟨tg, tc, rfl, -⟩ := owns_some ho (by omega)
        have htg := ho.lt tg rfl
        obtain ⟨aa, ac, hav⟩ := H.out.up.slice
        obtain ⟨W3, hW3⟩ : ∃ W, w2.alloc (.cells #[.int .i64 (i : Int), .slice (some ⟨tg, 0, none⟩) 96 tc] 92) = W := ⟨_, rfl⟩
        obtain ⟨i0, hi, hz0, hz1, hz2⟩ := info_parts iL
        have hs2 : w1.heap.size ≤ w2.heap.size := B2.size
        have B3 : Below w1.heap.size w1 W3 := hW3 ▸ B2.alloc hs2 _
        have hs3 : W3.heap.size = w2.heap.size + 1 := by rw [← hW3]; simp
        have P3 := H.out.below B3
        have l3 : W3.heap[w2.heap.size]? = some (.cells #[.int .i64 (i : Int), .slice (some ⟨tg, 0, none⟩) 96 tc] 92 (0, 0)) := by rw [← hW3]; exact blk_new _ _
        have o3 : W3.ownsRow w1.heap.size 5 1 (.slice (some ⟨tg, 0, none⟩) 96 tc) 96 (B8 zs) := by rw [← hW3]; exact ho.alloc _
        obtain ⟨l8, hl8⟩ : ∃ l8, w2.heap.size = l8 := ⟨_, rfl⟩
        rw [hl8] at l3 hs3
        obtain ⟨vs, v0, v1, v2⟩ := P3.up.row
        rw [hav] at v1
        have hlu := P3.u1
        obtain ⟨L, hL⟩ : ∃ L, u.up.length = L := ⟨_, rfl⟩
        rw [hL] at hav v1 hlu hun
        have c2 : W3.drew.cell? ⟨p.d, 2, none⟩ = some (.slice aa L ac) := by rw [← hav]; exact P3.cells.2.2.1
        have c1 : W3.drew.cell? ⟨p.d, 1, none⟩ = some (.slice (some ⟨p.nb, 0, none⟩) u.n p.nc) := P3.cells.2.1
        have f2 : W3.drew.frozen? ⟨p.d, 2, none⟩ = false := blk_free (w := W3) P3.obj
        have m0 : W3.drew.cell? ⟨l8, 0, none⟩ = some (.int .i64 (i : Int)) := blk_cell (w := W3) l3 rfl
        have m1 : W3.drew.cell? ⟨l8, 1, none⟩ = some (.slice (some ⟨tg, 0, none⟩) 96 tc) := blk_cell (w := W3) l3 rfl
        have hv0 := hid v0
        have hV2 := hid v2
        have hne : (Value.slice aa L ac).ownBlock ≠ some p.d := fun e => P3.up.ne (by rw [hav]; exact e) P3.obj (by decide) rfl
        have S5a : ∀ o, (W3.drew.alloc o).cell? ⟨p.d, 2, none⟩ = some (.slice aa L ac) := fun o => cell_alloc o c2
        have f5a : ∀ o, (W3.drew.alloc o).frozen? ⟨p.d, 2, none⟩ = false := fun o => free_alloc o (lt_of_cell c2) f2
        have c2w : W3.cell? ⟨p.d, 2, none⟩ = some (.slice aa L ac) := c2
        have f2w : W3.frozen? ⟨p.d, 2, none⟩ = false := f2
        have m0w : W3.cell? ⟨l8, 0, none⟩ = some (.int .i64 (i : Int)) := m0
        have m1w : W3.cell? ⟨l8, 1, none⟩ = some (.slice (some ⟨tg, 0, none⟩) 96 tc) := m1
        have hdw : p.d < W3.heap.size := lt_of_blk P3.obj
        have h8w : l8 < W3.heap.size := lt_of_blk l3
        have P3 := hid P3
        have HS3 := hid hs3
        clear hs3
        have HL2 := hid hL
        have HAV := hid hav
        have hm1 : L + 1 ≤ maxLen := by simp only [maxLen]; omega
        have hm2 : (L + 1) * 32 ≤ 140737488355328 := by omega
        have TR := hid (show Trk W3 M (.slice (some ⟨tg, 0, none⟩) 96 tc) zs from by
          obtain ⟨a1, c1, e1, -, hc1, -, hrw, -, -⟩ := row_of_owns o3
          cases e1
          exact ⟨⟨tg, 0, none⟩, tc, rfl, hrw, HL.out, fun hm => by have := hm.elim (H.out.ml tg) (H.out.xl tg); omega, hby, hc1⟩)
        have hl8n := hid (show ∀ q, (Value.slice aa L ac).ownBlock = some q → q < w1.heap.size from fun q hq => H.out.ml q (H.out.up.may q (by rw [hav]; exact hq)))
        have hdl8 : p.d ≠ l8 := by have := lt_of_blk H.out.obj; omega
        clear v0 v2 hL hav ho
        go_wp2_with fail
        go_region_law (refine step_append_lies _ (by rfl) _ _ _ (by rfl) 0 92 i0 (.agg #[.int .i64 0, .slice none 0 0]) 2 32 Tryz.underlying85 hi hz0 hz1 hz2 (by rfl) (by decide) (.slice aa L ac) L (layCells u.up vs) (by rfl) (v1.drew.alloc _) ⟨W3.heap.size, 0, none⟩ 1 1 [.int .i64 (i : Int), .slice (some ⟨tg, 0, none⟩) 96 tc] (by rfl) (by rfl) (row_at W3.drew #[.int .i64 (i : Int), .slice (some ⟨tg, 0, none⟩) 96 tc] 92 rfl).news (fun u hu => by simp at hu; rcases hu with rfl | rfl <;> rfl) (by decide) hm1 hm2 (Nat.zero_le _) (W3.heap.size + 1) (by simp) ?_; intro gg cap w6 O6 G6 hat hlt; have S6 : w6.cell? ⟨p.d, 2, none⟩ = some (.slice aa L ac) := (G6.cell_far ⟨p.d, 2, none⟩ (lt_of_cell (S5a _)) (Ne.symm hne)).trans (S5a _); have f6 : w6.frozen? ⟨p.d, 2, none⟩ = false := (G6.frozen_far ⟨p.d, 2, none⟩ (lt_of_cell (S5a _)) (Ne.symm hne)).trans (f5a _))
        all_goals
          have hx : Ext (fun q => (Value.slice aa L ac).ownBlock = some q) W3 w6 := ((Ext.refl (fun q => (Value.slice aa L ac).ownBlock = some q) W3).drew.alloc _).trans (Ext.of_grown G6) (fun _ _ h => h)
          have hat' : (Value.slice aa L ac).ownBlock = some gg ∨ W3.heap.size ≤ gg := hat.imp id (fun h => by omega)
          have PP := P3.out.push TR.out hiu hv0.out hV2.out (by rw [HAV.out]; exact hx) (by rw [HAV.out]; exact hat') hlt (by rw [HL2.out]; exact O6) (by rw [HL2.out]; omega)
          rw [HL2.out] at PP
          have hto : ∀ q, (M.add gg) q → M q ∨ W3.heap.size ≤ q := fun q hq => hq.elim .inl (fun e => hat'.elim (fun h1 => .inl (P3.out.up.may q (e ▸ (by rw [HAV.out]; exact h1)))) (fun h1 => .inr (e ▸ h1)))
          have X7 : Ext (· = p.d) w6 (w6.setCell ⟨p.d, 2, none⟩ (.slice (some ⟨gg, 0, none⟩) (L + 1) cap)) := Ext.set
          have T7 := ((TR.out.to hto).ext hx (fun q hq => .inl (P3.out.up.may q (by rw [HAV.out]; exact hq)))).ext X7 (fun q hq => by subst hq; exact .inl P3.out.md)
          have l7 := X7.blk (Ne.symm hdl8) (hx.blk (fun h => by have := hl8n.out _ h; omega) l3)
          have XS : Step M w1 (M.add gg) (w6.setCell ⟨p.d, 2, none⟩ (.slice (some ⟨gg, 0, none⟩) (L + 1) cap)) :=
            ⟨((Ext.of_below B3 M).trans (hx.mono (fun q _ hq => P3.out.up.may q (by rw [HAV.out]; exact hq))) (fun _ _ h => h)).trans (X7.mono (fun q _ hq => by subst hq; exact P3.out.md)) (fun _ _ h => h), fun q hq => (hto q hq).imp id (fun h => by have := B3.size; omega), rfl⟩
          obtain ⟨W7, hW7⟩ : ∃ W7, w6.setCell ⟨p.d, 2, none⟩ (.slice (some ⟨gg, 0, none⟩) (L + 1) cap) = W7 := ⟨_, rfl⟩
          rw [hW7] at PP T7 l7 XS
          have k1 : W7.cell? ⟨p.d, 1, none⟩ = some (.slice (some ⟨p.nb, 0, none⟩) u.n p.nc) := PP.cells.2.1
          have k2 : W7.cell? ⟨l8, 1, none⟩ = some (.slice (some ⟨tg, 0, none⟩) 96 tc) := blk_cell l7 rfl
          obtain ⟨a9, c9, k3, -⟩ := PP.now.cell hiu
          have k4 := PP.now.free i
          have PP := hid PP
          have hx' := hid hx
          have TD := T7.ext (Ext.refl (fun _ => False) W7).drew (fun _ h => h.elim)
          have PN : Hid (DrumP (W7.drew.setCell ⟨p.nb, i, none⟩ (.slice (some ⟨tg, 0, none⟩) 96 tc)) (M.add gg) _ _) := hid ((PP.out.below (Below.refl _ W7).drew).setNow (i := i) TD)
          have PF : Hid (Step M w (M.add gg) (W7.drew.setCell ⟨p.nb, i, none⟩ (.slice (some ⟨tg, 0, none⟩) 96 tc))) := hid (((S1.trans XS).trans Step.drew).trans (Step.of_ext Ext.set (fun q hq => by subst hq; exact PP.out.now.may)))
          clear hx hx' hat' hto X7 T7 TD l7 XS G6 O6 hat S6 f6 c1 c2 c2w f2 f2w m0 m0w m1 m1w S5a f5a
          go_wp2_with fail
          go_still_tail 8, (by kernel_rfl)
          change wpList _ _ _ _ _ W7.drew
          go_wp2_with fail
          go_ret
          exact ⟨rfl, _, ⟨{ p with av := .slice (some ⟨gg, 0, none⟩) (L + 1) cap }, rfl, PN.out⟩, PF.out⟩
      · rw [if_neg hg] at HS HD
        rw [HD] at HC TA
        subst HS
        subst HC
        clear hg HD HF hk p1 p2 p3 p4
        go_enter Tryz.func21, Tryz.ntmps21
        go_wp2_with fail
        refine HA.mono ?_
        rintro e w0 ⟨rfl, rfl⟩
        go_wp2_with fail
        refine TA.mono ?_
        rintro e w1 ⟨rfl, h, S1⟩
        go_wp2_with fail
        go_ret
        exact ⟨rfl, M, h, S1⟩
    · rw [show s.fits k zs = false by rw [HF]; simp; omega] at HS HC
      simp only [Bool.false_eq_true, if_false] at HS HC
      subst HS
      subst HC
      have n1 : ((lb : Int) == 96) = false := by simp; omega
      have n2 : ¬ ((lb : Int) = 96) := by omega
      clear HD HF hk hlb
      go_enter Tryz.func21, Tryz.ntmps21
      go_wp2_with fail
      refine HA.mono ?_
      rintro e w0 ⟨rfl, rfl⟩
      go_wp2_with fail
      go_ret
      exact ⟨rfl, M, H0.out, Step.refl _ _⟩
  · rw [show decide (0 ≤ k ∧ k < (s.n : Int)) = false by simpa using hk] at HA
    rw [show s.fits k zs = false by rw [HF]; simp; omega] at HS HC
    simp only [Bool.false_eq_true, if_false] at HS HC
    subst HS
    subst HC
    clear HD HF hk
    go_enter Tryz.func21, Tryz.ntmps21
    go_wp2_with fail
    refine HA.mono ?_
    rintro e w0 ⟨rfl, rfl⟩
    go_wp2_with fail
    go_ret
    exact ⟨rfl, M, H0.out, Step.refl _ _⟩

end Go.Proofs.YtleoelhhndeheaaGreat

/- package drum: New -/
open Go Go.RowKit
namespace Go.Proofs.YtleoelhhndeheaaGreat

def DS.new (n : Nat) : DS := ⟨n, fun _ => zeros96, fun _ => zeros96, [], none, false, 0⟩

/-- tracks that were just made -/
def Fresh (w : World) (B : Nat) (hs : List Value) : Prop := ∀ (i : Nat) (v : Value), hs[i]? = some v → ∃ g : Nat, v = Value.slice (some ⟨g, 0, none⟩) 96 96 ∧ w.heap[g]? = some (.cells (B8 zeros96).toArray 5 (0, 0)) ∧ B ≤ g

theorem row_blk {w : World} {g : Nat} {vs : List Value} {t : TypeId} (h : w.heap[g]? = some (.cells vs.toArray t (0, 0))) : Row w (some ⟨g, 0, none⟩) vs :=
  ⟨fun _ => rfl, fun i v hv => by
    show w.cell? ⟨g, 0 + i, none⟩ = some v
    rw [Nat.zero_add]
    exact blk_cell h (by simpa using hv)⟩
theorem zeros96_bytes : IsBytes zeros96 := fun n hn => by
  have := (List.mem_replicate.1 hn).2
  omega
theorem Fresh.push {w w' : World} {B : Nat} {hs : List Value} (h : Fresh w B hs) {F : Nat → Prop} (k : Ext F w w') (hF : ∀ g, B ≤ g → w.heap[g]? = some (.cells (B8 zeros96).toArray 5 (0, 0)) → ¬ F g) {g : Nat} (hg : w'.heap[g]? = some (.cells (B8 zeros96).toArray 5 (0, 0))) (hB : B ≤ g) : Fresh w' B (hs ++ [.slice (some ⟨g, 0, none⟩) 96 96]) := by
  intro i v hv
  by_cases hi : i < hs.length
  · rw [List.getElem?_append_left hi] at hv
    obtain ⟨g', e, h1, h2⟩ := h i v hv
    exact ⟨g', e, k.blk (hF g' h2 h1) h1, h2⟩
  · rw [List.getElem?_append_right (by omega)] at hv
    have h0 := (List.getElem?_eq_some_iff.1 hv).1
    simp at h0
    rw [show i - hs.length = 0 by omega] at hv
    cases hv
    exact ⟨g, rfl, hg, hB⟩

set_option maxRecDepth 100000 in
theorem new_any (n : Int) (w : World) :
    Calls Tryz.prog 36 #[.int .i64 n] w fun e w' => ((¬ (10 ≤ n ∧ n ≤ 4096) ∧ e = .returned (.tuple #[.pointer none, .int .i64 1])) ∨
      (10 ≤ n ∧ n ≤ 4096 ∧ ∃ d M, e = .returned (.tuple #[.pointer (some ⟨d, 0, none⟩), .int .i64 0]) ∧ DrumAt w' M d (DS.new n.toNat) ∧ (∀ q, M q → w.heap.size ≤ q))) ∧ Below w.heap.size w w' := by
  by_cases hn : 10 ≤ n ∧ n ≤ 4096
  · obtain ⟨N, rfl⟩ : ∃ N : Nat, n = N := ⟨n.toNat, by omega⟩
    have hN1 : 10 ≤ N := by omega
    have hN2 : N ≤ 4096 := by omega
    have x1 : ¬ ((N : Int) < 10) := by omega
    have x2 : ¬ ((4096 : Int) < (N : Int)) := by omega
    have m2 := fun W => mkU (n := 96) (by omega) W
    simp only [show ((96 : Nat) : Int) = 96 from rfl] at m2
    obtain ⟨i0, hi, hz0, hz1, hz2⟩ := info_parts iT
    clear hn
    obtain ⟨W, hW⟩ : ∃ W, ((w.alloc (.cells #[.int .u32 0] 107)).alloc (.cells #[.int .i64 0] 112)).alloc (.cells #[.slice none 0 0, .slice none 0 0, .slice none 0 0, .pointer none, .pointer (some ⟨w.heap.size, 0, none⟩), .pointer (some ⟨w.heap.size + 1, 0, none⟩)] 90) = W := ⟨_, rfl⟩
    have b0 : W.heap[w.heap.size]? = some (.cells #[.int .u32 0] 107 (0, 0)) := hW ▸ blk_old _ (blk_old _ (blk_new w _))
    have b1 : W.heap[w.heap.size + 1]? = some (.cells #[.int .i64 0] 112 (0, 0)) := hW ▸ blk_old _ (blk_at _ (by simp))
    have b2 : W.heap[w.heap.size + 1 + 1]? = some (.cells #[.slice none 0 0, .slice none 0 0, .slice none 0 0, .pointer none, .pointer (some ⟨w.heap.size, 0, none⟩), .pointer (some ⟨w.heap.size + 1, 0, none⟩)] 90 (0, 0)) := hW ▸ blk_at _ (by simp)
    have BW : Below w.heap.size w W := hW ▸ (((Below.refl _ w).alloc (Nat.le_refl _) _).alloc (by simp) _).alloc (by simp; omega) _
    go_enter Tryz.func36, Tryz.ntmps36
    go_wp2_with fail
    have hszW : W.heap.size = w.heap.size + 3 := by rw [← hW]; simp
    clear hW
    obtain ⟨fb, hfb⟩ : ∃ fb, w.heap.size = fb := ⟨_, rfl⟩
    rw [hfb] at b0 b1 b2 hszW ⊢
    obtain ⟨tb, htb⟩ : ∃ tb, fb + 1 = tb := ⟨_, rfl⟩
    rw [htb] at b1 b2 ⊢
    obtain ⟨d, hd⟩ : ∃ d, tb + 1 = d := ⟨_, rfl⟩
    rw [hd] at b2 ⊢
    have HSW := hid hszW
    have HFB := hid hfb
    have HTB := hid htb
    have HD := hid hd
    clear hszW hfb htb hd
    go_loopw [18] (fun v wr => ∃ (k : Nat) (oa : Option Addr) (oc : Nat) (hs : List Value), v = .int .i64 k ∧ k ≤ N ∧ wr.heap[d]? = some (.cells #[.slice oa k oc, .slice none 0 0, .slice none 0 0, .pointer none, .pointer (some ⟨fb, 0, none⟩), .pointer (some ⟨tb, 0, none⟩)] 90 (0, 0)) ∧
      wr.ownsRow W.heap.size 27 1 (.slice oa k oc) k hs ∧ Hid (Fresh wr W.heap.size hs) ∧ Ext (fun q => q = d ∨ W.heap.size ≤ q) W wr) (fun v _ => N - (intOf v).toNat)
    case atStart => exact ⟨0, none, 0, [], rfl, Nat.zero_le _, b2, World.ownsRow_nil _ _ _ _, hid (fun i v h => by simp at h), Ext.refl _ _⟩
    case round =>
      obtain ⟨k, oa, oc, hs, rfl, hk, OB, OW, HF, X⟩ := hrel
      have hdW : d < W.heap.size := lt_of_blk b2
      have hdw : d < wr.heap.size := lt_of_blk OB
      have hsz := X.size
      by_cases hkN : k < N
      · have c0 : wr.cell? ⟨d, 0, none⟩ = some (.slice oa k oc) := blk_cell OB rfl
        have f0 : wr.frozen? ⟨d, 0, none⟩ = false := blk_free OB
        have hne : (Value.slice oa k oc).ownBlock ≠ some d := fun e => by have := (OW.lt d e).1; omega
        have S5a : ∀ o o', ((wr.drew.alloc o).alloc o').cell? ⟨d, 0, none⟩ = some (.slice oa k oc) := fun o o' => cell_alloc o' (cell_alloc o (w := wr.drew) c0)
        have f5a : ∀ o o', ((wr.drew.alloc o).alloc o').frozen? ⟨d, 0, none⟩ = false := fun o o' => free_alloc o' (lt_of_cell (cell_alloc o (w := wr.drew) c0)) (free_alloc o (w := wr.drew) hdw f0)
        have hm1 : k + 1 ≤ maxLen := by simp only [maxLen]; omega
        have hm2 : (k + 1) * 24 ≤ 140737488355328 := by omega
        go_wp2_with fail
        go_region_law (refine step_append_lies _ (by rfl) _ _ _ (by rfl) W.heap.size 27 i0 (.slice none 0 0) 1 24 Tryz.underlying46 hi hz0 hz1 hz2 (by rfl) (by decide) (.slice oa k oc) k hs (by rfl) ((OW.drew.alloc _).alloc _) ⟨wr.heap.size + 1, 0, none⟩ 1 1 [.slice (some ⟨wr.heap.size, 0, none⟩) 96 96] (by rfl) (by rfl) (row_at (wr.drew.alloc (.cells (B8 (List.replicate 96 0)).toArray 5)) #[.slice (some ⟨wr.heap.size, 0, none⟩) 96 96] 27 (by simp)).news (fun u hu => by simp at hu; subst hu; rfl) (by decide) hm1 hm2 (by simp; omega) (wr.heap.size + 1 + 1) (by simp) ?_; intro gg cap w6 O6 G6 hat hlt; have S6 : w6.cell? ⟨d, 0, none⟩ = some (.slice oa k oc) := (G6.cell_far ⟨d, 0, none⟩ (lt_of_cell (S5a _ _)) (Ne.symm hne)).trans (S5a _ _); have f6 : w6.frozen? ⟨d, 0, none⟩ = false := (G6.frozen_far ⟨d, 0, none⟩ (lt_of_cell (S5a _ _)) (Ne.symm hne)).trans (f5a _ _))
        all_goals
          go_wp2_with fail
          go_roundw
          case measure => simp [intOf]; omega
          case rel =>
            have hx : Ext (fun q => q = d ∨ (Value.slice oa k oc).ownBlock = some q) wr (w6.setCell ⟨d, 0, none⟩ (.slice (some ⟨gg, 0, none⟩) (k + 1) cap)) :=
              ((((Ext.refl (fun q => q = d ∨ (Value.slice oa k oc).ownBlock = some q) wr).drew.alloc _).alloc _).trans (Ext.of_grown G6) (fun _ _ h => .inr h)).trans Ext.set (fun _ _ h => .inl h)
            have hd6 : w6.heap[d]? = _ := (G6.block d (by simp; omega) (Ne.symm hne)).trans (blk_old _ (blk_old _ (w := wr.drew) OB))
            have hg6 : w6.heap[wr.heap.size]? = some (.cells (B8 zeros96).toArray 5 (0, 0)) :=
              (G6.block wr.heap.size (by simp; omega) (fun e => by have := (OW.lt _ e.symm).2; omega)).trans (blk_old _ (blk_new wr.drew _))
            have hg7 : (w6.setCell ⟨d, 0, none⟩ (.slice (some ⟨gg, 0, none⟩) (k + 1) cap)).heap[wr.heap.size]? = some (.cells (B8 zeros96).toArray 5 (0, 0)) := Ext.set.blk (show ¬ (wr.heap.size = d) by omega) hg6
            refine ⟨k + 1, some ⟨gg, 0, none⟩, cap, hs ++ [.slice (some ⟨wr.heap.size, 0, none⟩) 96 96], by go_num, by omega, blk_setCell hd6 _, ?_, hid (HF.out.push hx (fun g hg hb hf => ?_) hg7 (by omega)), X.trans hx (fun q _ hq => hq.imp id (fun h => (OW.lt q h).1))⟩
            · exact Ext.set.owns2 (fun q hq e => by
                have hq : some gg = some q := hq
                cases hq
                have := (O6.lt gg rfl).1
                have e : gg = d := e
                omega) O6
            · rcases hf with hf | hf
              · omega
              · exact owns_ne OW hb (by decide) hf
      · obtain rfl : N = k := by omega
        obtain ⟨kb, kc, e1, -⟩ := owns_some OW (by omega)
        obtain ⟨rfl, rfl⟩ : oa = some ⟨kb, 0, none⟩ ∧ oc = kc := by cases e1; exact ⟨rfl, rfl⟩
        have c0 : wr.cell? ⟨d, 0, none⟩ = some (.slice (some ⟨kb, 0, none⟩) N oc) := blk_cell OB rfl
        have hlenhs : hs.length = N := by have := OW.1; omega
        have bf : wr.heap[fb]? = _ := X.blk (fun h => by have := HTB.out; have := HD.out; have := lt_of_blk b0; omega) b0
        have bt : wr.heap[tb]? = _ := X.blk (fun h => by have := HD.out; have := lt_of_blk b1; omega) b1
        obtain ⟨ck, hkb⟩ := owns_blk OW
        have HT0 : HT wr (⟨fun q => q = d ∨ q = fb ∨ q = tb ∨ q = kb, fun _ => False⟩) kb oc N (fun _ => zeros96) := by
          refine ⟨.inr (.inr (.inr rfl)), hs, owns_mono OW (Nat.zero_le _), fun i hi => ?_⟩
          have hv : hs[i]? = some hs[i] := List.getElem?_eq_getElem (by omega)
          obtain ⟨g, e, h1, h2⟩ := HF.out i _ hv
          refine ⟨_, hv, ⟨g, 0, none⟩, 96, e, row_blk h1, zeros96_len, fun h => ?_, zeros96_bytes, Nat.le_refl _⟩
          rcases h with (h | h | h | h) | h
          · exact blk_ne h1 OB (by decide) h
          · exact blk_ne h1 bf (by decide) h
          · exact blk_ne h1 bt (by decide) h
          · exact blk_ne h1 hkb (by decide) h
          · exact h.elim
        have HT1 := hid HT0
        have CL := clone2_any HT0 (by omega) (by omega)
        have hkbw := lt_of_blk hkb
        clear HT0 e1
        go_wp2_with fail
        refine CL.mono ?_
        rintro e w8 ⟨g, c', rfl, hg, K2, B8'⟩
        have ho8 := (B8'.block d hdw).trans OB
        have c1 : w8.cell? ⟨d, 1, none⟩ = some (.slice none 0 0) := blk_cell ho8 rfl
        have fr := blk_free (o := 1) ho8
        have HO := hid ho8
        clear ho8
        go_wp2_with fail
        go_ret2
        have hs8 := B8'.size
        have hgw := K2.lt
        have ba := BW.size
        have ml : ∀ q, ((q = d ∨ q = fb ∨ q = tb ∨ q = kb) ∨ q = g) → w.heap.size ≤ q ∧ q < w8.heap.size := by
          have h1 := HTB.out
          have h2 := HD.out
          have h3 := HFB.out
          have h4 := (OW.lt kb rfl).1
          intro q hq
          omega
        have Q8 : DrumQ w8 (Dom.add ⟨fun q => q = d ∨ q = fb ∨ q = tb ∨ q = kb, fun _ => False⟩ g) ⟨d, kb, oc, g, c', .slice none 0 0, .pointer none, fb, tb⟩ (DS.new N) :=
          ⟨.inl (.inr (.inl rfl)), .inl (.inr (.inr (.inl rfl))), (HT1.out.to (M' := Dom.add ⟨fun q => q = d ∨ q = fb ∨ q = tb ∨ q = kb, fun _ => False⟩ g) (fun q hq => hq.imp id (fun h => by omega)) (.inl (.inr (.inr (.inr rfl))))).ext (Ext.of_below B8' (fun _ => False)) (fun _ h => h.elim) id,
            K2, fun e => by have e : kb = g := e; omega, UpAt.nil _ _ _, rfl, (B8'.block fb (lt_of_blk bf)).trans bf, (B8'.block tb (lt_of_blk bt)).trans bt, Int.le_refl _, by show (0 : Int) ≤ _; omega, by show 0 < N; omega, by show N ≤ _; omega, Nat.zero_le _⟩
        have X9 : Ext (· = d) w8 (w8.setCell ⟨d, 1, none⟩ (.slice (some ⟨g, 0, none⟩) N c')) := Ext.set
        have B9 : Below w.heap.size w (w8.setCell ⟨d, 1, none⟩ (.slice (some ⟨g, 0, none⟩) N c')) :=
          Below.ext (Below.ext BW ((X.trans (Ext.of_below B8' _) (fun _ _ h => h))) (fun q hq => by have h1 := HTB.out; have h2 := HD.out; have h3 := HFB.out; omega) ba) X9 (fun q hq => by have h1 := HTB.out; have h2 := HD.out; have h3 := HFB.out; omega) (by omega)
        refine ⟨.inr ⟨by omega, by omega, d, _, rfl, ⟨_, rfl, DrumQ.p (Q8.ext HO.out (.inl (.inl rfl)) X9) (.inl (.inl rfl)) (fun q hq => by have := (ml q hq).2; have := X9.size; omega) (fun q hq => hq.elim) (blk_setCell HO.out _)⟩, fun q hq => (ml q hq).1⟩, B9⟩
  · by_cases h : n < 10
    · go_enter Tryz.func36, Tryz.ntmps36
      go_wp2_with fail
      go_ret2
      first | exact ⟨.inl ⟨hn, rfl⟩, Below.refl _ _⟩ | exact ⟨.inl rfl, Below.refl _ _⟩ | exact ⟨rfl, Below.refl _ _⟩
    · have h2 : 4096 < n := by omega
      go_enter Tryz.func36, Tryz.ntmps36
      go_wp2_with fail
      go_ret2
      first | exact ⟨.inl ⟨by omega, rfl⟩, Below.refl _ _⟩ | exact ⟨.inl rfl, Below.refl _ _⟩ | exact ⟨rfl, Below.refl _ _⟩

end Go.Proofs.YtleoelhhndeheaaGreat

/- package drum: Fall -/
open Go Go.RowKit
namespace Go.Proofs.YtleoelhhndeheaaGreat

/-- a slice of ints that is read -/
structure IntsAt (w : World) (a : Option Addr) (m c : Nat) (zs : List Int) : Prop where
  row : Row w a (I8 zs)
  len : zs.length = m
  nil : a = none → m = 0 ∧ c = 0
  big : m ≤ 9223372036854775807
theorem IntsAt.below {w w' : World} {a : Option Addr} {m c : Nat} {zs : List Int} (h : IntsAt w a m c zs) {B : Nat} (hb : Below B w w') (hB : w.heap.size ≤ B) : IntsAt w' a m c zs := ⟨h.row.below hb hB, h.len, h.nil, h.big⟩
theorem IntsAt.ext {w w' : World} {a : Option Addr} {m c : Nat} {zs : List Int} (h : IntsAt w a m c zs) {F : Nat → Prop} (hx : Ext F w w') (hF : 0 < m → ¬ F (sB a)) : IntsAt w' a m c zs := ⟨h.row.ext hx (fun h0 => hF (by simp at h0; have := h.len; omega)), h.len, h.nil, h.big⟩
theorem IntsAt.none (w : World) : IntsAt w none 0 0 [] := ⟨Row.nil _ _, rfl, fun _ => ⟨rfl, rfl⟩, by omega⟩

theorem take_succ_get {zs : List Int} {i : Nat} (h : i < zs.length) : zs.take (i + 1) = zs.take i ++ [zs[i]?.getD 0] := by
  rw [List.take_add_one, List.getElem?_eq_getElem h]; rfl

theorem index_any (a : Option Addr) (la ca : Nat) (zs : List Int) (x : Int) (w : World) (h : IntsAt w a la ca zs) :
    Calls Tryz.prog 96 #[.slice a la ca, .int .i64 x] w fun e w' => ∃ r : Int, e = .returned (.int .i64 r) ∧ (0 ≤ r ↔ x ∈ zs) ∧ (r < 0 → r = -1) ∧ w = w' := by
  have hix := fun k (hk : k < la) => idx_at1 (P := Tryz.prog) (T := 33) Tryz.underlying33 szI (cap := ca) (fun _ => h.row.nn (by simp; have := h.len; omega)) hk
  have HL := hid h.len
  have hbig := h.big
  go_enter Tryz.func96, Tryz.ntmps96
  go_wp2_with fail
  go_loop [8] (fun v => ∃ i : Nat, v = .int .i64 i ∧ i ≤ la ∧ Hid (x ∉ zs.take i)) (fun v => la - (intOf v).toNat)
  case atStart => exact ⟨0, rfl, Nat.zero_le _, hid (by simp)⟩
  case round =>
    obtain ⟨i, rfl, hi, hn⟩ := hrel
    by_cases hin : i < la
    · have hixi := hix i hin
      have hiz : i < zs.length := by rw [HL.out]; exact hin
      have hc := h.row.num hiz
      have TK := take_succ_get hiz
      have hmem : zs[i]?.getD 0 ∈ zs := by rw [List.getElem?_eq_getElem hiz]; exact List.getElem_mem _
      obtain ⟨y, hy⟩ : ∃ y, zs[i]?.getD 0 = y := ⟨_, rfl⟩
      rw [hy] at hc TK hmem
      have TK2 := hid TK
      have HM := hid hmem
      clear hy hiz hmem TK
      by_cases hxy : x = y
      · subst hxy
        go_wp2_with fail
        go_ret
        exact ⟨i, rfl, ⟨fun _ => HM.out, fun _ => by omega⟩, by omega, rfl⟩
      · have hne : (x == y) = false := by simp only [beq_eq_false_iff_ne]; exact hxy
        have HX := hid hxy
        clear hxy
        go_wp2_with fail
        go_round
        case measure => simp [intOf]; omega
        case rel =>
          refine ⟨i + 1, by go_num, by omega, hid ?_⟩
          rw [TK2.out, List.mem_append]
          rintro (h1 | h1)
          · exact hn.out h1
          · simp at h1; exact HX.out h1
    · obtain rfl : la = i := by omega
      have hn := hn.out
      rw [← HL.out, List.take_length] at hn
      have HN := hid hn
      clear hn
      go_wp2_with fail
      go_ret
      exact ⟨-1, rfl, ⟨fun h => by omega, fun h => absurd h HN.out⟩, fun _ => rfl, rfl⟩

theorem contains_any (a : Option Addr) (la ca : Nat) (zs : List Int) (x : Int) (w : World) (h : IntsAt w a la ca zs) :
    Calls Tryz.prog 65 #[.slice a la ca, .int .i64 x] w fun e w' => e = .returned (.bool (decide (x ∈ zs))) ∧ w = w' := by
  go_enter Tryz.func65, Tryz.ntmps65
  go_wp2_with fail
  refine (index_any a la ca zs x w h).mono ?_
  rintro e w1 ⟨r, rfl, hr, -, rfl⟩
  have HR := hid hr
  clear hr
  go_wp2_with fail
  go_ret
  exact ⟨by simp; exact HR.out, rfl⟩

/-- how many bytes of a torn lay are done -/
def cutOf (cut : Int) : Nat := (max 0 (min cut 96)).toNat
/-- what one lay leaves -/
def fallOne (keep : List Int) (torn : Int) (c : Nat) (K : Nat → List Int) (k : Nat) (p : Nat × List Int) : Nat → List Int :=
  if (k : Int) ∈ keep then upd K p.1 p.2 else if (k : Int) = torn then upd K p.1 (p.2.take c ++ (K p.1).drop c) else K
def DS.fallTo (s : DS) (keep : List Int) (torn : Int) (c : Nat) : Nat → (Nat → List Int)
  | 0 => s.kept
  | k + 1 => fallOne keep torn c (s.fallTo keep torn c k) k (s.up[k]?.getD (0, []))
def DS.fall (s : DS) (keep : List Int) (torn cut : Int) : DS :=
  { s with kept := s.fallTo keep torn (cutOf cut) s.up.length, now := s.fallTo keep torn (cutOf cut) s.up.length, up := [], fuse := none, broken := false }

end Go.Proofs.YtleoelhhndeheaaGreat
