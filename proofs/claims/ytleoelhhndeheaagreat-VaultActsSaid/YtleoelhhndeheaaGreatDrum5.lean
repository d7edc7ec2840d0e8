/- package drum: Lay -/
import Derived.Test.YtleoelhhndeheaaGreatDrum4
open Go Go.RowKit
namespace Go.Proofs.YtleoelhhndeheaaGreat

/-- may it be laid? -/
def DS.fits (s : DS) (k : Int) (zs : List Int) : Bool := decide (0 ≤ k ∧ k < s.n ∧ zs.length = 96)
def DS.laid (s : DS) (k : Nat) (zs : List Int) : DS := { s with now := upd s.now k zs, up := s.up ++ [(k, zs)] }
def DS.lay (s : DS) (k : Int) (zs : List Int) : DS := if s.fits k zs then (if s.goes then s.turn.laid k.toNat zs else s.turn) else s
def DS.layCode (s : DS) (k : Int) (zs : List Int) : Int := if s.fits k zs then s.code else 1

theorem iL : (Tryz.prog.info? 92).map (fun i => (i.zero, i.size, i.bytes)) = some (some (.agg #[.int .i64 0, .slice none 0 0]), 2, 32) := by kernel_rfl

theorem owns_blk' {w : World} {M : Dom} {av : Value} {n : Nat} {up : List (Nat × List Int)} (h : UpAt w M av n up) {b : Nat} (hb : av.ownBlock = some b) : True ∧ w.heap[b]? = some (.cells (((w.heap[b]?).bind fun o => match o with | .cells c _ _ => some c | _ => none).getD #[]) 92 (0, 0)) := by
  obtain ⟨vs, h0, h1, h2⟩ := h.row
  refine ⟨trivial, ?_⟩
  rcases h1.2 with ⟨hv, _⟩ | ⟨g, cap, cur, hv, _, hh, _⟩
  · subst hv; cases hb
  · subst hv
    cases hb
    rw [hh]
    rfl
/-- a store into the tracks that are looked at -/
theorem DrumP.setNow {w : World} {M : Dom} {p : DP} {s : DS} (h : DrumP w M p s) {i : Nat} {v : Value} {zs : List Int} (hv : Trk w M v zs) : DrumP (w.setCell ⟨p.nb, i, none⟩ v) M p { s with now := upd s.now i zs } := by
  obtain ⟨ck, hk⟩ := h.kept.blk
  obtain ⟨cn, hn⟩ := h.now.blk
  have k : Ext (· = p.nb) w (w.setCell ⟨p.nb, i, none⟩ v) := Ext.set
  have hM : ∀ q, q = p.nb → M q := fun q hq => by subst hq; exact h.now.may
  exact ⟨k.blk (blk_ne h.obj hn (by decide)) h.obj, h.md, h.mb, h.mt, h.kept.ext k hM h.apart, h.now.store hv, h.apart, h.up.ext k hM (fun q hq => h.up.ne hq hn (by decide)), h.fuse.ext k (fun b hb => h.fuse.ne hb hn (by decide)),
    k.blk (blk_ne h.flag hn (by decide)) h.flag, k.blk (blk_ne h.turns hn (by decide)) h.turns, h.t0, h.t1, h.n0, h.n1, h.u1, fun q hq => Nat.lt_of_lt_of_le (h.ml q hq) k.size, fun q hq => Nat.lt_of_lt_of_le (h.xl q hq) k.size⟩
theorem DrumP.setKept {w : World} {M : Dom} {p : DP} {s : DS} (h : DrumP w M p s) {i : Nat} {v : Value} {zs : List Int} (hv : Trk w M v zs) : DrumP (w.setCell ⟨p.kb, i, none⟩ v) M p { s with kept := upd s.kept i zs } := by
  obtain ⟨ck, hk⟩ := h.kept.blk
  obtain ⟨cn, hn⟩ := h.now.blk
  have k : Ext (· = p.kb) w (w.setCell ⟨p.kb, i, none⟩ v) := Ext.set
  have hM : ∀ q, q = p.kb → M q := fun q hq => by subst hq; exact h.kept.may
  exact ⟨k.blk (blk_ne h.obj hk (by decide)) h.obj, h.md, h.mb, h.mt, h.kept.store hv, h.now.ext k hM (Ne.symm h.apart), h.apart, h.up.ext k hM (fun q hq => h.up.ne hq hk (by decide)), h.fuse.ext k (fun b hb => h.fuse.ne hb hk (by decide)),
    k.blk (blk_ne h.flag hk (by decide)) h.flag, k.blk (blk_ne h.turns hk (by decide)) h.turns, h.t0, h.t1, h.n0, h.n1, h.u1, fun q hq => Nat.lt_of_lt_of_le (h.ml q hq) k.size, fun q hq => Nat.lt_of_lt_of_le (h.xl q hq) k.size⟩

/-- one lay more is afloat -/
theorem DrumP.push {w w6 : World} {M : Dom} {p : DP} {s : DS} (h : DrumP w M p s) {i : Nat} {v : Value} {zs : List Int} (hv : Trk w M v zs) (hi : i < s.n) {gg cap : Nat} {vs : List Value} (v0 : vs.length = s.up.length)
    (v2 : ∀ (i : Nat) (q : Nat × List Int), s.up[i]? = some q → q.1 < s.n ∧ ∃ v, vs[i]? = some v ∧ Trk w M v q.2) (hx : Ext (fun q => p.av.ownBlock = some q) w w6) (hg : p.av.ownBlock = some gg ∨ w.heap.size ≤ gg) (hlt : gg < w6.heap.size)
    (O6 : w6.ownsRow 0 92 2 (.slice (some ⟨gg, 0, none⟩) (s.up.length + 1) cap) (s.up.length + 1) (layCells s.up vs ++ [.int .i64 (i : Int), v])) (hu : s.up.length + 1 ≤ 1000000000) :
    DrumP (w6.setCell ⟨p.d, 2, none⟩ (.slice (some ⟨gg, 0, none⟩) (s.up.length + 1) cap)) (M.add gg) { p with av := .slice (some ⟨gg, 0, none⟩) (s.up.length + 1) cap } { s with up := s.up ++ [(i, zs)] } := by
  have hto : ∀ q, (M.add gg) q → M q ∨ w.heap.size ≤ q := fun q hq => hq.elim .inl (fun e => hg.elim (fun h1 => .inl (h.up.may q (e ▸ h1))) (fun h1 => .inr (e ▸ h1)))
  have hF : ∀ q, (fun q => p.av.ownBlock = some q) q → (M.add gg) q := fun q hq => .inl (h.up.may q hq)
  have Q := h.q.to hto (fun q hq _ => .inl hq)
  obtain ⟨ck, hk⟩ := h.kept.blk
  obtain ⟨cn, hn⟩ := h.now.blk
  have hne : ∀ {b : Nat} {c : Array Value} {t : TypeId}, w.heap[b]? = some (.cells c t (0, 0)) → t ≠ 92 → ¬ (fun q => p.av.ownBlock = some q) b := fun hb ht hq => h.up.ne hq hb ht rfl
  have obj6 := hx.blk (hne h.obj (by decide)) h.obj
  have up6 : UpAt w6 (M.add gg) (.slice (some ⟨gg, 0, none⟩) (s.up.length + 1) cap) s.n (s.up ++ [(i, zs)]) := by
    refine ⟨fun q hq => ?_, vs ++ [v], by simp [v0], ?_, fun j q hq => ?_⟩
    · have e : some gg = some q := hq
      cases e
      exact .inr rfl
    · rw [layCells_push _ _ v0, List.length_append]
      exact O6
    · by_cases hj : j < s.up.length
      · rw [List.getElem?_append_left hj] at hq
        obtain ⟨h1, u, h2, h3⟩ := v2 j q hq
        exact ⟨h1, u, by rw [List.getElem?_append_left (by omega)]; exact h2, (h3.to hto).ext hx hF⟩
      · rw [List.getElem?_append_right (by omega)] at hq
        have hj0 : j - s.up.length = 0 := by
          have := (List.getElem?_eq_some_iff.1 hq).1
          simp at this
          omega
        rw [hj0] at hq
        cases hq
        refine ⟨hi, v, ?_, (hv.to hto).ext hx hF⟩
        rw [List.getElem?_append_right (by omega), v0, hj0]
        rfl
  have Q6 : DrumQ w6 (M.add gg) { p with av := .slice (some ⟨gg, 0, none⟩) (s.up.length + 1) cap } { s with up := s.up ++ [(i, zs)] } :=
    ⟨Q.mb, Q.mt, Q.kept.ext hx hF (hne hk (by decide)), Q.now.ext hx hF (hne hn (by decide)), Q.apart, up6, Q.fuse.ext hx (fun b hb hf => by
        exact h.fuse.ne hb (owns_blk' h.up hf).2 (by decide) rfl), hx.blk (hne h.flag (by decide)) h.flag, hx.blk (hne h.turns (by decide)) h.turns, Q.t0, Q.t1, Q.n0, Q.n1, by simpa using hu⟩
  have X : Ext (· = p.d) w6 (w6.setCell ⟨p.d, 2, none⟩ (.slice (some ⟨gg, 0, none⟩) (s.up.length + 1) cap)) := Ext.set
  exact DrumQ.p (Q6.ext obj6 (.inl h.md) X) (.inl h.md) (ml_or h.ml (Nat.le_trans hx.size X.size) (Nat.lt_of_lt_of_le hlt X.size)) (fun q hq => Nat.lt_of_lt_of_le (h.xl q hq) (Nat.le_trans hx.size X.size)) (blk_setCell obj6 _)

set_option maxRecDepth 100000 in
theorem lay_any {w : World} {M : Dom} {d : Nat} {s : DS} (h : DrumAt w M d s) (k : Int) (a : Option Addr) (lb cb : Nat) (zs : List Int) (hrow : Row w a (B8 zs)) (hl : zs.length = lb) (hby : IsBytes zs) (hnil : a = none → lb = 0) (hM : 0 < lb → ¬ M (sB a)) (hu : s.up.length < 1000000000) :
    Calls Tryz.prog 21 #[.pointer (some ⟨d, 0, none⟩), .int .i64 k, .slice a lb cb] w fun e w' => e = .returned (.int .i64 (s.layCode k zs)) ∧ ∃ M', DrumAt w' M' d (s.lay k zs) ∧ Step M w M' w' := by
  have TA := dturn_any h
  have HA := has_any h k
  have HS : s.lay k zs = if s.fits k zs then (if s.goes then s.turn.laid k.toNat zs else s.turn) else s := rfl
  have HC : s.layCode k zs = if s.fits k zs then s.code else 1 := rfl
  have HD : s.code = if s.goes then 0 else 4 := rfl
  have HF : s.fits k zs = decide (0 ≤ k ∧ k < s.n ∧ zs.length = 96) := rfl
  obtain ⟨t, ht⟩ : ∃ t, s.lay k zs = t := ⟨_, rfl⟩
  obtain ⟨cd, hcd⟩ : ∃ cd, s.layCode k zs = cd := ⟨_, rfl⟩
  rw [ht] at HS ⊢
  rw [hcd] at HC ⊢
  obtain ⟨p1, p2, p3, p4⟩ := turn_parts s
  obtain ⟨u, hu⟩ : ∃ u, s.turn = u := ⟨_, rfl⟩
  rw [hu] at HS TA p1 p2 p3 p4
  have H0 := hid h
  clear h ht hcd hu
  by_cases hk : 0 ≤ k ∧ k < (s.n : Int)
  · rw [show decide (0 ≤ k ∧ k < (s.n : Int)) = true by simpa using hk] at HA
    by_cases hlb : lb = 96
    · subst hlb
      rw [show s.fits k zs = true by rw [HF]; simp; exact ⟨hk.1, hk.2, hl⟩, if_pos rfl] at HS HC
      by_cases hg : s.goes = true
      · rw [if_pos hg] at HS HD
        rw [HD] at HC TA
        subst HS
        subst HC
        clear hg HD HF
        obtain ⟨i, rfl⟩ : ∃ i : Nat, k = i := ⟨k.toNat, by omega⟩
        have hiu : i < u.n := by omega
        have hun : u.up.length < 1000000000 := by rw [p4]; exact hu
        have HR := hid hrow
        have HL := hid hl
        have hnM := hid (hM (by omega))
        clear p1 p2 p3 p4 hl hrow hk
        go_enter Tryz.func21, Tryz.ntmps21
        go_wp2_with fail
        refine HA.mono ?_
        rintro e w0 ⟨rfl, rfl⟩
        go_wp2_with fail
        refine TA.mono ?_
        rintro e w1 ⟨rfl, ⟨p, rfl, h⟩, S1⟩
        have CL := cloneB_any a 96 cb zs w1 (HR.out.ext S1.ext (fun _ => hnM.out)) HL.out hnil (by omega)
        have H := hid h
        clear h
        go_wp2_with fail
        refine CL.mono ?_
        rintro e w2 ⟨v, rfl, ho, B2⟩
        obtain ⟨tg, tc, rfl, -⟩ := owns_some ho (by omega)
        have htg := ho.lt tg rfl
        obtain ⟨aa, ac, hav⟩ := H.out.up.slice
        obtain ⟨W3, hW3⟩ : ∃ W, w2.alloc (.cells #[.int .i64 (i : Int), .slice (some ⟨tg, 0, none⟩) 96 tc] 92) = W := ⟨_, rfl⟩
        obtain ⟨i0, hi, hz0, hz1, hz2⟩ := info_parts iL
        have hs2 : w1.heap.size ≤ w2.heap.size := B2.size
        have B3 : Below w1.heap.size w1 W3 := hW3 ▸ B2.alloc hs2 _
        have hs3 : W3.heap.size = w2.heap.size + 1 := by rw [← hW3]; simp
        have P3 := H.out.below B3
        have l3 : W3.heap[w2.heap.size]? = some (.cells #[.int .i64 (i : Int), .slice (some ⟨tg, 0, none⟩) 96 tc] 92 (0, 0)) := by rw [← hW3]; exact blk_new _ _
        have o3 : W3.ownsRow w1.heap.size 5 1 (.slice (some ⟨tg, 0, none⟩) 96 tc) 96 (B8 zs) := by rw [← hW3]; exact ho.alloc _
        obtain ⟨l8, hl8⟩ : ∃ l8, w2.heap.size = l8 := ⟨_, rfl⟩
        rw [hl8] at l3 hs3
        obtain ⟨vs, v0, v1, v2⟩ := P3.up.row
        rw [hav] at v1
        have hlu := P3.u1
        obtain ⟨L, hL⟩ : ∃ L, u.up.length = L := ⟨_, rfl⟩
        rw [hL] at hav v1 hlu hun
        have c2 : W3.drew.cell? ⟨p.d, 2, none⟩ = some (.slice aa L ac) := by rw [← hav]; exact P3.cells.2.2.1
        have c1 : W3.drew.cell? ⟨p.d, 1, none⟩ = some (.slice (some ⟨p.nb, 0, none⟩) u.n p.nc) := P3.cells.2.1
        have f2 : W3.drew.frozen? ⟨p.d, 2, none⟩ = false := blk_free (w := W3) P3.obj
        have m0 : W3.drew.cell? ⟨l8, 0, none⟩ = some (.int .i64 (i : Int)) := blk_cell (w := W3) l3 rfl
        have m1 : W3.drew.cell? ⟨l8, 1, none⟩ = some (.slice (some ⟨tg, 0, none⟩) 96 tc) := blk_cell (w := W3) l3 rfl
        have hv0 := hid v0
        have hV2 := hid v2
        have hne : (Value.slice aa L ac).ownBlock ≠ some p.d := fun e => P3.up.ne (by rw [hav]; exact e) P3.obj (by decide) rfl
        have S5a : ∀ o, (W3.drew.alloc o).cell? ⟨p.d, 2, none⟩ = some (.slice aa L ac) := fun o => cell_alloc o c2
        have f5a : ∀ o, (W3.drew.alloc o).frozen? ⟨p.d, 2, none⟩ = false := fun o => free_alloc o (lt_of_cell c2) f2
        have c2w : W3.cell? ⟨p.d, 2, none⟩ = some (.slice aa L ac) := c2
        have f2w : W3.frozen? ⟨p.d, 2, none⟩ = false := f2
        have m0w : W3.cell? ⟨l8, 0, none⟩ = some (.int .i64 (i : Int)) := m0
        have m1w : W3.cell? ⟨l8, 1, none⟩ = some (.slice (some ⟨tg, 0, none⟩) 96 tc) := m1
        have hdw : p.d < W3.heap.size := lt_of_blk P3.obj
        have h8w : l8 < W3.heap.size := lt_of_blk l3
        have P3 := hid P3
        have HS3 := hid hs3
        clear hs3
        have HL2 := hid hL
        have HAV := hid hav
        have hm1 : L + 1 ≤ maxLen := by simp only [maxLen]; omega
        have hm2 : (L + 1) * 32 ≤ 140737488355328 := by omega
        have TR := hid (show Trk W3 M (.slice (some ⟨tg, 0, none⟩) 96 tc) zs from by
          obtain ⟨a1, c1, e1, -, hc1, -, hrw, -, -⟩ := row_of_owns o3
          cases e1
          exact ⟨⟨tg, 0, none⟩, tc, rfl, hrw, HL.out, fun hm => by have := hm.elim (H.out.ml tg) (H.out.xl tg); omega, hby, hc1⟩)
        have hl8n := hid (show ∀ q, (Value.slice aa L ac).ownBlock = some q → q < w1.heap.size from fun q hq => H.out.ml q (H.out.up.may q (by rw [hav]; exact hq)))
        have hdl8 : p.d ≠ l8 := by have := lt_of_blk H.out.obj; omega
        clear v0 v2 hL hav ho
        go_wp2_with fail
        go_region_law (refine step_append_lies _ (by rfl) _ _ _ (by rfl) 0 92 i0 (.agg #[.int .i64 0, .slice none 0 0]) 2 32 Tryz.underlying85 hi hz0 hz1 hz2 (by rfl) (by decide) (.slice aa L ac) L (layCells u.up vs) (by rfl) (v1.drew.alloc _) ⟨W3.heap.size, 0, none⟩ 1 1 [.int .i64 (i : Int), .slice (some ⟨tg, 0, none⟩) 96 tc] (by rfl) (by rfl) (row_at W3.drew #[.int .i64 (i : Int), .slice (some ⟨tg, 0, none⟩) 96 tc] 92 rfl).news (fun u hu => by simp at hu; rcases hu with rfl | rfl <;> rfl) (by decide) hm1 hm2 (Nat.zero_le _) (W3.heap.size + 1) (by simp) ?_; intro gg cap w6 O6 G6 hat hlt; have S6 : w6.cell? ⟨p.d, 2, none⟩ = some (.slice aa L ac) := (G6.cell_far ⟨p.d, 2, none⟩ (lt_of_cell (S5a _)) (Ne.symm hne)).trans (S5a _); have f6 : w6.frozen? ⟨p.d, 2, none⟩ = false := (G6.frozen_far ⟨p.d, 2, none⟩ (lt_of_cell (S5a _)) (Ne.symm hne)).trans (f5a _))
        all_goals
          have hx : Ext (fun q => (Value.slice aa L ac).ownBlock = some q) W3 w6 := ((Ext.refl (fun q => (Value.slice aa L ac).ownBlock = some q) W3).drew.alloc _).trans (Ext.of_grown G6) (fun _ _ h => h)
          have hat' : (Value.slice aa L ac).ownBlock = some gg ∨ W3.heap.size ≤ gg := hat.imp id (fun h => by omega)
          have PP := P3.out.push TR.out hiu hv0.out hV2.out (by rw [HAV.out]; exact hx) (by rw [HAV.out]; exact hat') hlt (by rw [HL2.out]; exact O6) (by rw [HL2.out]; omega)
          rw [HL2.out] at PP
          have hto : ∀ q, (M.add gg) q → M q ∨ W3.heap.size ≤ q := fun q hq => hq.elim .inl (fun e => hat'.elim (fun h1 => .inl (P3.out.up.may q (e ▸ (by rw [HAV.out]; exact h1)))) (fun h1 => .inr (e ▸ h1)))
          have X7 : Ext (· = p.d) w6 (w6.setCell ⟨p.d, 2, none⟩ (.slice (some ⟨gg, 0, none⟩) (L + 1) cap)) := Ext.set
          have T7 := ((TR.out.to hto).ext hx (fun q hq => .inl (P3.out.up.may q (by rw [HAV.out]; exact hq)))).ext X7 (fun q hq => by subst hq; exact .inl P3.out.md)
          have l7 := X7.blk (Ne.symm hdl8) (hx.blk (fun h => by have := hl8n.out _ h; omega) l3)
          have XS : Step M w1 (M.add gg) (w6.setCell ⟨p.d, 2, none⟩ (.slice (some ⟨gg, 0, none⟩) (L + 1) cap)) :=
            ⟨((Ext.of_below B3 M).trans (hx.mono (fun q _ hq => P3.out.up.may q (by rw [HAV.out]; exact hq))) (fun _ _ h => h)).trans (X7.mono (fun q _ hq => by subst hq; exact P3.out.md)) (fun _ _ h => h), fun q hq => (hto q hq).imp id (fun h => by have := B3.size; omega), rfl⟩
          obtain ⟨W7, hW7⟩ : ∃ W7, w6.setCell ⟨p.d, 2, none⟩ (.slice (some ⟨gg, 0, none⟩) (L + 1) cap) = W7 := ⟨_, rfl⟩
          rw [hW7] at PP T7 l7 XS
          have k1 : W7.cell? ⟨p.d, 1, none⟩ = some (.slice (some ⟨p.nb, 0, none⟩) u.n p.nc) := PP.cells.2.1
          have k2 : W7.cell? ⟨l8, 1, none⟩ = some (.slice (some ⟨tg, 0, none⟩) 96 tc) := blk_cell l7 rfl
          obtain ⟨a9, c9, k3, -⟩ := PP.now.cell hiu
          have k4 := PP.now.free i
          have PP := hid PP
          have hx' := hid hx
          have TD := T7.ext (Ext.refl (fun _ => False) W7).drew (fun _ h => h.elim)
          have PN : Hid (DrumP (W7.drew.setCell ⟨p.nb, i, none⟩ (.slice (some ⟨tg, 0, none⟩) 96 tc)) (M.add gg) _ _) := hid ((PP.out.below (Below.refl _ W7).drew).setNow (i := i) TD)
          have PF : Hid (Step M w (M.add gg) (W7.drew.setCell ⟨p.nb, i, none⟩ (.slice (some ⟨tg, 0, none⟩) 96 tc))) := hid (((S1.trans XS).trans Step.drew).trans (Step.of_ext Ext.set (fun q hq => by subst hq; exact PP.out.now.may)))
          clear hx hx' hat' hto X7 T7 TD l7 XS G6 O6 hat S6 f6 c1 c2 c2w f2 f2w m0 m0w m1 m1w S5a f5a
          go_wp2_with fail
          go_still_tail 8, (by kernel_rfl)
          change wpList _ _ _ _ _ W7.drew
          go_wp2_with fail
          go_ret
          exact ⟨rfl, _, ⟨{ p with av := .slice (some ⟨gg, 0, none⟩) (L + 1) cap }, rfl, PN.out⟩, PF.out⟩
      · rw [if_neg hg] at HS HD
        rw [HD] at HC TA
        subst HS
        subst HC
        clear hg HD HF hk p1 p2 p3 p4
        go_enter Tryz.func21, Tryz.ntmps21
        go_wp2_with fail
        refine HA.mono ?_
        rintro e w0 ⟨rfl, rfl⟩
        go_wp2_with fail
        refine TA.mono ?_
        rintro e w1 ⟨rfl, h, S1⟩
        go_wp2_with fail
        go_ret
        exact ⟨rfl, M, h, S1⟩
    · rw [show s.fits k zs = false by rw [HF]; simp; omega] at HS HC
      simp only [Bool.false_eq_true, if_false] at HS HC
      subst HS
      subst HC
      have n1 : ((lb : Int) == 96) = false := by simp; omega
      have n2 : ¬ ((lb : Int) = 96) := by omega
      clear HD HF hk hlb
      go_enter Tryz.func21, Tryz.ntmps21
      go_wp2_with fail
      refine HA.mono ?_
      rintro e w0 ⟨rfl, rfl⟩
      go_wp2_with fail
      go_ret
      exact ⟨rfl, M, H0.out, Step.refl _ _⟩
  · rw [show decide (0 ≤ k ∧ k < (s.n : Int)) = false by simpa using hk] at HA
    rw [show s.fits k zs = false by rw [HF]; simp; omega] at HS HC
    simp only [Bool.false_eq_true, if_false] at HS HC
    subst HS
    subst HC
    clear HD HF hk
    go_enter Tryz.func21, Tryz.ntmps21
    go_wp2_with fail
    refine HA.mono ?_
    rintro e w0 ⟨rfl, rfl⟩
    go_wp2_with fail
    go_ret
    exact ⟨rfl, M, H0.out, Step.refl _ _⟩

end Go.Proofs.YtleoelhhndeheaaGreat
