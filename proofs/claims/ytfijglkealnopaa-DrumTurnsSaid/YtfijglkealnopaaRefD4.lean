/- lariatref3's drum: Lay -/
import Derived.Test.YtfijglkealnopaaRefD3
open Go Go.RowKit
namespace Go.Proofs.Ytfijglkealnopaa

theorem iLn : (Try.prog.info? 51).map (fun i => (i.zero, i.size, i.bytes)) = some (some (.agg #[.int .i64 0, .string ⟨#[]⟩]), 2, 24) := by kernel_rfl

def RS.fits (s : RS) (k : Int) (zs : List Int) : Bool := decide (0 ≤ k ∧ k < s.n ∧ zs.length = 96)
def RS.lay (s : RS) (k : Int) (zs : List Int) : RS := if s.fits k zs then (if s.code = 0 then { s.turn with up := s.turn.up ++ [(k.toNat, zs)] } else s.turn) else s
def RS.layCode (s : RS) (k : Int) (zs : List Int) : Int := if s.fits k zs then s.code else 1

theorem RefP.push {w w6 : World} {R : Dom} {p : RP} {s : RS} (h : RefP w R p s) {i : Nat} {zs : List Int} (hz : zs.length = 96 ∧ IsBytes zs) (hi : i < s.n) {gg cap : Nat} (hx : Ext (fun q => p.av.ownBlock = some q) w w6) (hg : p.av.ownBlock = some gg ∨ w.heap.size ≤ gg) (hlt : gg < w6.heap.size)
    (O6 : w6.ownsRow 0 51 2 (.slice (some ⟨gg, 0, none⟩) (s.up.length + 1) cap) (s.up.length + 1) (lainCells s.up ++ [.int .i64 (i : Int), .string (strOfNums zs)])) (hu : s.up.length + 1 ≤ 1000000) :
    RefP (w6.setCell ⟨p.r, 1, none⟩ (.slice (some ⟨gg, 0, none⟩) (s.up.length + 1) cap)) (R.add gg) { p with av := .slice (some ⟨gg, 0, none⟩) (s.up.length + 1) cap } { s with up := s.up ++ [(i, zs)] } := by
  have X : Ext (· = p.r) w6 (w6.setCell ⟨p.r, 1, none⟩ (.slice (some ⟨gg, 0, none⟩) (s.up.length + 1) cap)) := Ext.set
  have obj6 := hx.blk (fun e => owns_ne h.arow h.obj (by decide) e) h.obj
  have t6 := hx.owns2 (fun q hq e => owns_ne2 h.arow h.trow (by decide) q hq e) h.trow
  refine ⟨blk_setCell obj6 _, .inl h.rr, .inl h.rt, fun q hq => ?_, X.owns2 (fun g hg e => owns_ne t6 obj6 (by decide) (e ▸ hg)) t6, ?_, fun q hq => ?_, h.n0, h.n1, ?_, h.kl, fun p hp => ?_, h.l0, h.l1, h.t0, h.t1⟩
  · have e : some gg = some q := hq
    cases e
    exact .inr rfl
  · rw [lainCells_push]
    show (w6.setCell _ _).ownsRow 0 _ 2 _ (s.up ++ [(i, zs)]).length _
    rw [List.length_append]
    exact X.owns2 (fun g hg e => owns_ne O6 obj6 (by decide) (e ▸ hg)) O6
  · have h1 := hx.size
    have h2 := X.size
    rcases hq with hq | hq
    · have := h.rl q hq; omega
    · omega
  · show (s.up ++ [(i, zs)]).length ≤ _
    rw [List.length_append]
    exact hu
  · rcases List.mem_append.1 hp with hp | hp
    · exact h.upl p hp
    · simp at hp
      subst hp
      exact ⟨hi, hz⟩

set_option maxRecDepth 100000 in
theorem rlay_any {w : World} {R : Dom} {r : Nat} {s : RS} (h : RefAt w R r s) (ht : s.turns < 1000000) (k : Int) (a : Option Addr) (lb cb : Nat) (zs : List Int) (hrow : Row w a (B8 zs)) (hl : zs.length = lb) (hby : IsBytes zs) (hM : 0 < lb → ¬ R (sB a)) (hu : s.up.length < 1000000) :
    Calls Try.prog 23 #[.pointer (some ⟨r, 0, none⟩), .int .i64 k, .slice a lb cb] w fun e w' => e = .returned (.int .i64 (s.layCode k zs)) ∧ ∃ R', RefAt w' R' r (s.lay k zs) ∧ Step R w R' w' := by
  have TA := rturn_any h ht
  have HS : s.lay k zs = if s.fits k zs then (if s.code = 0 then { s.turn with up := s.turn.up ++ [(k.toNat, zs)] } else s.turn) else s := rfl
  have HC : s.layCode k zs = if s.fits k zs then s.code else 1 := rfl
  have HD : s.code = 0 ∨ s.code = 4 := by unfold RS.code; split <;> simp
  have HF : s.fits k zs = decide (0 ≤ k ∧ k < s.n ∧ zs.length = 96) := rfl
  obtain ⟨t, ht2⟩ : ∃ t, s.lay k zs = t := ⟨_, rfl⟩
  obtain ⟨cd, hcd⟩ : ∃ cd, s.layCode k zs = cd := ⟨_, rfl⟩
  rw [ht2] at HS ⊢
  rw [hcd] at HC ⊢
  obtain ⟨p1, p2, p3⟩ := rturn_parts s
  obtain ⟨u, hu2⟩ : ∃ u, s.turn = u := ⟨_, rfl⟩
  rw [hu2] at HS TA p1 p2 p3
  obtain ⟨c9, hc9⟩ : ∃ c, s.code = c := ⟨_, rfl⟩
  rw [hc9] at HS HC HD TA
  have H0 := hid h
  obtain ⟨p, rfl, hp⟩ := h
  have c0 := hp.cells.1
  clear hp ht2 hcd hu2 hc9
  by_cases hk : 0 ≤ k ∧ k < (s.n : Int)
  · obtain ⟨i, rfl⟩ : ∃ i : Nat, k = i := ⟨k.toNat, by omega⟩
    have n1 : ¬ ((i : Int) < 0) := by omega
    have n2 : ¬ ((s.n : Int) ≤ (i : Int)) := by omega
    by_cases hlb : lb = 96
    · subst hlb
      rw [show s.fits i zs = true by rw [HF]; simp; exact ⟨by omega, hl⟩, if_pos rfl] at HS HC
      rcases HD with rfl | rfl
      · rw [if_pos rfl] at HS
        subst HS
        subst HC
        have hiu : i < u.n := by omega
        have hun : u.up.length < 1000000 := by rw [p3]; exact hu
        have HR := hid hrow
        have HL := hid hl
        have hnM := hid (hM (by omega))
        clear p1 p2 p3 hl hrow hk HF hM
        go_enter Try.func23, Try.ntmps23
        go_wp2_with fail
        refine TA.mono ?_
        rintro e w1 ⟨rfl, ⟨p', hpp, P1⟩, S1⟩
        have c0' : True := trivial
        obtain ⟨aa, ac, hav⟩ := owns_slice P1.arow
        have v1 := P1.arow
        rw [hav] at v1
        obtain ⟨i0, hi0, hz0, hz1, hz2⟩ := info_parts iLn
        obtain ⟨L, hL⟩ : ∃ L, u.up.length = L := ⟨_, rfl⟩
        rw [hL] at hav v1 hun
        have c2 : w1.cell? ⟨p.r, 1, none⟩ = some (.slice aa L ac) := by rw [← hav, ← hpp]; exact P1.cells.2.1
        have f2 : w1.frozen? ⟨p.r, 1, none⟩ = false := by rw [← hpp]; exact blk_free P1.obj
        have hdw : p.r < w1.heap.size := by rw [← hpp]; exact lt_of_blk P1.obj
        have hne : (Value.slice aa L ac).ownBlock ≠ some p.r := fun e => by
          rw [← hav, ← hpp] at e
          exact owns_ne P1.arow P1.obj (by decide) e
        have kc := conv_row (P := Try.prog) (w := w1.drew) Try.underlying29 Try.underlying5 Try.underlying9 cb ((HR.out.ext S1.ext (fun _ => hnM.out)).below (Below.refl _ _).drew (Nat.le_refl _)) HL.out
        have S5a : ∀ o, (w1.drew.alloc o).cell? ⟨p.r, 1, none⟩ = some (.slice aa L ac) := fun o => cell_alloc (w := w1.drew) o c2
        have f5a : ∀ o, (w1.drew.alloc o).frozen? ⟨p.r, 1, none⟩ = false := fun o => free_alloc (w := w1.drew) o hdw f2
        have P1 := hid P1
        have HAV := hid hav
        have HL2 := hid hL
        have HPP := hid hpp
        have hm1 : L + 1 ≤ maxLen := by simp only [maxLen]; omega
        have hm2 : (L + 1) * 24 ≤ 140737488355328 := by omega
        clear hav hL hpp
        go_wp2_with fail
        go_region_law (refine step_append_lies _ (by rfl) _ _ _ (by rfl) 0 51 i0 (.agg #[.int .i64 0, .string ⟨#[]⟩]) 2 24 Try.underlying47 hi0 hz0 hz1 hz2 (by rfl) (by decide) (.slice aa L ac) L (lainCells u.up) (by rfl) (v1.drew.alloc _) ⟨w1.heap.size, 0, none⟩ 1 1 [.int .i64 (i : Int), .string (strOfNums zs)] (by rfl) (by rfl) (row_at w1.drew #[.int .i64 (i : Int), .string (strOfNums zs)] 51 rfl).news (fun u hu => by simp at hu; rcases hu with rfl | rfl <;> rfl) (by decide) hm1 hm2 (Nat.zero_le _) (w1.heap.size + 1) (by simp) ?_; intro gg cap w6 O6 G6 hat hlt; have S6 : w6.cell? ⟨p.r, 1, none⟩ = some (.slice aa L ac) := (G6.cell_far ⟨p.r, 1, none⟩ (lt_of_cell (S5a _)) (Ne.symm hne)).trans (S5a _); have f6 : w6.frozen? ⟨p.r, 1, none⟩ = false := (G6.frozen_far ⟨p.r, 1, none⟩ (lt_of_cell (S5a _)) (Ne.symm hne)).trans (f5a _))
        all_goals
          go_wp2_with fail
          go_ret
          have hx : Ext (fun q => (Value.slice aa L ac).ownBlock = some q) w1 w6 := ((Ext.refl (fun q => (Value.slice aa L ac).ownBlock = some q) w1).drew.alloc _).trans (Ext.of_grown G6) (fun _ _ h => h)
          have hat' : (Value.slice aa L ac).ownBlock = some gg ∨ w1.heap.size ≤ gg := hat.imp id (fun h => by omega)
          have PP := P1.out.push (i := i) (zs := zs) (gg := gg) (cap := cap) ⟨HL.out, hby⟩ hiu (by rw [HAV.out]; exact hx) (by rw [HAV.out]; exact hat') hlt (by rw [HL2.out]; exact O6) (by rw [HL2.out]; omega)
          rw [HL2.out, HPP.out] at PP
          refine ⟨rfl, R.add gg, ⟨⟨p.r, p'.tb, p'.tc, .slice (some ⟨gg, 0, none⟩) (L + 1) cap⟩, rfl, PP⟩, S1.trans ⟨(hx.mono (fun q _ hq => P1.out.ra q (by rw [HAV.out]; exact hq))).trans Ext.set (fun q _ hq => by subst hq; rw [← HPP.out]; exact P1.out.rr), fun q hq => hq.elim .inl (fun e => hat'.elim (fun h1 => .inl (e ▸ P1.out.ra gg (by rw [HAV.out]; exact h1))) (fun h1 => .inr (e ▸ h1))), rfl⟩⟩
      · rw [if_neg (by decide)] at HS
        subst HS
        subst HC
        clear HF hk p1 p2 p3
        go_enter Try.func23, Try.ntmps23
        go_wp2_with fail
        refine TA.mono ?_
        rintro e w1 ⟨rfl, h1, S1⟩
        go_wp2_with fail
        go_ret
        exact ⟨rfl, R, h1, S1⟩
    · rw [show s.fits i zs = false by rw [HF]; simp; omega] at HS HC
      simp only [Bool.false_eq_true, if_false] at HS HC
      subst HS
      subst HC
      have m1 : ((lb : Int) == 96) = false := by simp; omega
      have m2 : ¬ ((lb : Int) = 96) := by omega
      clear HF hk hlb
      go_enter Try.func23, Try.ntmps23
      go_wp2_with fail
      go_ret
      exact ⟨rfl, R, H0.out, Step.refl _ _⟩
  · rw [show s.fits k zs = false by rw [HF]; simp; omega] at HS HC
    simp only [Bool.false_eq_true, if_false] at HS HC
    have m3 : ¬ (k < 0) → (s.n : Int) ≤ k := fun h => by omega
    subst HS
    subst HC
    by_cases hk0 : k < 0
    · clear HF hk m3
      go_enter Try.func23, Try.ntmps23
      go_wp2_with fail
      go_ret
      exact ⟨rfl, R, H0.out, Step.refl _ _⟩
    · have m2 := m3 hk0
      clear HF hk m3
      go_enter Try.func23, Try.ntmps23
      go_wp2_with fail
      go_ret
      exact ⟨rfl, R, H0.out, Step.refl _ _⟩

end Go.Proofs.Ytfijglkealnopaa
