/- lariatref3's drum: Settle, Look -/
import Derived.Test.YtfijglkealnopaaRefD1
open Go Go.RowKit
namespace Go.Proofs.Ytfijglkealnopaa

theorem rturn_parts (s : RS) : s.turn.n = s.n ∧ s.turn.K = s.K ∧ s.turn.up = s.up := by
  unfold RS.turn
  split <;> exact ⟨rfl, rfl, rfl⟩
/-- the lays that are settled, the first so many -/
def RS.setTo (s : RS) : Nat → (Nat → List Int)
  | 0 => s.K
  | j + 1 => upd (s.setTo j) (s.up[j]?.getD (0, [])).1 (s.up[j]?.getD (0, [])).2
def RS.settle (s : RS) : RS := if s.code = 0 then { s.turn with K := s.turn.setTo s.turn.up.length, up := [] } else s.turn

/-- nothing is afloat -/
theorem RefP.clear {w : World} {R : Dom} {p : RP} {s : RS} (h : RefP w R p s) : RefP (w.setCell ⟨p.r, 1, none⟩ (.slice none 0 0)) R { p with av := .slice none 0 0 } { s with up := [] } := by
  have k : Ext (· = p.r) w (w.setCell ⟨p.r, 1, none⟩ (.slice none 0 0)) := Ext.set
  exact ⟨blk_setCell h.obj _, h.rr, h.rt, fun q hq => (by cases hq), k.owns2 (fun g hg e => owns_ne h.trow h.obj (by decide) (e ▸ hg)) h.trow, World.ownsRow_nil _ _ _ _, fun q hq => Nat.lt_of_lt_of_le (h.rl q hq) k.size,
    h.n0, h.n1, Nat.zero_le _, h.kl, fun p hp => (by cases hp), h.l0, h.l1, h.t0, h.t1⟩
/-- a lay that is afloat -/
theorem RefP.get {w : World} {R : Dom} {p : RP} {s : RS} (h : RefP w R p s) {i : Nat} (hi : i < s.up.length) :
    ∃ g c, p.av = .slice (some ⟨g, 0, none⟩) s.up.length c ∧ w.cell? ⟨g, i * 2, none⟩ = some (.int .i64 ((s.up[i].1 : Nat) : Int)) ∧ w.cell? ⟨g, i * 2 + 1, none⟩ = some (.string (strOfNums s.up[i].2)) ∧ s.up[i].1 < s.n ∧ s.up[i].2.length = 96 ∧ IsBytes s.up[i].2 := by
  obtain ⟨g, c, e, -⟩ := owns_some h.arow (by omega)
  have h1 := h.arow
  rw [e] at h1
  obtain ⟨k1, k2⟩ := lainCells_get s.up i s.up[i] (List.getElem?_eq_getElem hi)
  obtain ⟨u1, u2, u3⟩ := h.upl _ (List.getElem_mem hi)
  exact ⟨g, c, e, (h1.cellAt (i * 2) (by omega)).trans k1, (h1.cellAt (i * 2 + 1) (by omega)).trans k2, u1, u2, u3⟩

set_option maxRecDepth 100000 in
theorem rsettle_any {w : World} {R : Dom} {r : Nat} {s : RS} (h : RefAt w R r s) (ht : s.turns < 1000000) :
    Calls Try.prog 19 #[.pointer (some ⟨r, 0, none⟩)] w fun e w' => e = .returned (.int .i64 s.code) ∧ ∃ R', RefAt w' R' r s.settle ∧ Step R w R' w' := by
  have TA := rturn_any h ht
  have HS : s.settle = if s.code = 0 then { s.turn with K := s.turn.setTo s.turn.up.length, up := [] } else s.turn := rfl
  have HC : s.code = 0 ∨ s.code = 4 := by unfold RS.code; split <;> simp
  obtain ⟨t, ht2⟩ : ∃ t, s.settle = t := ⟨_, rfl⟩
  obtain ⟨cd, hcd⟩ : ∃ cd, s.code = cd := ⟨_, rfl⟩
  obtain ⟨u, hu⟩ : ∃ u, s.turn = u := ⟨_, rfl⟩
  rw [ht2, hcd, hu] at HS
  rw [hcd] at HC
  rw [hcd, hu] at TA
  rw [ht2, hcd]
  clear h ht2 hcd hu ht
  rcases HC with rfl | rfl
  · rw [if_pos rfl] at HS
    subst HS
    go_enter Try.func19, Try.ntmps19
    go_wp2_with fail
    refine TA.mono ?_
    rintro e w1 ⟨rfl, h1, S1⟩
    have h1 := hid h1
    go_wp2_with fail
    go_loopw [4] (fun v wr => ∃ (i : Nat) (R' : Dom), v = .int .i64 i ∧ i ≤ u.up.length ∧ Hid (RefAt wr R' r { u with K := u.setTo i }) ∧ Step R w R' wr) (fun v _ => u.up.length - (intOf v).toNat)
    case atStart => exact ⟨0, R, rfl, Nat.zero_le _, h1, S1⟩
    case round =>
      obtain ⟨i, R', rfl, hi, HR, ST⟩ := hrel
      obtain ⟨p, hp, HP⟩ := HR.out
      subst hp
      obtain ⟨aa, ac, hav⟩ := owns_slice HP.arow
      have c1 := HP.cells.2.1
      have ul := HP.ul
      simp only at hav ul
      rw [hav] at c1
      obtain ⟨L, hL⟩ : ∃ L, u.up.length = L := ⟨_, rfl⟩
      rw [hL] at hi c1 ul
      have HL := hid hL
      have HAV := hid hav
      have HP := hid HP
      clear hL hav
      by_cases hiL : i < L
      · have hil : i < u.up.length := by rw [HL.out]; exact hiL
        obtain ⟨g, cg, e1, k1, k2, k3, k4, k5⟩ := HP.out.get hil
        have e1 := HAV.out.symm.trans e1
        obtain ⟨rfl, rfl⟩ : aa = some ⟨g, 0, none⟩ ∧ ac = cg := by cases e1; exact ⟨rfl, rfl⟩
        simp only at k1 k2 k3 k4 k5
        have hst : u.setTo (i + 1) = upd (u.setTo i) (u.up[i]).1 (u.up[i]).2 := by
          show upd (u.setTo i) (u.up[i]?.getD (0, [])).1 (u.up[i]?.getD (0, [])).2 = _
          rw [List.getElem?_eq_getElem hil]; rfl
        obtain ⟨⟨at', zs⟩, hx⟩ : ∃ x, u.up[i] = x := ⟨_, rfl⟩
        rw [hx] at k1 k2 k3 k4 k5 hst
        simp only at k1 k2 k3 k4 k5 hst
        have HST := hid hst
        have hsz : wr.heap.size = wr.drew.heap.size := rfl
        have SA := rset_any (w := wr.drew) (HR.out.below (Below.refl _ wr).drew) at' k3 zs ⟨k4, k5⟩
        have i1 : (0 : Int) ≤ (i : Int) := by omega
        have i2 : (i : Int) < (L : Int) := by omega
        clear e1 hst hx hsz hil
        go_wp2_with fail
        go_still_tail 17, (by kernel_rfl)
        change wpList _ _ _ _ _ wr.drew
        go_wp2_with fail
        refine SA.mono ?_
        rintro e w2 ⟨rfl, R2, h2, S2⟩
        go_wp2_with fail
        go_roundw
        case measure => simp [intOf]; have := HL.out; omega
        case rel => exact ⟨i + 1, R2, by go_num, by have := HL.out; omega, hid (by rw [HST.out]; exact h2), (ST.trans Step.drew).trans S2⟩
      · obtain rfl : L = i := by omega
        have fr := blk_free (o := 1) HP.out.obj
        go_wp2_with fail
        go_ret
        exact ⟨rfl, R', ⟨{ p with av := .slice none 0 0 }, rfl, by rw [HL.out]; exact HP.out.clear⟩, ST.trans (Step.of_ext Ext.set (fun q hq => by subst hq; exact HP.out.rr))⟩
  · rw [if_neg (by decide)] at HS
    subst HS
    go_enter Try.func19, Try.ntmps19
    go_wp2_with fail
    refine TA.mono ?_
    rintro e w1 ⟨rfl, h1, S1⟩
    go_wp2_with fail
    go_ret
    exact ⟨rfl, R, h1, S1⟩

end Go.Proofs.Ytfijglkealnopaa
