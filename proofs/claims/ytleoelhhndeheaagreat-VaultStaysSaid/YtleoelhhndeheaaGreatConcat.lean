/- slices.Concat at []byte -/
import Derived.Test.YtleoelhhndeheaaGreatProg
import Derived.Test.YtleoelhhndeheaaGreatSlB
open Go Go.RowKit
namespace Go.Proofs.YtleoelhhndeheaaGreat

/-- one of the slices that are joined -/
structure Pt where
  a : Option Addr
  cap : Nat
  zs : List Int
def Pt.val (p : Pt) : Value := .slice p.a p.zs.length p.cap
structure Pt.Ok (w : World) (p : Pt) : Prop where
  row : Row w p.a (B8 p.zs)
  nil : p.a = none → p.zs = [] ∧ p.cap = 0
def flat (ps : List Pt) : List Int := ps.flatMap Pt.zs

theorem flat_take (ps : List Pt) (k : Nat) (h : k < ps.length) : flat (ps.take (k + 1)) = flat (ps.take k) ++ ps[k].zs := by
  unfold flat
  rw [List.take_succ_eq_append_getElem h, List.flatMap_append]
  simp
theorem flat_le (ps : List Pt) (k : Nat) : (flat (ps.take k)).length ≤ (flat ps).length := by
  conv => rhs; rw [← List.take_append_drop k ps]
  unfold flat
  rw [List.flatMap_append, List.length_append]
  omega

set_option maxRecDepth 100000 in
set_option maxHeartbeats 2000000 in
theorem concat_any (a : Option Addr) (n cap : Nat) (ps : List Pt) (w : World) (h : Row w a (ps.map Pt.val)) (hl : ps.length = n) (hn : n ≤ 1000000) (hp : ∀ p ∈ ps, p.Ok w) (hb : (flat ps).length ≤ 70368744177664) :
    Calls Tryz.prog 66 #[.slice a n cap] w fun e w' => ∃ v, e = .returned v ∧ w'.ownsRow w.heap.size 5 1 v (flat ps).length (B8 (flat ps)) ∧ Below w.heap.size w w' := by
  obtain ⟨i0, hi, hz0, hz1, hz2⟩ := info_parts iB
  have szP : (Tryz.prog.info? 27).map (·.size) = some 1 := by kernel_rfl
  have hix := fun k (hk : k < n) => idx_at1 (P := Tryz.prog) (T := 46) Tryz.underlying46 szP (cap := cap) (fun _ => h.nn (by simp; omega)) hk
  have HL := hid hl
  clear hl szP
  go_enter Tryz.func66, Tryz.ntmps66
  go_wp2_with fail
  go_loop [3, 11] (fun s i => ∃ k : Nat, k ≤ n ∧ i = .int .i64 k ∧ s = .int .i64 ((flat (ps.take k)).length : Nat)) (fun _ i => n - (intOf i).toNat)
  case atStart => exact ⟨0, by omega, rfl, rfl⟩
  case round =>
    obtain ⟨k, hk, rfl, rfl⟩ := hrel
    have hfl := flat_le ps k
    by_cases hlt : k < n
    · have hix := hix k hlt
      have hkl : k < ps.length := by rw [HL.out]; exact hlt
      have hc : w.cell? ⟨sB a, sO a + k, none⟩ = some (.slice ps[k].a ps[k].zs.length ps[k].cap) := h.cell k _ (by simp [hkl, Pt.val])
      have hft := flat_take ps k hkl
      have hft2 : (flat (ps.take (k + 1))).length = (flat (ps.take k)).length + ps[k].zs.length := by rw [hft, List.length_append]
      have hfl2 := flat_le ps (k + 1)
      have H2 := hid hft2
      have hle : (flat (ps.take k)).length + ps[k].zs.length ≤ 70368744177664 := by omega
      clear hft hft2
      go_wp2_with fail
      go_round
      case rel => exact ⟨k + 1, by omega, by go_num, by rw [H2.out]; go_num⟩
      case measure => simp [intOf]; omega
    · obtain rfl : k = n := by omega
      have hall : flat (ps.take k) = flat ps := by rw [List.take_of_length_le (by rw [HL.out]; exact Nat.le_refl _)]
      rw [hall]
      clear hall
      go_wp2_with fail
      refine (growB_nil (flat ps).length w (by omega)).mono ?_
      rintro e w1 ⟨v0, rfl, o0, B0⟩
      go_wp2_with fail
      go_loopw [6, 27] (fun v i wr => ∃ j : Nat, j ≤ k ∧ i = .int .i64 j ∧ wr.ownsRow w.heap.size 5 1 v (flat (ps.take j)).length (B8 (flat (ps.take j))) ∧ Below w.heap.size w wr) (fun _ i _ => k - (intOf i).toNat)
      case atStart => exact ⟨0, by omega, rfl, o0, B0⟩
      case round =>
        rename_i v i
        obtain ⟨j, hj, rfl, o, B⟩ := hrel
        by_cases hjk : j < k
        · have hix := hix j hjk
          have hkl : j < ps.length := by rw [HL.out]; exact hjk
          have hpo := hp ps[j] (List.getElem_mem _)
          have hc0 : w.cell? ⟨sB a, sO a + j, none⟩ = some (.slice ps[j].a ps[j].zs.length ps[j].cap) := h.cell j _ (by simp [hkl, Pt.val])
          have hc := Below.cellAt B (lt_of_cell hc0) hc0
          have hrow := hpo.row.below B (Nat.le_refl _)
          have hft := flat_take ps j hkl
          have hfl2 := flat_le ps (j + 1)
          rw [hft] at hfl2
          have H2 := hid hft
          have hlen : (flat (ps.take j)).length + ps[j].zs.length ≤ 70368744177664 := by rw [List.length_append] at hfl2; omega
          clear hft hfl2 hc0
          generalize ps[j] = p at *
          obtain ⟨pa, pc, pz⟩ := p
          simp only at hc hrow H2 hlen
          have hnl := hpo.nil
          simp only at hnl
          clear hpo
          cases pa with
          | none =>
            obtain ⟨rfl, rfl⟩ := hnl rfl
            simp only [List.length_nil, List.append_nil] at hc H2
            go_wp2_with (at_builtin; refine wpList_append_own_none rfl _ _ 27 rfl w.heap.size 5 i0 1 Tryz.underlying27 hi _ _ _ rfl o rfl ?_)
            go_roundw
            case rel => exact ⟨j + 1, by omega, by go_num, by rw [H2.out]; exact o, B⟩
            case measure => simp [intOf]; omega
          | some x =>
            have hnews := hrow.news
            have hs := B.size
            go_wp2_with (at_builtin; refine wpList_append_own _ rfl _ _ 27 rfl w.heap.size 5 i0 (.int .u8 0) 1 1 Tryz.underlying27 hi hz0 hz1 hz2 rfl (by decide) _ _ _ rfl o x pz.length pc (B8 pz) rfl (by simp) hnews (B8_one _) ?c3 ?c4 ?c5 ?_)
            case c3 => simp only [maxLen]; omega
            case c4 => omega
            case c5 => exact hs
            intro v' w1 o1 g1 _
            have B1 : Below w.heap.size w w1 := B.grown g1 hs (by intro q hq; exact (o.lt _ hq).1)
            have o2 : w1.ownsRow w.heap.size 5 1 v' (flat (ps.take (j + 1))).length (B8 (flat (ps.take (j + 1)))) := by
              rw [H2.out, List.length_append, B8, List.map_append]; exact o1
            clear g1 o1
            go_wp2_with fail
            go_roundw
            case rel => exact ⟨j + 1, by omega, by go_num, o2, B1⟩
            case measure => simp [intOf]; omega
        · obtain rfl : j = k := by omega
          have hall : flat (ps.take j) = flat ps := by rw [List.take_of_length_le (by rw [HL.out]; exact Nat.le_refl _)]
          rw [hall] at o
          clear hall
          go_wp2_with fail
          go_ret
          exact ⟨_, rfl, o, B⟩

end Go.Proofs.YtleoelhhndeheaaGreat
