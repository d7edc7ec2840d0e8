/- lariatref7.SameInts -/
import Derived.Test.YtfijglkealnopaaDrum7
open Go Go.RowKit
namespace Go.Proofs.Ytfijglkealnopaa

theorem take_eq_step {xs ys : List Int} {i : Nat} (h : xs.take i = ys.take i) (hx : i < xs.length) (hy : i < ys.length) (e : xs[i]?.getD 0 = ys[i]?.getD 0) : xs.take (i + 1) = ys.take (i + 1) := by
  rw [take_succ_get hx, take_succ_get hy, h, e]

set_option maxHeartbeats 1000000 in
theorem sameInts_any (a : Option Addr) (la ca : Nat) (xs : List Int) (b : Option Addr) (lb cb : Nat) (ys : List Int) (w : World) (ha : Row w a (I8 xs)) (hb : Row w b (I8 ys)) (hla : xs.length = la) (hlb : ys.length = lb) (hm : la ≤ 1000000) :
    Calls Try.prog 25 #[.slice a la ca, .slice b lb cb] w fun e w' => ∃ r, e = .returned (.bool r) ∧ (r = true ↔ xs = ys) ∧ Below w.heap.size w w' := by
  by_cases hl : la = lb
  · subst hl
    have HA := hid hla
    have HB := hid hlb
    clear hla hlb
    have hia := fun k (hk : k < la) => idx_at1 (P := Try.prog) (T := 23) Try.underlying23 szI (cap := ca) (fun _ => ha.nn (by simp; have := HA.out; omega)) hk
    have hib := fun k (hk : k < la) => idx_at1 (P := Try.prog) (T := 23) Try.underlying23 szI (cap := cb) (fun _ => hb.nn (by simp; have := HB.out; omega)) hk
    go_enter Try.func25, Try.ntmps25
    go_wp2_with fail
    go_loopw [5] (fun v wr => ∃ i : Nat, v = .int .i64 i ∧ i ≤ la ∧ Hid (xs.take i = ys.take i) ∧ Below w.heap.size w wr) (fun v _ => la - (intOf v).toNat)
    case atStart => exact ⟨0, rfl, Nat.zero_le _, hid rfl, Below.refl _ _⟩
    case round =>
      obtain ⟨i, rfl, hi, he, B⟩ := hrel
      by_cases hin : i < la
      · have h1 := hia i hin
        have h2 := hib i hin
        have hxa : i < xs.length := by rw [HA.out]; exact hin
        have hyb : i < ys.length := by rw [HB.out]; exact hin
        have ca := (ha.below B (Nat.le_refl _)).num hxa
        have cb := (hb.below B (Nat.le_refl _)).num hyb
        by_cases e : xs[i]?.getD 0 = ys[i]?.getD 0
        · have HE := hid (take_eq_step he.out hxa hyb e)
          rw [e] at ca
          clear hxa hyb e
          obtain ⟨y, hy⟩ : ∃ y, ys[i]?.getD 0 = y := ⟨_, rfl⟩
          rw [hy] at ca cb
          clear hy
          have S0 : wr.drew.cell? ⟨sB a, sO a + i, none⟩ = some (.int .i64 y) ∧ wr.drew.cell? ⟨sB b, sO b + i, none⟩ = some (.int .i64 y) := ⟨ca, cb⟩
          go_wp2_with fail
          go_region_held3 (fun w' => w'.cell? ⟨sB a, sO a + i, none⟩ = some (.int .i64 y) ∧ w'.cell? ⟨sB b, sO b + i, none⟩ = some (.int .i64 y)) (first | exact S0 | assumption) (fail)
          go_wp2_with fail
          go_roundw
          case measure => simp [intOf]; omega
          case rel => exact ⟨i + 1, by go_num, by omega, HE, B.drew⟩
        · have HE : Hid (xs ≠ ys) := hid (fun h => e (by rw [h]))
          have hne : (xs[i]?.getD 0 == ys[i]?.getD 0) = false := by simp only [beq_eq_false_iff_ne]; exact e
          clear hxa hyb e
          obtain ⟨x, hx⟩ : ∃ x, xs[i]?.getD 0 = x := ⟨_, rfl⟩
          obtain ⟨y, hy⟩ : ∃ y, ys[i]?.getD 0 = y := ⟨_, rfl⟩
          rw [hx] at ca hne
          rw [hy] at cb hne
          clear hx hy
          have S0 : wr.drew.cell? ⟨sB a, sO a + i, none⟩ = some (.int .i64 x) ∧ wr.drew.cell? ⟨sB b, sO b + i, none⟩ = some (.int .i64 y) := ⟨ca, cb⟩
          go_wp2_with fail
          go_region_held3 (fun w' => w'.cell? ⟨sB a, sO a + i, none⟩ = some (.int .i64 x) ∧ w'.cell? ⟨sB b, sO b + i, none⟩ = some (.int .i64 y)) (first | exact S0 | assumption) (fail)
          go_wp2_with fail
          go_ret
          exact ⟨false, rfl, by simpa using HE.out, B.drew⟩
      · obtain rfl : la = i := by omega
        have HE : Hid (xs = ys) := hid (by have := he.out; rwa [← HA.out, List.take_length, HA.out, ← HB.out, List.take_length] at this)
        clear he
        go_wp2_with fail
        go_ret
        exact ⟨true, rfl, by simpa using HE.out, B⟩
  · have hne : ((la : Int) == (lb : Int)) = false := by simp; omega
    have HE : Hid (xs ≠ ys) := hid (fun h => hl (by rw [← hla, ← hlb, h]))
    clear hl
    go_enter Try.func25, Try.ntmps25
    go_wp2_with fail
    go_ret
    exact ⟨false, rfl, by simpa using HE.out, Below.refl _ _⟩

end Go.Proofs.Ytfijglkealnopaa
