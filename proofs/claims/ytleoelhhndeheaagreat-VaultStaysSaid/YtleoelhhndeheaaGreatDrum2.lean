/- a track of one byte; New, Look, Break, Afloat -/
import Derived.Test.YtleoelhhndeheaaGreatDrum1
open Go Go.RowKit
namespace Go.Proofs.YtleoelhhndeheaaGreat

/-- 96 zeros -/
def zeros96 : List Int := List.replicate 96 0
theorem zeros96_len : zeros96.length = 96 := by simp [zeros96]
theorem mkU {n : Nat} (hn : n ≤ 1000000) (W : World) : (Instr.makeSlice 27 (.int .i64 (n : Int)) (.int .i64 (n : Int))).run Tryz.prog W = .ok (.slice (some ⟨W.heap.size, 0, none⟩) n n) (W.alloc (.cells (B8 (List.replicate n 0)).toArray 5)) := by
  obtain ⟨i, hi, hz, hs, hb⟩ := info_parts iB
  have hr := run_make (P := Tryz.prog) W 27 5 i (.int .u8 0) Tryz.underlying27 hi hz .i64 .i64 n n (by omega) (Int.le_refl _) (by rw [hb]; omega) (by omega)
  rw [hs] at hr
  simp only [Int.toNat_natCast, Nat.mul_one] at hr
  rw [hr]
  have e : madeCells #[Value.int .u8 0] n = (B8 (List.replicate n 0)).toArray := by
    apply Array.toList_inj.1
    rw [toList_madeCells_one]
    simp [B8]
  rw [← e]; rfl

theorem look_any {w : World} {M : Dom} {d : Nat} {s : DS} (h : DrumAt w M d s) (k : Int) :
    Calls Tryz.prog 20 #[.pointer (some ⟨d, 0, none⟩), .int .i64 k] w fun e w' =>
      ((¬ (0 ≤ k ∧ k < s.n) ∧ e = .returned (.tuple #[.slice none 0 0, .int .i64 1])) ∨ (0 ≤ k ∧ k < s.n ∧ s.broken = true ∧ e = .returned (.tuple #[.slice none 0 0, .int .i64 4])) ∨
        (0 ≤ k ∧ k < s.n ∧ s.broken = false ∧ ∃ a c, e = .returned (.tuple #[.slice (some a) 96 c, .int .i64 0]) ∧ w'.ownsRow w.heap.size 5 1 (.slice (some a) 96 c) 96 (B8 (s.now k.toNat)) ∧ (s.now k.toNat).length = 96 ∧ IsBytes (s.now k.toNat))) ∧ Below w.heap.size w w' := by
  have HH := hid h
  obtain ⟨p, rfl, h⟩ := h
  obtain ⟨-, c1, -⟩ := h.cells
  have K := hid h.now
  clear h
  by_cases hk : 0 ≤ k ∧ k < s.n
  · have HA := has_any HH.out k
    have e0 : decide (0 ≤ k ∧ k < (s.n : Int)) = true := by simpa using hk
    rw [e0] at HA
    obtain ⟨i, rfl⟩ : ∃ i : Nat, k = i := ⟨k.toNat, by omega⟩
    have hi : i < s.n := by omega
    obtain ⟨a, c, hc, ht⟩ := K.out.cell hi
    obtain ⟨a', c', e1, hrow, hlen, -, hby, -⟩ := ht
    cases e1
    have CL := cloneB_any (some a) 96 c (s.now i) w hrow hlen (fun h => by cases h) (by omega)
    have HL := hid hlen
    have HB := hid hby
    obtain ⟨b, hb⟩ : ∃ b, s.broken = b := ⟨_, rfl⟩
    have BK := broken_any HH.out
    rw [hb] at BK
    have HBB := hid hb
    clear e0 hk hlen hby hb
    go_enter Tryz.func20, Tryz.ntmps20
    go_wp2_with fail
    refine HA.mono ?_
    rintro e w1 ⟨rfl, rfl⟩
    go_wp2_with fail
    refine BK.mono ?_
    rintro e w1 ⟨rfl, rfl⟩
    cases b with
    | true =>
      go_wp2_with fail
      go_ret2
      exact ⟨.inr (.inl ⟨by omega, by omega, HBB.out, rfl⟩), Below.refl _ _⟩
    | false =>
      go_wp2_with fail
      refine CL.mono ?_
      rintro e w1 ⟨v, rfl, ho, B⟩
      obtain ⟨g, c2, rfl, -⟩ := owns_some ho (by omega)
      go_wp2_with fail
      go_ret2
      exact ⟨.inr (.inr ⟨by omega, by omega, HBB.out, _, _, rfl, ho, HL.out, HB.out⟩), B⟩
  · have HA := has_any HH.out k
    have e0 : decide (0 ≤ k ∧ k < (s.n : Int)) = false := by simpa using hk
    rw [e0] at HA
    have HK := hid hk
    clear e0 hk
    go_enter Tryz.func20, Tryz.ntmps20
    go_wp2_with fail
    refine HA.mono ?_
    rintro e w1 ⟨rfl, rfl⟩
    go_wp2_with fail
    go_ret2
    exact ⟨.inl ⟨HK.out, rfl⟩, Below.refl _ _⟩

end Go.Proofs.YtleoelhhndeheaaGreat
