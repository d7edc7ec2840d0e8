/- a []Turn that came in: its numbers -/
import Derived.Test.YtfijglkealnopaaProg
import Derived.Test.YtfijglkealnopaaArgs
import Derived.ProofKit
import Derived.Deep.SlicePairs
import Derived.ChangeArms
open Go Go.RowKit Go.ChangeShapes Go.WideShapes
namespace Go.Proofs.Ytfijglkealnopaa
open Go.Deep

/-- the four numbers of a turn -/
structure TurnN where
  what : Int
  k : Int
  n : Int
  cut : Int
instance : Inhabited TurnN := ⟨⟨0, 0, 0, 0⟩⟩
def bd (x : Int) : Prop := -9223372036854775808 ≤ x ∧ x ≤ 9223372036854775807

/-- a []Turn: its numbers, and that its two rows are slices -/
structure TurnsAt (w : World) (a : Option Addr) (len : Nat) (X : Nat → TurnN) : Prop where
  nn : 0 < len → a = some ⟨sB a, sO a, none⟩
  c0 : ∀ i, i < len → w.cell? ⟨sB a, sO a + i * 6, none⟩ = some (.int .i64 (X i).what)
  c1 : ∀ i, i < len → w.cell? ⟨sB a, sO a + i * 6 + 1, none⟩ = some (.int .i64 (X i).k)
  c2 : ∀ i, i < len → w.cell? ⟨sB a, sO a + i * 6 + 2, none⟩ = some (.int .i64 (X i).n)
  c3 : ∀ i, i < len → w.cell? ⟨sB a, sO a + i * 6 + 3, none⟩ = some (.int .i64 (X i).cut)
  bd : ∀ i, i < len → bd (X i).what ∧ bd (X i).k ∧ bd (X i).n ∧ bd (X i).cut
  len : len ≤ maxLen
theorem TurnsAt.below {w w' : World} {a : Option Addr} {n : Nat} {X : Nat → TurnN} (h : TurnsAt w a n X) {B : Nat} (hb : Below B w w') (hB : w.heap.size ≤ B) : TurnsAt w' a n X :=
  ⟨h.nn, fun i hi => Below.cellAt hb (by have := lt_of_cell (h.c0 i hi); omega) (h.c0 i hi), fun i hi => Below.cellAt hb (by have := lt_of_cell (h.c1 i hi); omega) (h.c1 i hi), fun i hi => Below.cellAt hb (by have := lt_of_cell (h.c2 i hi); omega) (h.c2 i hi),
    fun i hi => Below.cellAt hb (by have := lt_of_cell (h.c3 i hi); omega) (h.c3 i hi), h.bd, h.len⟩

set_option maxRecDepth 100000 in
theorem turns_open {H : Type} {enc : TypeId × Value → H} {W : World} {a : Option Addr} {len cap : Nat} {d : DataW H} {p : List MemPlace} (h : DataW.Trod enc Try.prog W 0 (fun _ => true) true 22 (.slice a len cap) d p) : ∃ X, TurnsAt W a len X := by
  obtain ⟨fuel, hf⟩ := h
  have ce : Try.prog.cellsOf 33 = 6 := by kernel_rfl
  have ci : Try.prog.cellsOf 3 = 1 := by kernel_rfl
  rcases open_slice Try.underlying22 hf with ⟨hcs, _⟩ | ⟨x, l, c, m, n, D, Pl, hcs, _, hl, hm, hmm, _, hx⟩
  · simp [Value.cells] at hcs
    obtain ⟨rfl, rfl, rfl⟩ := hcs
    exact ⟨fun _ => default, fun h => by omega, fun i h => by omega, fun i h => by omega, fun i h => by omega, fun i h => by omega, fun i h => by omega, Nat.zero_le _⟩
  · simp [Value.cells] at hcs
    obtain ⟨rfl, rfl, rfl⟩ := hcs
    simp only [if_true] at hmm
    subst hmm
    have each : ∀ i, i < len → ∃ q : TurnN, W.cell? (x.add (i * 6)) = some (.int .i64 q.what) ∧ W.cell? (x.add (i * 6 + 1)) = some (.int .i64 q.k) ∧ W.cell? (x.add (i * 6 + 2)) = some (.int .i64 q.n) ∧ W.cell? (x.add (i * 6 + 3)) = some (.int .i64 q.cut) ∧
        bd q.what ∧ bd q.k ∧ bd q.n ∧ bd q.cut := by
      intro i hi
      obtain ⟨cs, h1, h2⟩ := hx i (by omega)
      rw [ce] at h1
      obtain ⟨_, hlen, hcell⟩ := World.cells?_some h1
      obtain ⟨xs, k, hk, hxy, _, hxl, hff⟩ := DataW.trod_struct Try.underlying33 h2
      match cs, hlen with
      | [v0, v1, v2, v3, v4, v5], _ =>
        have g0 := hff 0 _ rfl
        have g1 := hff 1 _ rfl
        have g2 := hff 2 _ rfl
        have g3 := hff 3 _ rfl
        simp [ci] at g0 g1 g2 g3
        match xs, hxl with
        | [y0, y1, y2, y3, y4, y5], _ =>
          obtain ⟨n0, e0, _, w0⟩ := DataW.trod_int Try.underlying3 g0
          obtain ⟨n1, e1, _, w1⟩ := DataW.trod_int Try.underlying3 g1
          obtain ⟨n2, e2, _, w2⟩ := DataW.trod_int Try.underlying3 g2
          obtain ⟨n3, e3, _, w3⟩ := DataW.trod_int Try.underlying3 g3
          simp at e0 e1 e2 e3
          have k0 := hcell 0 (by omega)
          have k1 := hcell 1 (by omega)
          have k2 := hcell 2 (by omega)
          have k3 := hcell 3 (by omega)
          rw [add_add] at k0 k1 k2 k3
          subst e0 e1 e2 e3
          exact ⟨⟨n0, n1, n2, n3⟩, by simpa using k0, by simpa using k1, by simpa using k2, by simpa using k3, bd_i64 w0, bd_i64 w1, bd_i64 w2, bd_i64 w3⟩
    obtain ⟨q, hq⟩ := choose_lt each
    have hsome : 0 < len → some x = some ⟨sB (some x), sO (some x), none⟩ := fun h => some_of_cell (by simpa using (hq 0 h).1)
    have hadd : ∀ i j, i < len → x.add (i * 6 + j) = ⟨sB (some x), sO (some x) + i * 6 + j, none⟩ := fun i j hi => by
      have h7 := hsome (by omega)
      rw [Option.some.injEq] at h7
      conv => lhs; rw [h7, add_eq]
      rw [Nat.add_assoc]
    refine ⟨q, hsome, fun i hi => ?_, fun i hi => ?_, fun i hi => ?_, fun i hi => ?_, fun i hi => ⟨(hq i hi).2.2.2.2.1, (hq i hi).2.2.2.2.2.1, (hq i hi).2.2.2.2.2.2.1, (hq i hi).2.2.2.2.2.2.2⟩, by omega⟩
    · have := (hq i hi).1; rw [show i * 6 = i * 6 + 0 from rfl, hadd i 0 hi] at this; exact this
    · have := (hq i hi).2.1; rw [hadd i 1 hi] at this; exact this
    · have := (hq i hi).2.2.1; rw [hadd i 2 hi] at this; exact this
    · have := (hq i hi).2.2.2.1; rw [hadd i 3 hi] at this; exact this

end Go.Proofs.Ytfijglkealnopaa
