/- a slice of structs of two ints, opened -/
import Derived.Test.YthonfecjjjpnmaaCountLaw4
import Derived.ProofKit
import Derived.Deep.SlicePairs
namespace Go.Proofs.Ythonfecjjjpnmaa
open Go.ChangeShapes Go.WideShapes Go.ChangeAt Go.RowKit Go.Deep

theorem open_pairs {H : Type} {enc : TypeId × Value → H} {P : Program} {w : World} {base : Nat} {held : Bool} {t e : TypeId} {f0 f1 : Field} {a : Option Addr} {len cap : Nat} {d : DataW H} {ps : List MemPlace}
    (ht : P.underlying t = some (.slice e)) (he : P.underlying e = some (.struct #[f0, f1]))
    (ce : P.cellsOf e = 2) (o0 : f0.offset = 0) (o1 : f1.offset = 1) (c0 : P.cellsOf f0.type = 1) (c1 : P.cellsOf f1.type = 1) (i0 : P.underlying f0.type = some (.int .i64)) (i1 : P.underlying f1.type = some (.int .i64))
    (h : DataW.Trod enc P w base (fun _ => true) held t (.slice a len cap) d ps) : ∃ zs, Pairs w a len zs := by
  obtain ⟨fuel, hf⟩ := h
  rcases open_slice_pairs ht he ce o0 o1 c0 c1 hf with ⟨hcs, _⟩ | ⟨x, l, c, m, n, V0, V1, D0, D1, P0, P1, hcs, _, hl, hm, hmm, _, hx⟩
  · simp [Value.cells] at hcs
    obtain ⟨rfl, rfl, rfl⟩ := hcs
    exact ⟨[], rfl, by omega, fun h => by omega, fun i hi => by omega, fun i hi => by omega, fun n hn => by simp at hn⟩
  · simp [Value.cells] at hcs
    obtain ⟨rfl, rfl, rfl⟩ := hcs
    simp only [if_true] at hmm
    subst hmm
    unfold maxLen at hm
    have each : ∀ i, i < len → ∃ q : Int × Int, w.cell? (x.add (i * 2)) = some (.int .i64 q.1) ∧ w.cell? (x.add (i * 2 + 1)) = some (.int .i64 q.2) ∧ (Lit.int .i64 q.1).wf = true ∧ (Lit.int .i64 q.2).wf = true := by
      intro i hi
      obtain ⟨g0, g1, t0, t1⟩ := hx i (by omega)
      obtain ⟨n0, e0, _, wf0⟩ := DataW.trod_int i0 t0
      obtain ⟨n1, e1, _, wf1⟩ := DataW.trod_int i1 t1
      simp at e0 e1
      rw [e1] at g1; rw [e0] at g0
      exact ⟨(n0, n1), g0, g1, wf0, wf1⟩
    obtain ⟨q, hq⟩ := choose_lt each
    have hsome : 0 < len → some x = some ⟨sB (some x), sO (some x), none⟩ := fun h => some_of_cell (hq 0 h).1
    refine ⟨(List.range len).map q, by simp, by omega, hsome, fun i hi => ?_, fun i hi => ?_, fun n hn => ?_⟩
    · have h6 := (hq i hi).1
      have h7 := hsome (by omega)
      rw [Option.some.injEq] at h7
      rw [h7, add_eq] at h6
      simp [hi]; exact h6
    · have h6 := (hq i hi).2.1
      have h7 := hsome (by omega)
      rw [Option.some.injEq] at h7
      rw [h7, add_eq] at h6
      simp [hi]; exact h6
    · obtain ⟨i, hi, rfl⟩ := List.mem_map.1 hn
      exact ⟨bd_i64 (hq i (List.mem_range.1 hi)).2.2.1, bd_i64 (hq i (List.mem_range.1 hi)).2.2.2⟩

end Go.Proofs.Ythonfecjjjpnmaa
