/- arguments as data: slices that came in, or were made, and are read; said of whole lists -/
import Derived.Test.YtkflhmpecfckfaaBase
open Go Go.RowKit
namespace Go.Proofs.Ytkflhmpecfckfaa

/-- the block and the place of a slice's beginning -/
def sB (a : Option Addr) : Nat := (a.getD ⟨0, 0, none⟩).block
def sO (a : Option Addr) : Nat := (a.getD ⟨0, 0, none⟩).off

theorem idx_at {P : Program} {T E n : Nat} (hT : P.underlying T = some (.slice E)) (hE : (P.info? E).map (·.size) = some n) {a : Option Addr} {len cap : Nat} (ha : 0 < len → a = some ⟨sB a, sO a, none⟩) {k : Nat} (hk : k < len) (w : World) :
    (Instr.indexAt T (.slice a len cap) (.int .i64 k)).run P w = .ok (.pointer (some ⟨sB a, sO a + k * n, none⟩)) w := by
  rw [ha (by omega)]
  obtain ⟨i, hi, hn⟩ := Option.map_eq_some_iff.1 hE
  simp [Instr.indexAt, run_underlying hT, asIntOf, sizeOf, typeInfo, hi, hn, hk, Result.andThen, Addr.add, sB, sO]

theorem idx_at1 {P : Program} {T E : Nat} (hT : P.underlying T = some (.slice E)) (hE : (P.info? E).map (·.size) = some 1) {a : Option Addr} {len cap : Nat} (ha : 0 < len → a = some ⟨sB a, sO a, none⟩) {k : Nat} (hk : k < len) (w : World) :
    (Instr.indexAt T (.slice a len cap) (.int .i64 k)).run P w = .ok (.pointer (some ⟨sB a, sO a + k, none⟩)) w := by
  have := idx_at hT hE ha hk (cap := cap) w
  rwa [Nat.mul_one] at this

theorem add_eq (b o k : Nat) : (⟨b, o, none⟩ : Addr).add k = ⟨b, o + k, none⟩ := by
  unfold Addr.add
  by_cases h : k = 0
  · subst h; rfl
  · simp [h]
theorem some_of_cell {w : World} {x : Addr} {v : Value} (h : w.cell? (x.add 0) = some v) : some x = some ⟨sB (some x), sO (some x), none⟩ := by
  have hs : x.spot = none := by
    have h : w.cell? x = some v := h
    unfold World.cell? at h
    split at h
    · split at h
      · cases h
      · rename_i hs; simpa using hs
    · cases h
  obtain ⟨b, o, s⟩ := x
  simp only at hs
  subst hs
  rfl

theorem lt_of_cell' {w : World} {a : Addr} {v : Value} (h : w.cell? a = some v) : a.block < w.heap.size := World.block_lt_of_cell? _ _ h
theorem Below.cell' {B : Nat} {w w' : World} (h : Below B w w') {a : Addr} {v : Value} (hb : a.block < B) (hc : w.cell? a = some v) : w'.cell? a = some v :=
  (h.cell (p := a) hb).trans hc
theorem Ext.cell' {F : Nat → Prop} {w w' : World} (h : Ext F w w') {a : Addr} {v : Value} (hF : ¬ F a.block) (hc : w.cell? a = some v) : w'.cell? a = some v :=
  (World.cell?_of_block (w := w) (h.block a.block (lt_of_cell' hc) hF)).trans hc

/-- a slice of ints that reads as a list -/
structure Ints (w : World) (a : Option Addr) (len : Nat) (zs : List Int) : Prop where
  length : zs.length = len
  bound : len ≤ 9223372036854775807
  nn : 0 < len → a = some ⟨sB a, sO a, none⟩
  cell : ∀ i, i < len → w.cell? ⟨sB a, sO a + i, none⟩ = some (.int .i64 (zs[i]?.getD 0))
  wf : ∀ n ∈ zs, -9223372036854775808 ≤ n ∧ n ≤ 9223372036854775807

theorem Ints.lt {w : World} {a : Option Addr} {len : Nat} {zs : List Int} (h : Ints w a len zs) (hi : 0 < len) : sB a < w.heap.size := lt_of_cell (h.cell 0 hi)
theorem Ints.below {w w' : World} {a : Option Addr} {len : Nat} {zs : List Int} (h : Ints w a len zs) {B : Nat} (hb : Below B w w') (hB : w.heap.size ≤ B) : Ints w' a len zs :=
  ⟨h.length, h.bound, h.nn, fun i hi => Below.cellAt hb (Nat.lt_of_lt_of_le (h.lt (by omega)) hB) (h.cell i hi), h.wf⟩
theorem Ints.get {w : World} {a : Option Addr} {len : Nat} {zs : List Int} (h : Ints w a len zs) {i : Nat} (hi : i < len) : -9223372036854775808 ≤ zs[i]?.getD 0 ∧ zs[i]?.getD 0 ≤ 9223372036854775807 := by
  refine h.wf _ ?_
  have hl : i < zs.length := by rw [h.length]; exact hi
  rw [List.getElem?_eq_getElem hl]
  exact List.getElem_mem _

def IsRow (k : IntKind) (w : World) (a : Option Addr) (len cap : Nat) (zs : List Int) : Prop :=
  (a = none ∧ len = 0 ∧ cap = 0 ∧ zs = []) ∨
  ∃ x, a = some x ∧ len ≤ cap ∧ cap ≤ maxLen ∧ zs.length = cap ∧ (∀ i, i < zs.length → w.cell? (x.add i) = some (.int k (zs.getD i 0))) ∧ ∀ n ∈ zs, (Lit.int k n).wf = true

theorem bd_i64 {n : Int} (h : (Lit.int .i64 n).wf = true) : -9223372036854775808 ≤ n ∧ n ≤ 9223372036854775807 := by
  simp [Lit.wf, IntKind.min, IntKind.max, IntKind.signed, IntKind.bits] at h
  omega

theorem IsRow.ints {w : World} {a : Option Addr} {len cap : Nat} {zs : List Int} (h : IsRow .i64 w a len cap zs) : Ints w a len (zs.take len) := by
  rcases h with ⟨rfl, rfl, rfl, rfl⟩ | ⟨x, rfl, h1, h2, h3, h4, h5⟩
  · exact ⟨rfl, by omega, fun hi => by omega, fun i hi => by omega, fun n hn => by simp at hn⟩
  · unfold maxLen at h2
    refine ⟨by simp; omega, by omega, fun hi => some_of_cell (h4 0 (by omega)), fun i hi => ?_, fun n hn => bd_i64 (h5 n (List.mem_of_mem_take hn))⟩
    have h6 := h4 i (by omega)
    have h7 := some_of_cell (h4 0 (by omega))
    rw [Option.some.injEq] at h7
    rw [h7, add_eq, List.getD_eq_getElem?_getD] at h6
    rw [List.getElem?_take, if_pos hi]
    exact h6

end Go.Proofs.Ytkflhmpecfckfaa
