/- rows of bytes that came in -/
import Derived.Test.YtleoelhhndeheaaGreatVRun
import Derived.Test.YtleoelhhndeheaaGreatProg
import Derived.ProofKit
import Derived.Deep.SlicePairs
import Derived.ChangeArms
open Go Go.RowKit Go.ChangeShapes Go.WideShapes
open Go.Deep
namespace Go.Proofs.YtleoelhhndeheaaGreat

structure ByteV where
  ba : Option Addr
  bl : Nat
  bc : Nat
  bz : List Int
instance : Inhabited ByteV := ⟨⟨none, 0, 0, []⟩⟩
/-- a [][]byte that came in -/
structure BRows (w : World) (a : Option Addr) (len : Nat) (Y : Nat → ByteV) : Prop where
  nn : 0 < len → a = some ⟨sB a, sO a, none⟩
  c : ∀ i, i < len → w.cell? ⟨sB a, sO a + i, none⟩ = some (.slice (Y i).ba (Y i).bl (Y i).bc)
  ok : ∀ i, i < len → ByteIn w (Y i).ba (Y i).bl (Y i).bc (Y i).bz
  len : len ≤ maxLen
theorem BRows.below {w w' : World} {a : Option Addr} {n : Nat} {Y : Nat → ByteV} (h : BRows w a n Y) {B : Nat} (hb : Below B w w') (hB : w.heap.size ≤ B) : BRows w' a n Y :=
  ⟨h.nn, fun i hi => Below.cellAt hb (by have := lt_of_cell (h.c i hi); omega) (h.c i hi), fun i hi => (h.ok i hi).below hb hB, h.len⟩
theorem bytesin_open {H : Type} {enc : TypeId × Value → H} {W : World} {a : Option Addr} {len cap : Nat} {d : DataW H} {p : List MemPlace} (h : DataW.Trod enc Tryz.prog W 0 (fun _ => true) true 27 (.slice a len cap) d p) : ∃ zs, ByteIn W a len cap zs := by
  obtain ⟨fuel, hf⟩ := h
  obtain ⟨a', l', c', zs, e, hb⟩ := open_bytesR5 (v := .slice a len cap) (by simpa [Value.cells] using hf)
  cases e
  exact ⟨zs, hb⟩
set_option maxRecDepth 100000 in
set_option maxHeartbeats 1000000 in
theorem brows_open {H : Type} {enc : TypeId × Value → H} {W : World} {a : Option Addr} {len cap : Nat} {d : DataW H} {p : List MemPlace} (h : DataW.Trod enc Tryz.prog W 0 (fun _ => true) true 46 (.slice a len cap) d p) : ∃ Y, BRows W a len Y := by
  obtain ⟨fuel, hf⟩ := h
  have ce : Tryz.prog.cellsOf 27 = 1 := by kernel_rfl
  rcases open_slice Tryz.underlying46 hf with ⟨hcs, _⟩ | ⟨x, l, c, m, n, D, Pl, hcs, _, hl, hm, hmm, _, hx⟩
  · simp [Value.cells] at hcs
    obtain ⟨rfl, rfl, rfl⟩ := hcs
    exact ⟨fun _ => default, fun h => by omega, fun i h => by omega, fun i h => by omega, Nat.zero_le _⟩
  · simp [Value.cells] at hcs
    obtain ⟨rfl, rfl, rfl⟩ := hcs
    simp only [if_true] at hmm
    subst hmm
    have each : ∀ i, i < len → ∃ q : ByteV, W.cell? (x.add i) = some (.slice q.ba q.bl q.bc) ∧ ByteIn W q.ba q.bl q.bc q.bz := by
      intro i hi
      obtain ⟨cs, h1, h2⟩ := hx i (by omega)
      rw [ce] at h1
      obtain ⟨_, hlen, hcell⟩ := World.cells?_some h1
      match cs, hlen with
      | [v0], _ =>
        have k0 := hcell 0 (by omega)
        rw [add_add] at k0
        obtain ⟨ba, bl, bc, bz, rfl, a1⟩ := open_bytesR5 h2
        exact ⟨⟨ba, bl, bc, bz⟩, by simpa using k0, a1⟩
    obtain ⟨q, hq⟩ := choose_lt each
    have hsome : 0 < len → some x = some ⟨sB (some x), sO (some x), none⟩ := fun h => some_of_cell (by simpa using (hq 0 h).1)
    have hadd : ∀ i, i < len → x.add i = ⟨sB (some x), sO (some x) + i, none⟩ := fun i hi => by
      have h7 := hsome (by omega)
      rw [Option.some.injEq] at h7
      conv => lhs; rw [h7, add_eq]
    exact ⟨q, hsome, fun i hi => by have := (hq i hi).1; rw [hadd i hi] at this; exact this, fun i hi => (hq i hi).2, by omega⟩
theorem szB8 : (Tryz.prog.info? 27).map (·.size) = some 1 := by kernel_rfl
theorem szU8 : (Tryz.prog.info? 5).map (·.size) = some 1 := by kernel_rfl
theorem BRows.ix {w : World} {a : Option Addr} {len : Nat} {Y : Nat → ByteV} (h : BRows w a len Y) (cap : Nat) (i : Nat) (hi : i < len) (W' : World) : (Instr.indexAt 46 (.slice a len cap) (.int .i64 i)).run Tryz.prog W' = .ok (.pointer (some ⟨sB a, sO a + i, none⟩)) W' := idx_at1 (P := Tryz.prog) Tryz.underlying46 szB8 h.nn hi W'
theorem ByteIn.nn {w : World} {a : Option Addr} {len cap : Nat} {zs : List Int} (h : ByteIn w a len cap zs) (hl : 0 < len) : a = some ⟨sB a, sO a, none⟩ := h.hrow.nn (by rw [B8_length, h.hlen]; exact hl)
theorem ByteIn.ix {w : World} {a : Option Addr} {len cap : Nat} {zs : List Int} (h : ByteIn w a len cap zs) (i : Nat) (hi : i < len) (W' : World) : (Instr.indexAt 27 (.slice a len cap) (.int .i64 i)).run Tryz.prog W' = .ok (.pointer (some ⟨sB a, sO a + i, none⟩)) W' := idx_at1 (P := Tryz.prog) Tryz.underlying27 szU8 h.nn hi W'
theorem ByteIn.cell {w : World} {a : Option Addr} {len cap : Nat} {zs : List Int} (h : ByteIn w a len cap zs) {i : Nat} (hi : i < len) : w.cell? ⟨sB a, sO a + i, none⟩ = some (.int .u8 (zb zs i)) := by
  refine h.hrow.cell i _ ?_
  unfold B8 zb
  rw [List.getElem?_map, List.getElem?_eq_getElem (by rw [h.hlen]; exact hi)]
  rfl

end Go.Proofs.YtleoelhhndeheaaGreat
