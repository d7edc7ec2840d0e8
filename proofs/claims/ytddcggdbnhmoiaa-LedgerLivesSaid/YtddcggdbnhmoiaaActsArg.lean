/- a []Act of the ledger's laws that came in -/
import Derived.Test.YtddcggdbnhmoiaaProg
import Derived.Test.YtddcggdbnhmoiaaDrum7
import Derived.Test.YtddcggdbnhmoiaaIRow
import Derived.Test.YtddcggdbnhmoiaaIntsArg
import Derived.ProofKit
import Derived.Deep.SlicePairs
import Derived.ChangeArms
open Go Go.RowKit Go.ChangeShapes Go.WideShapes
namespace Go.Proofs.Ytddcggdbnhmoiaa
open Go.Deep

def bdI (x : Int) : Prop := -9223372036854775808 ≤ x ∧ x ≤ 9223372036854775807
structure ActV where
  what : Int
  n : Int
  torn : Int
  cut : Int
  aa : Option Addr
  al : Nat
  ac : Nat
  az : List Int
  ka : Option Addr
  kl : Nat
  kc : Nat
  kz : List Int
instance : Inhabited ActV := ⟨⟨0, 0, 0, 0, none, 0, 0, [], none, 0, 0, []⟩⟩
structure ActOk (w : World) (y : ActV) : Prop where
  at_ : IntsAt w y.aa y.al y.ac y.az
  keep : IntsAt w y.ka y.kl y.kc y.kz
  b0 : bdI y.what
  b1 : bdI y.n
  b2 : bdI y.torn
  b3 : bdI y.cut
  ab : IsNums y.az
  kb : IsNums y.kz
structure ActsAt (w : World) (a : Option Addr) (len : Nat) (X : Nat → ActV) : Prop where
  nn : 0 < len → a = some ⟨sB a, sO a, none⟩
  c0 : ∀ i, i < len → w.cell? ⟨sB a, sO a + i * 6, none⟩ = some (.int .i64 (X i).what)
  c1 : ∀ i, i < len → w.cell? ⟨sB a, sO a + i * 6 + 1, none⟩ = some (.int .i64 (X i).n)
  c2 : ∀ i, i < len → w.cell? ⟨sB a, sO a + i * 6 + 2, none⟩ = some (.int .i64 (X i).torn)
  c3 : ∀ i, i < len → w.cell? ⟨sB a, sO a + i * 6 + 3, none⟩ = some (.int .i64 (X i).cut)
  c4 : ∀ i, i < len → w.cell? ⟨sB a, sO a + i * 6 + 4, none⟩ = some (.slice (X i).aa (X i).al (X i).ac)
  c5 : ∀ i, i < len → w.cell? ⟨sB a, sO a + i * 6 + 5, none⟩ = some (.slice (X i).ka (X i).kl (X i).kc)
  ok : ∀ i, i < len → ActOk w (X i)
  len : len ≤ maxLen
theorem ActOk.below {w w' : World} {y : ActV} (h : ActOk w y) {B : Nat} (hb : Below B w w') (hB : w.heap.size ≤ B) : ActOk w' y :=
  ⟨h.at_.below hb hB, h.keep.below hb hB, h.b0, h.b1, h.b2, h.b3, h.ab, h.kb⟩
theorem ActsAt.below {w w' : World} {a : Option Addr} {n : Nat} {X : Nat → ActV} (h : ActsAt w a n X) {B : Nat} (hb : Below B w w') (hB : w.heap.size ≤ B) : ActsAt w' a n X :=
  ⟨h.nn, fun i hi => Below.cellAt hb (by have := lt_of_cell (h.c0 i hi); omega) (h.c0 i hi), fun i hi => Below.cellAt hb (by have := lt_of_cell (h.c1 i hi); omega) (h.c1 i hi), fun i hi => Below.cellAt hb (by have := lt_of_cell (h.c2 i hi); omega) (h.c2 i hi),
    fun i hi => Below.cellAt hb (by have := lt_of_cell (h.c3 i hi); omega) (h.c3 i hi), fun i hi => Below.cellAt hb (by have := lt_of_cell (h.c4 i hi); omega) (h.c4 i hi), fun i hi => Below.cellAt hb (by have := lt_of_cell (h.c5 i hi); omega) (h.c5 i hi), fun i hi => (h.ok i hi).below hb hB, h.len⟩

theorem row_of_cells5 {W : World} {x : Addr} {kd : IntKind} {zs : List Int} {l : Nat} (hl : l ≤ zs.length) (hcell : ∀ i, i < zs.length → W.cell? (x.add i) = some (.int kd (zs.getD i 0))) : Row W (some x) ((zs.take l).map (Value.int kd)) := by
  have hx : 0 < l → some x = some ⟨sB (some x), sO (some x), none⟩ := fun h0 => some_of_cell (hcell 0 (by omega))
  refine ⟨fun h0 => hx (by simp at h0; omega), fun i v hv => ?_⟩
  rw [List.getElem?_map, List.getElem?_take] at hv
  split at hv
  · rename_i hi
    obtain ⟨z, hz2, rfl⟩ := Option.map_eq_some_iff.1 hv
    have e := hx (by omega)
    rw [Option.some.injEq] at e
    have h1 := hcell i (by omega)
    rw [e, add_eq, List.getD_eq_getElem?_getD, hz2] at h1
    exact h1
  · simp at hv
theorem open_intsR5 {H : Type} {enc : TypeId × Value → H} {W : World} {k : Nat} {v : Value} {y : DataW H × List MemPlace} (h : DataW.trod enc Try.prog W 0 (fun _ => true) true k 34 [v] = some y) :
    ∃ a l c zs, v = .slice a l c ∧ IntsAt W a l c zs ∧ IsNums zs := by
  rcases open_ints Try.underlying34 Try.underlying3 (by kernel_rfl) h with ⟨hcs, _⟩ | ⟨x, l, c, zs, hcs, _, hl, hm, hz, hy, hcell, hwz⟩
  · simp at hcs
    exact ⟨none, 0, 0, [], hcs, IntsAt.none _, fun n hn => by cases hn⟩
  · simp at hcs
    simp only [if_true] at hz
    unfold maxLen at hm
    exact ⟨some x, l, c, zs.take l, hcs, ⟨row_of_cells5 (by omega) hcell, by simp; omega, (fun h => by cases h), by omega⟩, fun n hn => bd_i64 (hwz n (List.mem_of_mem_take hn))⟩

set_option maxRecDepth 100000 in
set_option maxHeartbeats 1000000 in
theorem acts_open {H : Type} {enc : TypeId × Value → H} {W : World} {a : Option Addr} {len cap : Nat} {d : DataW H} {p : List MemPlace} (h : DataW.Trod enc Try.prog W 0 (fun _ => true) true 26 (.slice a len cap) d p) : ∃ X, ActsAt W a len X := by
  obtain ⟨fuel, hf⟩ := h
  have ce : Try.prog.cellsOf 36 = 6 := by kernel_rfl
  have ci : Try.prog.cellsOf 3 = 1 := by kernel_rfl
  have ck : Try.prog.cellsOf 34 = 1 := by kernel_rfl
  rcases open_slice Try.underlying26 hf with ⟨hcs, _⟩ | ⟨x, l, c, m, n, D, Pl, hcs, _, hl, hm, hmm, _, hx⟩
  · simp [Value.cells] at hcs
    obtain ⟨rfl, rfl, rfl⟩ := hcs
    exact ⟨fun _ => default, fun h => by omega, fun i h => by omega, fun i h => by omega, fun i h => by omega, fun i h => by omega, fun i h => by omega, fun i h => by omega, fun i h => by omega, Nat.zero_le _⟩
  · simp [Value.cells] at hcs
    obtain ⟨rfl, rfl, rfl⟩ := hcs
    simp only [if_true] at hmm
    subst hmm
    have each : ∀ i, i < len → ∃ q : ActV, W.cell? (x.add (i * 6)) = some (.int .i64 q.what) ∧ W.cell? (x.add (i * 6 + 1)) = some (.int .i64 q.n) ∧ W.cell? (x.add (i * 6 + 2)) = some (.int .i64 q.torn) ∧ W.cell? (x.add (i * 6 + 3)) = some (.int .i64 q.cut) ∧
        W.cell? (x.add (i * 6 + 4)) = some (.slice q.aa q.al q.ac) ∧ W.cell? (x.add (i * 6 + 5)) = some (.slice q.ka q.kl q.kc) ∧ ActOk W q := by
      intro i hi
      obtain ⟨cs, h1, h2⟩ := hx i (by omega)
      rw [ce] at h1
      obtain ⟨_, hlen, hcell⟩ := World.cells?_some h1
      obtain ⟨xs, k, hk, hxy, _, hxl, hff⟩ := DataW.trod_struct Try.underlying36 h2
      match cs, hlen with
      | [v0, v1, v2, v3, v4, v5], _ =>
        have g0 := hff 0 _ rfl
        have g1 := hff 1 _ rfl
        have g2 := hff 2 _ rfl
        have g3 := hff 3 _ rfl
        have g4 := hff 4 _ rfl
        have g5 := hff 5 _ rfl
        simp [ci, ck] at g0 g1 g2 g3 g4 g5
        match xs, hxl with
        | [y0, y1, y2, y3, y4, y5], _ =>
          obtain ⟨n0, e0, _, w0⟩ := DataW.trod_int Try.underlying3 g0
          obtain ⟨n1, e1, _, w1⟩ := DataW.trod_int Try.underlying3 g1
          obtain ⟨n2, e2, _, w2⟩ := DataW.trod_int Try.underlying3 g2
          obtain ⟨n3, e3, _, w3⟩ := DataW.trod_int Try.underlying3 g3
          simp at e0 e1 e2 e3
          have k0 := hcell 0 (by omega)
          have k1 := hcell 1 (by omega)
          have k2 := hcell 2 (by omega)
          have k3 := hcell 3 (by omega)
          have k4 := hcell 4 (by omega)
          have k5 := hcell 5 (by omega)
          rw [add_add] at k0 k1 k2 k3 k4 k5
          have g4' : DataW.trod enc Try.prog W 0 (fun _ => true) true k 34 [v4] = some y4 := by simpa using g4
          have g5' : DataW.trod enc Try.prog W 0 (fun _ => true) true k 34 [v5] = some y5 := by simpa using g5
          obtain ⟨aa, al, ac, az, rfl, a1, a2⟩ := open_intsR5 g4'
          obtain ⟨ka, kl, kc, kz, rfl, c1, c2⟩ := open_intsR5 g5'
          subst e0 e1 e2 e3
          exact ⟨⟨n0, n1, n2, n3, aa, al, ac, az, ka, kl, kc, kz⟩, by simpa using k0, by simpa using k1, by simpa using k2, by simpa using k3, by simpa using k4, by simpa using k5, ⟨a1, c1, bd_i64 w0, bd_i64 w1, bd_i64 w2, bd_i64 w3, a2, c2⟩⟩
    obtain ⟨q, hq⟩ := choose_lt each
    have hsome : 0 < len → some x = some ⟨sB (some x), sO (some x), none⟩ := fun h => some_of_cell (by simpa using (hq 0 h).1)
    have hadd : ∀ i j, i < len → x.add (i * 6 + j) = ⟨sB (some x), sO (some x) + i * 6 + j, none⟩ := fun i j hi => by
      have h7 := hsome (by omega)
      rw [Option.some.injEq] at h7
      conv => lhs; rw [h7, add_eq]
      rw [Nat.add_assoc]
    refine ⟨q, hsome, fun i hi => ?_, fun i hi => ?_, fun i hi => ?_, fun i hi => ?_, fun i hi => ?_, fun i hi => ?_, fun i hi => (hq i hi).2.2.2.2.2.2, by omega⟩
    · have := (hq i hi).1; rw [show i * 6 = i * 6 + 0 from rfl, hadd i 0 hi] at this; exact this
    · have := (hq i hi).2.1; rw [hadd i 1 hi] at this; exact this
    · have := (hq i hi).2.2.1; rw [hadd i 2 hi] at this; exact this
    · have := (hq i hi).2.2.2.1; rw [hadd i 3 hi] at this; exact this
    · have := (hq i hi).2.2.2.2.1; rw [hadd i 4 hi] at this; exact this
    · have := (hq i hi).2.2.2.2.2.1; rw [hadd i 5 hi] at this; exact this

end Go.Proofs.Ytddcggdbnhmoiaa
