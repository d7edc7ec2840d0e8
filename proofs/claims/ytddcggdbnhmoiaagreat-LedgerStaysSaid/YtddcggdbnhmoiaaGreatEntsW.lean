import Derived.Test.YtddcggdbnhmoiaaGreatProg
import Derived.Test.YtddcggdbnhmoiaaGreatBase
import Derived.Test.YtddcggdbnhmoiaaGreatDrum7
import Derived.Test.YtddcggdbnhmoiaaGreatIRow
import Derived.Test.YtddcggdbnhmoiaaGreatIntsArg
import Derived.ProofKit
import Derived.Deep.SlicePairs
import Derived.ChangeArms
import Derived.Test.YtddcggdbnhmoiaaGreatLawX
/- lariathand.Pick and other small functions of the statements -/
open Go Go.RowKit
namespace Go.Proofs.YtddcggdbnhmoiaaGreat

theorem pick_emod (n m : Int) (hm : 0 < m) : (if n.tmod m < 0 then n.tmod m + m else n.tmod m) = n % m := by
  rcases Int.le_total 0 n with h | h
  · rw [Int.tmod_eq_emod_of_nonneg h, if_neg (by have := Int.emod_nonneg n (by omega : m ≠ 0); omega)]
  · have h1 := Int.tmod_eq_emod (a := n) (b := m)
    have h2 := Int.emod_nonneg n (by omega : m ≠ 0)
    have h3 := Int.emod_lt_of_pos n hm
    rw [h1]
    have e : ((m.natAbs : Int)) = m := by omega
    split <;> split <;> omega

set_option maxRecDepth 100000 in
theorem pick_any (n m : Int) (w : World) (hn : -9223372036854775808 ≤ n ∧ n ≤ 9223372036854775807) (hm : 0 < m) (hm2 : m ≤ 1000000000) :
    Calls Tryz.prog 16 #[.int .i64 n, .int .i64 m] w fun e w' => e = .returned (.int .i64 (n % m)) ∧ w = w' := by
  have b1 : -m < n.tmod m ∧ n.tmod m < m := by
    have h1 := Int.tmod_lt_of_pos n hm
    have h2 := Int.lt_tmod_of_pos n hm
    omega
  have hp := hid (pick_emod n m hm)
  have hm0 : (m == 0) = false := by simp; omega
  by_cases h : n.tmod m < 0
  · go_enter Tryz.func16, Tryz.ntmps16
    go_wp2_with fail
    go_ret
    exact ⟨ret_int (by rw [← hp.out, if_pos h]), rfl⟩
  · go_enter Tryz.func16, Tryz.ntmps16
    go_wp2_with fail
    go_ret
    exact ⟨ret_int (by rw [← hp.out, if_neg (Int.not_lt.2 h)]), rfl⟩

end Go.Proofs.YtddcggdbnhmoiaaGreat

/- a []Act of the ledger's laws that came in -/
open Go Go.RowKit Go.ChangeShapes Go.WideShapes
namespace Go.Proofs.YtddcggdbnhmoiaaGreat
open Go.Deep

def bdI (x : Int) : Prop := -9223372036854775808 ≤ x ∧ x ≤ 9223372036854775807
structure ActV where
  what : Int
  n : Int
  torn : Int
  cut : Int
  aa : Option Addr
  al : Nat
  ac : Nat
  az : List Int
  ka : Option Addr
  kl : Nat
  kc : Nat
  kz : List Int
instance : Inhabited ActV := ⟨⟨0, 0, 0, 0, none, 0, 0, [], none, 0, 0, []⟩⟩
structure ActOk (w : World) (y : ActV) : Prop where
  at_ : IntsAt w y.aa y.al y.ac y.az
  keep : IntsAt w y.ka y.kl y.kc y.kz
  b0 : bdI y.what
  b1 : bdI y.n
  b2 : bdI y.torn
  b3 : bdI y.cut
  ab : IsNums y.az
  kb : IsNums y.kz
structure ActsAt (w : World) (a : Option Addr) (len : Nat) (X : Nat → ActV) : Prop where
  nn : 0 < len → a = some ⟨sB a, sO a, none⟩
  c0 : ∀ i, i < len → w.cell? ⟨sB a, sO a + i * 6, none⟩ = some (.int .i64 (X i).what)
  c1 : ∀ i, i < len → w.cell? ⟨sB a, sO a + i * 6 + 1, none⟩ = some (.int .i64 (X i).n)
  c2 : ∀ i, i < len → w.cell? ⟨sB a, sO a + i * 6 + 2, none⟩ = some (.int .i64 (X i).torn)
  c3 : ∀ i, i < len → w.cell? ⟨sB a, sO a + i * 6 + 3, none⟩ = some (.int .i64 (X i).cut)
  c4 : ∀ i, i < len → w.cell? ⟨sB a, sO a + i * 6 + 4, none⟩ = some (.slice (X i).aa (X i).al (X i).ac)
  c5 : ∀ i, i < len → w.cell? ⟨sB a, sO a + i * 6 + 5, none⟩ = some (.slice (X i).ka (X i).kl (X i).kc)
  ok : ∀ i, i < len → ActOk w (X i)
  len : len ≤ maxLen
theorem ActOk.below {w w' : World} {y : ActV} (h : ActOk w y) {B : Nat} (hb : Below B w w') (hB : w.heap.size ≤ B) : ActOk w' y :=
  ⟨h.at_.below hb hB, h.keep.below hb hB, h.b0, h.b1, h.b2, h.b3, h.ab, h.kb⟩
theorem ActsAt.below {w w' : World} {a : Option Addr} {n : Nat} {X : Nat → ActV} (h : ActsAt w a n X) {B : Nat} (hb : Below B w w') (hB : w.heap.size ≤ B) : ActsAt w' a n X :=
  ⟨h.nn, fun i hi => Below.cellAt hb (by have := lt_of_cell (h.c0 i hi); omega) (h.c0 i hi), fun i hi => Below.cellAt hb (by have := lt_of_cell (h.c1 i hi); omega) (h.c1 i hi), fun i hi => Below.cellAt hb (by have := lt_of_cell (h.c2 i hi); omega) (h.c2 i hi),
    fun i hi => Below.cellAt hb (by have := lt_of_cell (h.c3 i hi); omega) (h.c3 i hi), fun i hi => Below.cellAt hb (by have := lt_of_cell (h.c4 i hi); omega) (h.c4 i hi), fun i hi => Below.cellAt hb (by have := lt_of_cell (h.c5 i hi); omega) (h.c5 i hi), fun i hi => (h.ok i hi).below hb hB, h.len⟩

theorem row_of_cells5 {W : World} {x : Addr} {kd : IntKind} {zs : List Int} {l : Nat} (hl : l ≤ zs.length) (hcell : ∀ i, i < zs.length → W.cell? (x.add i) = some (.int kd (zs.getD i 0))) : Row W (some x) ((zs.take l).map (Value.int kd)) := by
  have hx : 0 < l → some x = some ⟨sB (some x), sO (some x), none⟩ := fun h0 => some_of_cell (hcell 0 (by omega))
  refine ⟨fun h0 => hx (by simp at h0; omega), fun i v hv => ?_⟩
  rw [List.getElem?_map, List.getElem?_take] at hv
  split at hv
  · rename_i hi
    obtain ⟨z, hz2, rfl⟩ := Option.map_eq_some_iff.1 hv
    have e := hx (by omega)
    rw [Option.some.injEq] at e
    have h1 := hcell i (by omega)
    rw [e, add_eq, List.getD_eq_getElem?_getD, hz2] at h1
    exact h1
  · simp at hv
theorem open_intsR5 {H : Type} {enc : TypeId × Value → H} {W : World} {k : Nat} {v : Value} {y : DataW H × List MemPlace} (h : DataW.trod enc Tryz.prog W 0 (fun _ => true) true k 23 [v] = some y) :
    ∃ a l c zs, v = .slice a l c ∧ IntsAt W a l c zs ∧ IsNums zs := by
  rcases open_ints Tryz.underlying23 Tryz.underlying3 (by kernel_rfl) h with ⟨hcs, _⟩ | ⟨x, l, c, zs, hcs, _, hl, hm, hz, hy, hcell, hwz⟩
  · simp at hcs
    exact ⟨none, 0, 0, [], hcs, IntsAt.none _, fun n hn => by cases hn⟩
  · simp at hcs
    simp only [if_true] at hz
    unfold maxLen at hm
    exact ⟨some x, l, c, zs.take l, hcs, ⟨row_of_cells5 (by omega) hcell, by simp; omega, (fun h => by cases h), by omega⟩, fun n hn => bd_i64 (hwz n (List.mem_of_mem_take hn))⟩

set_option maxRecDepth 100000 in
set_option maxHeartbeats 1000000 in
theorem acts_open {H : Type} {enc : TypeId × Value → H} {W : World} {a : Option Addr} {len cap : Nat} {d : DataW H} {p : List MemPlace} (h : DataW.Trod enc Tryz.prog W 0 (fun _ => true) true 22 (.slice a len cap) d p) : ∃ X, ActsAt W a len X := by
  obtain ⟨fuel, hf⟩ := h
  have ce : Tryz.prog.cellsOf 38 = 6 := by kernel_rfl
  have ci : Tryz.prog.cellsOf 3 = 1 := by kernel_rfl
  have ck : Tryz.prog.cellsOf 23 = 1 := by kernel_rfl
  rcases open_slice Tryz.underlying22 hf with ⟨hcs, _⟩ | ⟨x, l, c, m, n, D, Pl, hcs, _, hl, hm, hmm, _, hx⟩
  · simp [Value.cells] at hcs
    obtain ⟨rfl, rfl, rfl⟩ := hcs
    exact ⟨fun _ => default, fun h => by omega, fun i h => by omega, fun i h => by omega, fun i h => by omega, fun i h => by omega, fun i h => by omega, fun i h => by omega, fun i h => by omega, Nat.zero_le _⟩
  · simp [Value.cells] at hcs
    obtain ⟨rfl, rfl, rfl⟩ := hcs
    simp only [if_true] at hmm
    subst hmm
    have each : ∀ i, i < len → ∃ q : ActV, W.cell? (x.add (i * 6)) = some (.int .i64 q.what) ∧ W.cell? (x.add (i * 6 + 1)) = some (.int .i64 q.n) ∧ W.cell? (x.add (i * 6 + 2)) = some (.int .i64 q.torn) ∧ W.cell? (x.add (i * 6 + 3)) = some (.int .i64 q.cut) ∧
        W.cell? (x.add (i * 6 + 4)) = some (.slice q.aa q.al q.ac) ∧ W.cell? (x.add (i * 6 + 5)) = some (.slice q.ka q.kl q.kc) ∧ ActOk W q := by
      intro i hi
      obtain ⟨cs, h1, h2⟩ := hx i (by omega)
      rw [ce] at h1
      obtain ⟨_, hlen, hcell⟩ := World.cells?_some h1
      obtain ⟨xs, k, hk, hxy, _, hxl, hff⟩ := DataW.trod_struct Tryz.underlying38 h2
      match cs, hlen with
      | [v0, v1, v2, v3, v4, v5], _ =>
        have g0 := hff 0 _ rfl
        have g1 := hff 1 _ rfl
        have g2 := hff 2 _ rfl
        have g3 := hff 3 _ rfl
        have g4 := hff 4 _ rfl
        have g5 := hff 5 _ rfl
        simp [ci, ck] at g0 g1 g2 g3 g4 g5
        match xs, hxl with
        | [y0, y1, y2, y3, y4, y5], _ =>
          obtain ⟨n0, e0, _, w0⟩ := DataW.trod_int Tryz.underlying3 g0
          obtain ⟨n1, e1, _, w1⟩ := DataW.trod_int Tryz.underlying3 g1
          obtain ⟨n2, e2, _, w2⟩ := DataW.trod_int Tryz.underlying3 g2
          obtain ⟨n3, e3, _, w3⟩ := DataW.trod_int Tryz.underlying3 g3
          simp at e0 e1 e2 e3
          have k0 := hcell 0 (by omega)
          have k1 := hcell 1 (by omega)
          have k2 := hcell 2 (by omega)
          have k3 := hcell 3 (by omega)
          have k4 := hcell 4 (by omega)
          have k5 := hcell 5 (by omega)
          rw [add_add] at k0 k1 k2 k3 k4 k5
          have g4' : DataW.trod enc Tryz.prog W 0 (fun _ => true) true k 23 [v4] = some y4 := by simpa using g4
          have g5' : DataW.trod enc Tryz.prog W 0 (fun _ => true) true k 23 [v5] = some y5 := by simpa using g5
          obtain ⟨aa, al, ac, az, rfl, a1, a2⟩ := open_intsR5 g4'
          obtain ⟨ka, kl, kc, kz, rfl, c1, c2⟩ := open_intsR5 g5'
          subst e0 e1 e2 e3
          exact ⟨⟨n0, n1, n2, n3, aa, al, ac, az, ka, kl, kc, kz⟩, by simpa using k0, by simpa using k1, by simpa using k2, by simpa using k3, by simpa using k4, by simpa using k5, ⟨a1, c1, bd_i64 w0, bd_i64 w1, bd_i64 w2, bd_i64 w3, a2, c2⟩⟩
    obtain ⟨q, hq⟩ := choose_lt each
    have hsome : 0 < len → some x = some ⟨sB (some x), sO (some x), none⟩ := fun h => some_of_cell (by simpa using (hq 0 h).1)
    have hadd : ∀ i j, i < len → x.add (i * 6 + j) = ⟨sB (some x), sO (some x) + i * 6 + j, none⟩ := fun i j hi => by
      have h7 := hsome (by omega)
      rw [Option.some.injEq] at h7
      conv => lhs; rw [h7, add_eq]
      rw [Nat.add_assoc]
    refine ⟨q, hsome, fun i hi => ?_, fun i hi => ?_, fun i hi => ?_, fun i hi => ?_, fun i hi => ?_, fun i hi => ?_, fun i hi => (hq i hi).2.2.2.2.2.2, by omega⟩
    · have := (hq i hi).1; rw [show i * 6 = i * 6 + 0 from rfl, hadd i 0 hi] at this; exact this
    · have := (hq i hi).2.1; rw [hadd i 1 hi] at this; exact this
    · have := (hq i hi).2.2.1; rw [hadd i 2 hi] at this; exact this
    · have := (hq i hi).2.2.2.1; rw [hadd i 3 hi] at this; exact this
    · have := (hq i hi).2.2.2.2.1; rw [hadd i 4 hi] at this; exact this
    · have := (hq i hi).2.2.2.2.2.1; rw [hadd i 5 hi] at this; exact this

end Go.Proofs.YtddcggdbnhmoiaaGreat

/- the laws' entries -/
open Go Go.RowKit
namespace Go.Proofs.YtddcggdbnhmoiaaGreat

def hadCells (H : Nat → Bool) : List Value := (List.range 64).map fun q => .bool (H q)
def refCells (l : List Ent) : List Value := l.flatMap fun x => [.int .i64 x.1, .string (strOfNums x.2)]
theorem EntsOwn.ext {w w' : World} {lo : Nat} {v : Value} {l : List Ent} (h : EntsOwn w lo v l) {F : Nat → Prop} (kx : Ext F w w') (hF : ∀ q, F q → q < lo) : EntsOwn w' lo v l := by
  obtain ⟨us, h0, h1, h2⟩ := h.row
  refine ⟨us, h0, kx.owns2 (fun g hg hf => by have := own_base h1 g hg; have := hF g hf; omega) h1, fun i x hi => ?_⟩
  obtain ⟨u, h3, h4, r⟩ := h2 i x hi
  exact ⟨u, h3, kx.owns2 (fun g hg hf => by have := own_base h4 g hg; have := hF g hf; omega) h4, r⟩
theorem EntsOwn.grown {w w' : World} {lo lo2 n : Nat} {v v2 : Value} {l : List Ent} {xs : List Value} (h : EntsOwn w lo v l) (hg : w.grownBy w' v2.ownBlock) (h2 : w.ownsRow lo2 88 2 v2 n xs) : EntsOwn w' lo v l := by
  obtain ⟨us, h0, h1, h3⟩ := h.row
  refine ⟨us, h0, h1.kept hg ?_, fun i x hi => ?_⟩
  · by_cases hn : v.ownBlock = none
    · exact .inl hn
    · right
      intro e
      obtain ⟨g, hgg⟩ := Option.ne_none_iff_exists'.1 hn
      exact owns_ne2 h2 h1 (by decide) g hgg (by rw [← e, hgg])
  · obtain ⟨u, h4, h5, r⟩ := h3 i x hi
    refine ⟨u, h4, h5.kept hg ?_, r⟩
    by_cases hn : u.ownBlock = none
    · exact .inl hn
    · right
      intro e
      obtain ⟨g, hgg⟩ := Option.ne_none_iff_exists'.1 hn
      exact owns_ne2 h2 h5 (by decide) g hgg (by rw [← e, hgg])
theorem page_owns {w : World} {g lo : Nat} {c : Int} (hb : w.heap[g]? = some (.cells (B8 (pageE c)).toArray 5 (0, 0))) (hg : lo ≤ g) : w.ownsRow lo 5 1 (.slice (some ⟨g, 0, none⟩) 96 96) 96 (B8 (pageE c)) := by
  have hl : (B8 (pageE c)).length = 96 := by rw [B8_length, pageE_length]
  exact ⟨by rw [hl], .inr ⟨g, 96, _, rfl, hg, hb, Nat.le_refl _, by decide, by simpa using hl, by rw [List.take_of_length_le (by simp [hl])]⟩⟩
theorem iRef : (Tryz.prog.info? 88).map (fun i => (i.zero, i.size, i.bytes)) = some (some (.agg #[.int .i64 0, .string ⟨#[]⟩]), 2, 24) := by kernel_rfl
set_option maxRecDepth 100000 in
set_option maxHeartbeats 4000000 in
theorem entries5_any (xw xn xt xc : Int) (aa : Option Addr) (al ac : Nat) (az : List Int) (kv : Value) (home most : Nat) (w : World) (hA : IntsAt w aa al ac az) (hN : -9223372036854775808 ≤ xn ∧ xn ≤ 9223372036854775807) (hB : IsNums az) (hh : 0 < home ∧ home ≤ 4096) (hm : most ≤ 8) :
    Calls Tryz.prog 10 #[.agg #[.int .i64 xw, .int .i64 xn, .int .i64 xt, .int .i64 xc, .slice aa al ac, kv], .int .i64 (home : Int), .int .i64 (most : Int)] w fun e w' => ∃ va vb el, e = .returned (.tuple #[va, vb]) ∧ EntsOwn w' w.heap.size va el ∧ w'.ownsRow w.heap.size 88 2 vb el.length (refCells el) ∧ (∀ x ∈ el, 0 ≤ x.1 ∧ x.1 ≤ home) ∧ el.length ≤ most ∧ Below w.heap.size w w' := by
  obtain ⟨ie, hie, hez0, hez1, hez2⟩ := info_parts iEnt
  obtain ⟨ir, hir, hrz0, hrz1, hrz2⟩ := info_parts iRef
  have hix : ∀ (k : Nat), k < al → ∀ W', (Instr.indexAt 23 (.slice aa al ac) (.int .i64 k)).run Tryz.prog W' = .ok (.pointer (some ⟨sB aa, sO aa + k, none⟩)) W' := fun k hk W' => idx_at1 (P := Tryz.prog) Tryz.underlying23 (by kernel_rfl) (fun h => hA.row.nn (by simpa [hA.len] using h)) hk W'
  have HA := hid hA
  have HB := hid hB
  have HM := hid hm
  clear hA hB hm
  go_enter Tryz.func10, Tryz.ntmps10
  go_wp2_with fail
  obtain ⟨p, hp⟩ : ∃ p, w.heap.size = p := ⟨_, rfl⟩
  rw [hp]
  go_loopw [8, 9, 11] (fun a b i wr => ∃ (k : Nat) (va vb : Value) (el : List Ent) (H : Nat → Bool), va = a ∧ vb = b ∧ i = .int .i64 k ∧ k ≤ most ∧ k ≤ al ∧ Hid (EntsOwn wr (p + 2) va el) ∧ Hid (wr.ownsRow (p + 2) 88 2 vb el.length (refCells el)) ∧ Hid (∀ x ∈ el, 0 ≤ x.1 ∧ x.1 ≤ home) ∧ Hid (el.length ≤ k) ∧
    Hid (wr.heap[p]? = some (.cells #[.int .i64 xw, .int .i64 xn, .int .i64 xt, .int .i64 xc, .slice aa al ac, kv] 38 (0, 0))) ∧ Hid (wr.heap[p + 1]? = some (.cells (hadCells H).toArray 86 (0, 0))) ∧ Below p w wr ∧ p + 2 ≤ wr.heap.size) (fun _ _ i _ => most - (Go.RowKit.intOf i).toNat)
  case atStart =>
    refine ⟨0, _, _, [], fun _ => false, rfl, rfl, rfl, Nat.zero_le _, Nat.zero_le _, hid (EntsOwn.nil _ _), hid (World.ownsRow_nil _ _ _ _), hid (fun x hx => by cases hx), hid (Nat.le_refl _), hid ?_, hid ?_, ?_⟩
    · exact blk_old _ (blk_at _ hp.symm)
    · exact blk_at _ (by simp [hp])
    · exact ⟨((Below.refl _ _).alloc (by omega) _).alloc (by simp; omega) _, by simp; omega⟩
  case round =>
    obtain ⟨k, va, vb, el, H, rfl, rfl, rfl, hk1, hk2, EO, RO, EB, EL, PX, PH, BR, szr⟩ := hrel
    have c4 : wr.cell? ⟨p, 4, none⟩ = some (.slice aa al ac) := blk_cell PX.out rfl
    have c1 : wr.cell? ⟨p, 1, none⟩ = some (.int .i64 xn) := blk_cell PX.out rfl
    by_cases hgo : k < al ∧ k < most
    · obtain ⟨h1, h2⟩ := hgo
      have hixk := hix k h1
      have hk8 : k < 8 := by have := HM.out; omega
      obtain ⟨z, hz⟩ : ∃ z, az[k]? = some z := ⟨_, List.getElem?_eq_getElem (by rw [HA.out.len]; exact h1)⟩
      have cz0 : w.cell? ⟨sB aa, sO aa + k, none⟩ = some (.int .i64 z) := HA.out.row.cell k _ (by simp [I8, hz])
      have hne : sB aa ≠ p + 1 := by have := lt_of_cell cz0; omega
      have hne2 : p + 1 ≠ sB aa := fun e => hne e.symm
      clear cz0
      have cz : wr.cell? ⟨sB aa, sO aa + k, none⟩ = some (.int .i64 z) := (HA.out.row.below BR (by omega)).cell k _ (by simp [I8, hz])
      have hzb := HB.out z (List.mem_of_getElem? hz)
      clear hz
      go_wp2_with fail
      refine (pick_any z home wr hzb (by omega) (by omega)).mono ?_
      rintro e w2 ⟨rfl, rfl⟩
      obtain ⟨x, hx, hxl⟩ : ∃ x : Nat, z % (home : Int) = x ∧ x < home := by
        have g1 := Int.emod_nonneg z (b := home) (by omega)
        have g2 := Int.emod_lt_of_pos z (b := home) (by omega)
        exact ⟨(z % (home : Int)).toNat, by omega, by omega⟩
      rw [hx]
      clear hx
      have hm64 : x % 64 < 64 := Nat.mod_lt _ (by omega)
      obtain ⟨m, hmm, hml⟩ : ∃ m, x % 64 = m ∧ m < 64 := ⟨_, rfl, hm64⟩
      obtain ⟨hb, hHb⟩ : ∃ hb, H m = hb := ⟨_, rfl⟩
      have ch : wr.cell? ⟨p + 1, m, none⟩ = some (.bool hb) := blk_cell PH.out (by simp [hadCells, hml, hHb])
      have fz := fun o => blk_free (o := o) PH.out
      have lq := lt_of_blk PH.out
      obtain ⟨r, hr⟩ : ∃ r, xn.tmod 11 = r := ⟨_, rfl⟩
      by_cases hskip : hb = true ∧ 0 < r
      · obtain ⟨rfl, hr0⟩ := hskip
        go_wp2_with fail
        go_roundw
        case measure => simp [Go.RowKit.intOf]; omega
        case rel => exact ⟨k + 1, _, _, el, H, rfl, rfl, by go_num, by omega, by omega, EO, RO, EB, hid (by have := EL.out; omega), PX, PH, BR, szr⟩
      · obtain ⟨H', hH'⟩ : ∃ H' : Nat → Bool, H' = fun q => decide (q = m) || H q := ⟨_, rfl⟩
        have PH' := hid (show ((hadCells H).toArray.setIfInBounds m (.bool true)) = (hadCells H').toArray by
          subst hH'
          apply Array.ext'
          simp only [Array.toList_setIfInBounds, List.toList_toArray]
          apply List.ext_getElem?
          intro i
          rw [List.getElem?_set]
          by_cases him : m = i
          · subst him; simp [hadCells, hml]
          · rw [if_neg him]
            have : (fun q => decide (q = m) || H q) i = H i := by simp; intro h; omega
            unfold hadCells
            rw [List.getElem?_map, List.getElem?_map]
            cases hi : (List.range 64)[i]? with
            | none => rfl
            | some q =>
              have hq : q = i := by have := List.getElem?_eq_some_iff.1 hi; obtain ⟨h3, h4⟩ := this; simpa using h4.symm
              subst hq
              simp [this])
        have X1 := Ext.set (w := wr) (b := p + 1) (o := m) (v := .bool true)
        have EO1 := hid (EO.out.ext X1 (fun q hq => by omega))
        have RO1 := hid (X1.owns2 (fun g hg hf => by have := own_base RO.out g hg; omega) RO.out)
        have PX1 := hid (X1.blk (by omega) PX.out)
        have PH1 := hid ((blk_setCell PH.out (o := m) (.bool true)).trans (by rw [PH'.out]))
        have BR1 : Hid (Below p w (wr.setCell ⟨p + 1, m, none⟩ (.bool true))) := hid (Below.setCell BR (by show p ≤ p + 1; omega) _)
        have sz1 := hid (show (wr.setCell ⟨p + 1, m, none⟩ (.bool true)).heap.size = wr.heap.size by simp)
        have HSK := hid hskip
        clear hH' hHb
        have key : hb = false ∨ ¬ (0 < r) := by
          cases hb
          · exact .inl rfl
          · exact .inr (fun h => hskip ⟨rfl, h⟩)
        clear hskip HSK
        clear EO RO PX PH
        by_cases h89 : z.tmod 89 = 88
        · rcases key with rfl | hr0
          case' inr => cases hb
          all_goals (
            go_wp2_with fail
            refine (page_any _ _).mono ?_
            rintro e w3 ⟨gp, rfl, hb3, hg3, B3⟩
            obtain ⟨c, hc⟩ : ∃ c, wrap64 (wrap64 (xn * 7) + (k : Int)) = c := ⟨_, rfl⟩
            rw [hc] at hb3
            clear hc
            have sz3 : wr.heap.size ≤ w3.heap.size := by have := B3.size; rw [sz1.out] at this; exact this
            have EO3 := (EO1.out.below B3 (Nat.le_refl _)).alloc (.cells #[.int .i64 (home : Int), .slice (some ⟨gp, 0, none⟩) 96 96] 63)
            have RO3 := hid (((Ext.of_below B3 (fun _ => False)).owns2 (fun _ _ => id) RO1.out).alloc (.cells #[.int .i64 (home : Int), .slice (some ⟨gp, 0, none⟩) 96 96] 63))
            obtain ⟨us, u0, u1, u2⟩ := EO3.row
            have pg3 : (w3.alloc (.cells #[.int .i64 (home : Int), .slice (some ⟨gp, 0, none⟩) 96 96] 63)).ownsRow (p + 2) 5 1 (.slice (some ⟨gp, 0, none⟩) 96 96) 96 (B8 (pageE c)) := World.ownsRow.alloc (page_owns hb3 (by rw [sz1.out] at hg3; omega)) _
            have PX3 := hid (blk_old (.cells #[.int .i64 (home : Int), .slice (some ⟨gp, 0, none⟩) 96 96] 63) ((B3.block p (by rw [sz1.out]; omega)).trans PX1.out))
            have PH3 := hid (blk_old (.cells #[.int .i64 (home : Int), .slice (some ⟨gp, 0, none⟩) 96 96] 63) ((B3.block (p + 1) (by rw [sz1.out]; omega)).trans PH1.out))
            have BR3 : Below p w (w3.alloc (.cells #[.int .i64 (home : Int), .slice (some ⟨gp, 0, none⟩) 96 96] 63)) := (BR1.out.trans (B3.mono (by rw [sz1.out]; omega))).alloc (by omega) _
            clear EO1 RO1 PX1 PH1 BR1
            go_wp2_with (at_builtin; refine wpList_append_own (P := Tryz.prog) _ rfl _ _ 33 rfl (p + 2) 63 ie (.agg #[.int .i64 0, .slice none 0 0]) 2 32 Tryz.underlying33 hie hez0 hez1 hez2 rfl (by decide) va el.length (entCells el us) rfl u1 ⟨w3.heap.size, 0, none⟩ 1 1 [.int .i64 (home : Int), .slice (some ⟨gp, 0, none⟩) 96 96] rfl rfl (row_new w3 #[.int .i64 (home : Int), .slice (some ⟨gp, 0, none⟩) 96 96] 63).news (fun u hu => by simp at hu; rcases hu with rfl | rfl <;> rfl) ?c3 ?c4 ?c5 ?_)
            case c3 => have := EL.out; simp only [maxLen]; omega
            case c4 => have := EL.out; omega
            case c5 => simp; omega
            intro v4 w4 O4 G4 _
            have B4 := (Below.refl _ _).grown (B := p + 2) G4 (by simp; omega) (own_base u1)
            have LP := hid (EntsOwn.push (x := (((home : Nat) : Int), pageE c)) u0 u1 u2 pg3 (pageE_bytes c) ⟨by omega, by omega⟩ O4 G4)
            have RO4 := hid (RO3.out.kept G4 (by
              by_cases hn : vb.ownBlock = none
              · exact .inl hn
              · right
                intro e
                obtain ⟨g, hg⟩ := Option.ne_none_iff_exists'.1 hn
                exact owns_ne2 u1 RO3.out (by decide) g hg (by rw [← e, hg])))
            have pg4 := pg3.kept G4 (by
              right
              intro e
              exact owns_ne2 u1 pg3 (by decide) gp rfl (by rw [← e]; rfl))
            have PX4 := hid (B4.block p (by omega) |>.trans PX3.out)
            have PH4 := hid (B4.block (p + 1) (by omega) |>.trans PH3.out)
            have BR4 := hid (BR3.trans (B4.mono (by omega)))
            have sz4 := B4.size
            obtain ⟨_, _, e8, -, -, -, rw4, -, -⟩ := row_of_owns pg4
            cases e8
            have kc := conv_row (P := Tryz.prog) Tryz.underlying45 Tryz.underlying5 Tryz.underlying9 96 rw4 (pageE_length c)
            clear u0 u1 u2 pg3 pg4 PX3 PH3 BR3 RO3 O4 G4 EO3
            have sz5 : p + 2 ≤ w4.heap.size := by
              have : (w3.alloc (.cells #[.int .i64 (home : Int), .slice (some ⟨gp, 0, none⟩) 96 96] 63)).heap.size = w3.heap.size + 1 := by simp
              omega
            clear sz4
            obtain ⟨st, hst⟩ : ∃ st, strOfNums (pageE c) = st := ⟨_, rfl⟩
            rw [hst] at kc
            have HST := hid hst
            clear hst
            have RO5 := RO4.out.alloc (.cells #[.int .i64 (home : Int), .string st] 88)
            go_wp2_with (at_builtin; refine wpList_append_own (P := Tryz.prog) _ rfl _ _ 34 rfl (p + 2) 88 ir (.agg #[.int .i64 0, .string ⟨#[]⟩]) 2 24 Tryz.underlying34 hir hrz0 hrz1 hrz2 rfl (by decide) vb el.length (refCells el) rfl RO5 ⟨w4.heap.size, 0, none⟩ 1 1 [.int .i64 (home : Int), .string st] rfl rfl (row_new w4 #[.int .i64 (home : Int), .string st] 88).news (fun u hu => by simp at hu; rcases hu with rfl | rfl <;> rfl) ?d3 ?d4 ?d5 ?_)
            case d3 => have := EL.out; simp only [maxLen]; omega
            case d4 => have := EL.out; omega
            case d5 => simp; omega
            intro v6 w6 O6 G6 _
            have LP6 := hid ((EntsOwn.alloc LP.out (.cells #[.int .i64 (home : Int), .string st] 88)).grown G6 RO5)
            have B6 := (Below.refl _ _).grown (B := p + 2) G6 (by simp; omega) (own_base RO5)
            have PX6 := hid ((B6.block p (by omega)).trans (blk_old (.cells #[.int .i64 (home : Int), .string st] 88) PX4.out))
            have PH6 := hid ((B6.block (p + 1) (by omega)).trans (blk_old (.cells #[.int .i64 (home : Int), .string st] 88) PH4.out))
            have BR6 := (BR4.out.alloc (by omega) (.cells #[.int .i64 (home : Int), .string st] 88)).trans (B6.mono (by omega))
            have sz6 : p + 2 ≤ w6.heap.size := by
              have h7 := B6.size
              have : (w4.alloc (.cells #[.int .i64 (home : Int), .string st] 88)).heap.size = w4.heap.size + 1 := by simp
              omega
            have RO6 : Hid (w6.ownsRow (p + 2) 88 2 v6 (el ++ [(((home : Nat) : Int), pageE c)]).length (refCells (el ++ [(((home : Nat) : Int), pageE c)]))) := hid (by
              have e1 : refCells (el ++ [(((home : Nat) : Int), pageE c)]) = refCells el ++ [.int .i64 (home : Int), .string st] := by
                unfold refCells
                rw [List.flatMap_append, ← HST.out]
                rfl
              rw [e1, List.length_append]
              exact O6)
            clear O6 G6 B6 RO5 LP RO4 PX4 PH4 BR4
            go_wp2_with fail
            go_roundw
            case measure => simp [Go.RowKit.intOf]; omega
            case rel =>
              refine ⟨k + 1, v4, v6, _, H', rfl, rfl, by go_num, by omega, by omega, LP6, RO6, hid (fun y hy => ?_), hid (by have := EL.out; simp; omega), PX6, PH6, BR6, sz6⟩
              rcases List.mem_append.1 hy with h | h
              · exact EB.out y h
              · obtain rfl : y = (((home : Nat) : Int), pageE c) := by simpa using h
                exact ⟨by show (0 : Int) ≤ (home : Int); omega, by show (home : Int) ≤ (home : Int); omega⟩)
        · rcases key with rfl | hr0
          case' inr => cases hb
          all_goals (
            go_wp2_with fail
            refine (page_any _ _).mono ?_
            rintro e w3 ⟨gp, rfl, hb3, hg3, B3⟩
            obtain ⟨c, hc⟩ : ∃ c, wrap64 (wrap64 (xn * 7) + (k : Int)) = c := ⟨_, rfl⟩
            rw [hc] at hb3
            clear hc
            have sz3 : wr.heap.size ≤ w3.heap.size := by have := B3.size; rw [sz1.out] at this; exact this
            have EO3 := (EO1.out.below B3 (Nat.le_refl _)).alloc (.cells #[.int .i64 (x : Int), .slice (some ⟨gp, 0, none⟩) 96 96] 63)
            have RO3 := hid (((Ext.of_below B3 (fun _ => False)).owns2 (fun _ _ => id) RO1.out).alloc (.cells #[.int .i64 (x : Int), .slice (some ⟨gp, 0, none⟩) 96 96] 63))
            obtain ⟨us, u0, u1, u2⟩ := EO3.row
            have pg3 : (w3.alloc (.cells #[.int .i64 (x : Int), .slice (some ⟨gp, 0, none⟩) 96 96] 63)).ownsRow (p + 2) 5 1 (.slice (some ⟨gp, 0, none⟩) 96 96) 96 (B8 (pageE c)) := World.ownsRow.alloc (page_owns hb3 (by rw [sz1.out] at hg3; omega)) _
            have PX3 := hid (blk_old (.cells #[.int .i64 (x : Int), .slice (some ⟨gp, 0, none⟩) 96 96] 63) ((B3.block p (by rw [sz1.out]; omega)).trans PX1.out))
            have PH3 := hid (blk_old (.cells #[.int .i64 (x : Int), .slice (some ⟨gp, 0, none⟩) 96 96] 63) ((B3.block (p + 1) (by rw [sz1.out]; omega)).trans PH1.out))
            have BR3 : Below p w (w3.alloc (.cells #[.int .i64 (x : Int), .slice (some ⟨gp, 0, none⟩) 96 96] 63)) := (BR1.out.trans (B3.mono (by rw [sz1.out]; omega))).alloc (by omega) _
            clear EO1 RO1 PX1 PH1 BR1
            go_wp2_with (at_builtin; refine wpList_append_own (P := Tryz.prog) _ rfl _ _ 33 rfl (p + 2) 63 ie (.agg #[.int .i64 0, .slice none 0 0]) 2 32 Tryz.underlying33 hie hez0 hez1 hez2 rfl (by decide) va el.length (entCells el us) rfl u1 ⟨w3.heap.size, 0, none⟩ 1 1 [.int .i64 (x : Int), .slice (some ⟨gp, 0, none⟩) 96 96] rfl rfl (row_new w3 #[.int .i64 (x : Int), .slice (some ⟨gp, 0, none⟩) 96 96] 63).news (fun u hu => by simp at hu; rcases hu with rfl | rfl <;> rfl) ?c3 ?c4 ?c5 ?_)
            case c3 => have := EL.out; simp only [maxLen]; omega
            case c4 => have := EL.out; omega
            case c5 => simp; omega
            intro v4 w4 O4 G4 _
            have B4 := (Below.refl _ _).grown (B := p + 2) G4 (by simp; omega) (own_base u1)
            have LP := hid (EntsOwn.push (x := (((x : Nat) : Int), pageE c)) u0 u1 u2 pg3 (pageE_bytes c) ⟨by omega, by omega⟩ O4 G4)
            have RO4 := hid (RO3.out.kept G4 (by
              by_cases hn : vb.ownBlock = none
              · exact .inl hn
              · right
                intro e
                obtain ⟨g, hg⟩ := Option.ne_none_iff_exists'.1 hn
                exact owns_ne2 u1 RO3.out (by decide) g hg (by rw [← e, hg])))
            have pg4 := pg3.kept G4 (by
              right
              intro e
              exact owns_ne2 u1 pg3 (by decide) gp rfl (by rw [← e]; rfl))
            have PX4 := hid (B4.block p (by omega) |>.trans PX3.out)
            have PH4 := hid (B4.block (p + 1) (by omega) |>.trans PH3.out)
            have BR4 := hid (BR3.trans (B4.mono (by omega)))
            have sz4 := B4.size
            obtain ⟨_, _, e8, -, -, -, rw4, -, -⟩ := row_of_owns pg4
            cases e8
            have kc := conv_row (P := Tryz.prog) Tryz.underlying45 Tryz.underlying5 Tryz.underlying9 96 rw4 (pageE_length c)
            clear u0 u1 u2 pg3 pg4 PX3 PH3 BR3 RO3 O4 G4 EO3
            have sz5 : p + 2 ≤ w4.heap.size := by
              have : (w3.alloc (.cells #[.int .i64 (x : Int), .slice (some ⟨gp, 0, none⟩) 96 96] 63)).heap.size = w3.heap.size + 1 := by simp
              omega
            clear sz4
            obtain ⟨st, hst⟩ : ∃ st, strOfNums (pageE c) = st := ⟨_, rfl⟩
            rw [hst] at kc
            have HST := hid hst
            clear hst
            have RO5 := RO4.out.alloc (.cells #[.int .i64 (x : Int), .string st] 88)
            go_wp2_with (at_builtin; refine wpList_append_own (P := Tryz.prog) _ rfl _ _ 34 rfl (p + 2) 88 ir (.agg #[.int .i64 0, .string ⟨#[]⟩]) 2 24 Tryz.underlying34 hir hrz0 hrz1 hrz2 rfl (by decide) vb el.length (refCells el) rfl RO5 ⟨w4.heap.size, 0, none⟩ 1 1 [.int .i64 (x : Int), .string st] rfl rfl (row_new w4 #[.int .i64 (x : Int), .string st] 88).news (fun u hu => by simp at hu; rcases hu with rfl | rfl <;> rfl) ?d3 ?d4 ?d5 ?_)
            case d3 => have := EL.out; simp only [maxLen]; omega
            case d4 => have := EL.out; omega
            case d5 => simp; omega
            intro v6 w6 O6 G6 _
            have LP6 := hid ((EntsOwn.alloc LP.out (.cells #[.int .i64 (x : Int), .string st] 88)).grown G6 RO5)
            have B6 := (Below.refl _ _).grown (B := p + 2) G6 (by simp; omega) (own_base RO5)
            have PX6 := hid ((B6.block p (by omega)).trans (blk_old (.cells #[.int .i64 (x : Int), .string st] 88) PX4.out))
            have PH6 := hid ((B6.block (p + 1) (by omega)).trans (blk_old (.cells #[.int .i64 (x : Int), .string st] 88) PH4.out))
            have BR6 := (BR4.out.alloc (by omega) (.cells #[.int .i64 (x : Int), .string st] 88)).trans (B6.mono (by omega))
            have sz6 : p + 2 ≤ w6.heap.size := by
              have h7 := B6.size
              have : (w4.alloc (.cells #[.int .i64 (x : Int), .string st] 88)).heap.size = w4.heap.size + 1 := by simp
              omega
            have RO6 : Hid (w6.ownsRow (p + 2) 88 2 v6 (el ++ [(((x : Nat) : Int), pageE c)]).length (refCells (el ++ [(((x : Nat) : Int), pageE c)]))) := hid (by
              have e1 : refCells (el ++ [(((x : Nat) : Int), pageE c)]) = refCells el ++ [.int .i64 (x : Int), .string st] := by
                unfold refCells
                rw [List.flatMap_append, ← HST.out]
                rfl
              rw [e1, List.length_append]
              exact O6)
            clear O6 G6 B6 RO5 LP RO4 PX4 PH4 BR4
            go_wp2_with fail
            go_roundw
            case measure => simp [Go.RowKit.intOf]; omega
            case rel =>
              refine ⟨k + 1, v4, v6, _, H', rfl, rfl, by go_num, by omega, by omega, LP6, RO6, hid (fun y hy => ?_), hid (by have := EL.out; simp; omega), PX6, PH6, BR6, sz6⟩
              rcases List.mem_append.1 hy with h | h
              · exact EB.out y h
              · obtain rfl : y = (((x : Nat) : Int), pageE c) := by simpa using h
                exact ⟨by show (0 : Int) ≤ (x : Int); omega, by show (x : Int) ≤ (home : Int); omega⟩)
    · have FIN := hid (show ∃ va' vb' el', (Ending.returned (.tuple #[va, vb]) = Ending.returned (.tuple #[va', vb'])) ∧ EntsOwn wr w.heap.size va' el' ∧ wr.ownsRow w.heap.size 88 2 vb' el'.length (refCells el') ∧ (∀ x ∈ el', 0 ≤ x.1 ∧ x.1 ≤ home) ∧ el'.length ≤ most ∧ Below w.heap.size w wr from
        ⟨va, vb, el, rfl, EO.out.mono (by omega), owns_mono2 RO.out (by omega), EB.out, Nat.le_trans EL.out hk1, by rw [hp]; exact BR⟩)
      by_cases h1 : k < al
      · have h2 : ¬ k < most := by omega
        go_wp2_with fail
        go_ret2
        exact FIN.out
      · go_wp2_with fail
        go_ret2
        exact FIN.out

end Go.Proofs.YtddcggdbnhmoiaaGreat
