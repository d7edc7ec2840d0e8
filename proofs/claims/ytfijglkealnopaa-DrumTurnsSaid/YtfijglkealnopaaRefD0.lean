/- lariatref3's drum: what it is; set, turn, Break -/
import Derived.Test.YtfijglkealnopaaTornP
import Derived.Lib.ConvBytes
open Go Go.RowKit
namespace Go.Proofs.Ytfijglkealnopaa

/-- the texts of the tracks -/
def strK (K : Nat → List Int) (n : Nat) : List Value := (List.range n).map fun k => .string (strOfNums (K k))
theorem strK_length (K : Nat → List Int) (n : Nat) : (strK K n).length = n := by simp [strK]
theorem strK_get (K : Nat → List Int) {n k : Nat} (h : k < n) : (strK K n)[k]? = some (.string (strOfNums (K k))) := by simp [strK, h]
theorem strK_set (K : Nat → List Int) (n k : Nat) (zs : List Int) : (strK K n).set k (.string (strOfNums zs)) = strK (upd K k zs) n := by
  apply List.ext_getElem (by simp [strK])
  intro i h1 h2
  simp only [strK, List.getElem_set, List.getElem_map, List.getElem_range, upd]
  by_cases e : k = i
  · simp [e]
  · simp [e, Ne.symm e]
theorem strK_one (K : Nat → List Int) (n : Nat) : ∀ u ∈ strK K n, u.oneCell' = true := by
  intro u hu
  obtain ⟨k, _, rfl⟩ := List.mem_map.1 hu
  rfl
/-- the cells of the lays -/
def lainCells (up : List (Nat × List Int)) : List Value := up.flatMap fun p => [.int .i64 (p.1 : Int), .string (strOfNums p.2)]
theorem lainCells_push (up : List (Nat × List Int)) (k : Nat) (zs : List Int) : lainCells (up ++ [(k, zs)]) = lainCells up ++ [.int .i64 (k : Int), .string (strOfNums zs)] := by simp [lainCells]
theorem lainCells_get : ∀ (up : List (Nat × List Int)) (i : Nat) (p : Nat × List Int), up[i]? = some p → (lainCells up)[i * 2]? = some (.int .i64 (p.1 : Int)) ∧ (lainCells up)[i * 2 + 1]? = some (.string (strOfNums p.2))
  | [], i, p, h => by simp at h
  | q :: up, 0, p, h => by simp at h; subst h; simp [lainCells]
  | q :: up, i + 1, p, h => by
    simp only [List.getElem?_cons_succ] at h
    have := lainCells_get up i p h
    simp only [lainCells, List.flatMap_cons, List.cons_append, List.nil_append] at this ⊢
    rw [show (i + 1) * 2 = i * 2 + 1 + 1 by omega, List.getElem?_cons_succ, List.getElem?_cons_succ, List.getElem?_cons_succ, List.getElem?_cons_succ]
    exact this

/-- the reference's drum, said plainly -/
structure RS where
  n : Nat
  K : Nat → List Int
  up : List (Nat × List Int)
  left : Int
  broken : Bool
  turns : Int
/-- where its parts lie -/
structure RP where
  r : Nat
  tb : Nat
  tc : Nat
  av : Value

structure RefP (w : World) (R : Dom) (p : RP) (s : RS) : Prop where
  obj : w.heap[p.r]? = some (.cells #[.slice (some ⟨p.tb, 0, none⟩) s.n p.tc, p.av, .int .i64 s.left, .bool s.broken, .int .i64 s.turns] 49 (0, 0))
  rr : R p.r
  rt : R p.tb
  ra : ∀ q, p.av.ownBlock = some q → R q
  trow : w.ownsRow 0 9 1 (.slice (some ⟨p.tb, 0, none⟩) s.n p.tc) s.n (strK s.K s.n)
  arow : w.ownsRow 0 51 2 p.av s.up.length (lainCells s.up)
  rl : ∀ q, R q → q < w.heap.size
  n0 : 0 < s.n
  n1 : s.n ≤ 1000000
  ul : s.up.length ≤ 1000000
  kl : ∀ k, k < s.n → (s.K k).length = 96 ∧ IsBytes (s.K k)
  upl : ∀ p ∈ s.up, p.1 < s.n ∧ p.2.length = 96 ∧ IsBytes p.2
  l0 : -1 ≤ s.left
  l1 : s.left ≤ 1000000
  t0 : 0 ≤ s.turns
  t1 : s.turns ≤ 1000000
def RefAt (w : World) (R : Dom) (r : Nat) (s : RS) : Prop := ∃ p, p.r = r ∧ RefP w R p s

theorem RefP.cells {w : World} {R : Dom} {p : RP} {s : RS} (h : RefP w R p s) :
    w.cell? ⟨p.r, 0, none⟩ = some (.slice (some ⟨p.tb, 0, none⟩) s.n p.tc) ∧ w.cell? ⟨p.r, 1, none⟩ = some p.av ∧ w.cell? ⟨p.r, 2, none⟩ = some (.int .i64 s.left) ∧ w.cell? ⟨p.r, 3, none⟩ = some (.bool s.broken) ∧ w.cell? ⟨p.r, 4, none⟩ = some (.int .i64 s.turns) :=
  ⟨blk_cell h.obj rfl, blk_cell h.obj rfl, blk_cell h.obj rfl, blk_cell h.obj rfl, blk_cell h.obj rfl⟩
/-- others write -/
theorem RefP.ext {w w' : World} {R : Dom} {p : RP} {s : RS} (h : RefP w R p s) {F : Nat → Prop} (k : Ext F w w') (hF : ∀ q, R q → ¬ F q) : RefP w' R p s :=
  ⟨k.blk (hF _ h.rr) h.obj, h.rr, h.rt, h.ra, k.owns2 (fun g hg => by cases hg; exact hF _ h.rt) h.trow, k.owns2 (fun g hg => hF _ (h.ra g hg)) h.arow, fun q hq => Nat.lt_of_lt_of_le (h.rl q hq) k.size, h.n0, h.n1, h.ul, h.kl, h.upl, h.l0, h.l1, h.t0, h.t1⟩
theorem RefAt.ext {w w' : World} {R : Dom} {r : Nat} {s : RS} (h : RefAt w R r s) {F : Nat → Prop} (k : Ext F w w') (hF : ∀ q, R q → ¬ F q) : RefAt w' R r s := by
  obtain ⟨p, e, h⟩ := h
  exact ⟨p, e, h.ext k hF⟩
theorem RefAt.below {w w' : World} {R : Dom} {r : Nat} {s : RS} (h : RefAt w R r s) (k : Below w.heap.size w w') : RefAt w' R r s := h.ext (Ext.of_below k (fun _ => False)) (fun _ _ => id)
theorem RefAt.rl {w : World} {R : Dom} {r : Nat} {s : RS} (h : RefAt w R r s) : ∀ q, R q → q < w.heap.size := by
  obtain ⟨p, e, h⟩ := h
  exact h.rl
/-- the object alone is written -/
theorem RefP.put {w w' : World} {R : Dom} {p : RP} {s : RS} (h : RefP w R p s) (k : Ext (· = p.r) w w') (s' : RS) (hn : s'.n = s.n) (hK : s'.K = s.K) (hu : s'.up = s.up)
    (ho : w'.heap[p.r]? = some (.cells #[.slice (some ⟨p.tb, 0, none⟩) s'.n p.tc, p.av, .int .i64 s'.left, .bool s'.broken, .int .i64 s'.turns] 49 (0, 0)))
    (l0 : -1 ≤ s'.left) (l1 : s'.left ≤ 1000000) (t0 : 0 ≤ s'.turns) (t1 : s'.turns ≤ 1000000) : RefP w' R p s' := by
  obtain ⟨n', K', up', left', broken', turns'⟩ := s'
  simp only at hn hK hu
  subst hn hK hu
  exact ⟨ho, h.rr, h.rt, h.ra, k.owns2 (fun g hg e => owns_ne h.trow h.obj (by decide) (e ▸ hg)) h.trow, k.owns2 (fun g hg e => owns_ne h.arow h.obj (by decide) (e ▸ hg)) h.arow,
    fun q hq => Nat.lt_of_lt_of_le (h.rl q hq) k.size, h.n0, h.n1, h.ul, h.kl, h.upl, l0, l1, t0, t1⟩

def RS.brk (s : RS) (a : Int) : RS := { s with left := max (-1) a }
theorem rbreak_any {w : World} {R : Dom} {r : Nat} {s : RS} (h : RefAt w R r s) (a : Int) (ha : a ≤ 1000000) :
    Calls Try.prog 22 #[.pointer (some ⟨r, 0, none⟩), .int .i64 a] w fun e w' => e = .returned (.tuple #[]) ∧ RefAt w' R r (s.brk a) ∧ Step R w R w' := by
  obtain ⟨p, rfl, h⟩ := h
  obtain ⟨-, -, c2, -, -⟩ := h.cells
  have fr := blk_free (o := 2) h.obj
  have H := hid h
  obtain ⟨x, hx⟩ : ∃ x, max (-1) a = x := ⟨_, rfl⟩
  have HX := hid hx
  have hx0 : -1 ≤ x := by omega
  have hx1 : x ≤ 1000000 := by omega
  clear h
  go_enter Try.func22, Try.ntmps22
  go_wp2_with fail
  try simp only [Exit.inBlock, Exit.then]
  refine bodyPost_end (results_none rfl _ _ _) rfl ⟨rfl, ⟨p, rfl, H.out.put Ext.set _ rfl rfl rfl ?_ ?_ ?_ H.out.t0 H.out.t1⟩, Step.of_ext Ext.set (fun q hq => by subst hq; exact H.out.rr)⟩
  · have := blk_setCell (o := 2) H.out.obj (.int .i64 x)
    rw [show (s.brk a).left = x from HX.out]
    exact this
  · show -1 ≤ max (-1) a
    omega
  · show max (-1) a ≤ 1000000
    omega

/-- one more turn -/
def RS.turn (s : RS) : RS :=
  if s.broken || s.left == 0 then { s with broken := true } else { s with turns := s.turns + 1, left := max (-1) (s.left - 1) }
def RS.code (s : RS) : Int := if s.broken || s.left == 0 then 4 else 0

end Go.Proofs.Ytfijglkealnopaa
