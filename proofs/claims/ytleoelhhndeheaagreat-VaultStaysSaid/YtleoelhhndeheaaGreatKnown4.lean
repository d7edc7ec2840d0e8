/- lariatlaw4.known; contracts as the laws want them -/
import Derived.Test.YtleoelhhndeheaaGreatDrum8
open Go Go.RowKit
namespace Go.Proofs.YtleoelhhndeheaaGreat

/-- a drum that goes: no break is set, it is not broken -/
structure DS.Up (s : DS) : Prop where
  fuse : s.fuse = none
  broken : s.broken = false
theorem DS.Up.turn {s : DS} (h : s.Up) : s.turn = { s with turns := more s.turns 1 } := by
  unfold DS.turn
  rw [h.fuse, h.broken]
  rfl
theorem DS.Up.goes {s : DS} (h : s.Up) : s.goes = true := by
  unfold DS.goes
  rw [h.turn]
  show (!s.broken) = true
  rw [h.broken]; rfl
theorem DS.Up.code {s : DS} (h : s.Up) : s.code = 0 := by unfold DS.code; rw [h.goes]; rfl
/-- what a Lay and a Settle leave where it goes -/
def DS.lay1 (s : DS) (k : Nat) (zs : List Int) : DS := { s with turns := more s.turns 1, now := upd s.now k zs, up := s.up ++ [(k, zs)] }
def DS.settle1 (s : DS) : DS := { s with turns := more s.turns 1, kept := s.now, up := [] }
theorem DS.Up.lay {s : DS} (h : s.Up) {k : Nat} (hk : k < s.n) {zs : List Int} (hz : zs.length = 96) : s.lay k zs = s.lay1 k zs ∧ s.layCode k zs = 0 := by
  have hf : s.fits k zs = true := by unfold DS.fits; simp; exact ⟨hk, hz⟩
  unfold DS.lay DS.layCode
  rw [hf, h.goes, h.code, h.turn]
  exact ⟨rfl, rfl⟩
theorem DS.Up.settle {s : DS} (h : s.Up) : s.settle = s.settle1 := by
  unfold DS.settle
  rw [h.goes, h.turn]
  rfl
theorem DS.Up.lay1 {s : DS} (h : s.Up) (k : Nat) (zs : List Int) : (s.lay1 k zs).Up := ⟨h.fuse, h.broken⟩
theorem DS.Up.settle1 {s : DS} (h : s.Up) : s.settle1.Up := ⟨h.fuse, h.broken⟩
theorem DS.Up.fall (s : DS) (keep : List Int) (t c : Int) : (s.fall keep t c).Up := ⟨rfl, rfl⟩
theorem DS.Up.new (n : Nat) : (DS.new n).Up := ⟨rfl, rfl⟩

/-- a track of one byte -/
def rep (y : Int) : List Int := List.replicate 96 y
theorem rep_length (y : Int) : (rep y).length = 96 := by simp [rep]
theorem rep_bytes {c : Int} : IsBytes (rep (IntKind.u8.wrap c)) := fun n hn => by
  have := (List.mem_replicate.1 hn).2
  subst this
  have h1 : IntKind.u8.wrap c = c % 256 := by first | rfl | simp [IntKind.wrap]
  rw [h1]
  omega

theorem newn_any (n : Nat) (w : World) (h1 : 10 ≤ n) (h2 : n ≤ 4096) :
    Calls Tryz.prog 36 #[.int .i64 (n : Int)] w fun e w' => ∃ d M, e = .returned (.tuple #[.pointer (some ⟨d, 0, none⟩), .int .i64 0]) ∧ DrumAt w' M d (DS.new n) ∧ (∀ q, M q → w.heap.size ≤ q) ∧ Below w.heap.size w w' := by
  refine (new_any n w).mono ?_
  rintro e w' ⟨h | ⟨-, -, d, M, he, hd, hM⟩, hB⟩
  · exact absurd ⟨by omega, by omega⟩ h.1
  · exact ⟨d, M, he, by simpa using hd, hM, hB⟩

/-- Lay of a track that all made -/
theorem layn_any {w : World} {M : Dom} {d : Nat} {s : DS} (h : DrumAt w M d s) (hu : s.Up) (k : Nat) (hk : k < s.n) (g cb : Nat) (y : Int) (hb : w.heap[g]? = some (.cells (B8 (rep y)).toArray 5 (0, 0))) (hy : IsBytes (rep y)) (hM : ¬ M g) (hl : s.up.length < 1000000000) :
    Calls Tryz.prog 21 #[.pointer (some ⟨d, 0, none⟩), .int .i64 (k : Int), .slice (some ⟨g, 0, none⟩) 96 cb] w fun e w' => e = .returned (.int .i64 0) ∧ ∃ M', DrumAt w' M' d (s.lay1 k (rep y)) ∧ Step M w M' w' := by
  obtain ⟨e1, e2⟩ := hu.lay hk (rep_length y)
  refine (lay_any h k (some ⟨g, 0, none⟩) 96 cb (rep y) (row_blk hb) (rep_length y) hy (fun h => by cases h) (fun _ => hM) hl).mono ?_
  rw [e1, e2]
  exact fun _ _ h => h

theorem looku_any {w : World} {M : Dom} {d : Nat} {s : DS} (h : DrumAt w M d s) (hu : s.Up) (k : Nat) (hk : k < s.n) :
    Calls Tryz.prog 20 #[.pointer (some ⟨d, 0, none⟩), .int .i64 (k : Int)] w fun e w' => ∃ a c, e = .returned (.tuple #[.slice (some a) 96 c, .int .i64 0]) ∧ w'.ownsRow w.heap.size 5 1 (.slice (some a) 96 c) 96 (B8 (s.now k)) ∧ (s.now k).length = 96 ∧ IsBytes (s.now k) ∧ Below w.heap.size w w' := by
  refine (look_any h k).mono ?_
  rintro e w' ⟨h | h | h, hB⟩
  · exact absurd ⟨by omega, by omega⟩ h.1
  · rw [hu.broken] at h; exact absurd h.2.2.1 (by simp)
  · obtain ⟨-, -, -, a, c, he, h1, h2, h3⟩ := h
    exact ⟨a, c, he, by simpa using h1, by simpa using h2, by simpa using h3, hB⟩

theorem DrumAt.ml {w : World} {M : Dom} {d : Nat} {s : DS} (h : DrumAt w M d s) : ∀ q, M q → q < w.heap.size := by
  obtain ⟨p, rfl, h⟩ := h
  exact h.ml
theorem DrumAt.n0 {w : World} {M : Dom} {d : Nat} {s : DS} (h : DrumAt w M d s) : d < w.heap.size := by
  obtain ⟨p, rfl, h⟩ := h
  exact lt_of_blk h.obj

/-- a lay of a track that was just made -/
theorem layall_any {w w1 : World} {M : Dom} {d : Nat} {s : DS} (h : DrumAt w M d s) (hu : s.Up) (k : Nat) (hk : k < s.n) (g : Nat) (c : Int) (hb : w1.heap[g]? = some (.cells (B8 (List.replicate 96 (IntKind.u8.wrap c))).toArray 5 (0, 0))) (hg : w.heap.size ≤ g) (B : Below w.heap.size w w1) (hl : s.up.length < 1000000000) :
    Calls Tryz.prog 21 #[.pointer (some ⟨d, 0, none⟩), .int .i64 (k : Int), .slice (some ⟨g, 0, none⟩) 96 96] w1 fun e w' => e = .returned (.int .i64 0) ∧ ∃ M', DrumAt w' M' d (s.lay1 k (rep (IntKind.u8.wrap c))) ∧ Step M w M' w' :=
  (layn_any (h.below B) hu k hk g 96 _ hb rep_bytes (fun hm => by have := h.ml g hm; omega) hl).mono (fun _ _ ⟨e, M', h1, h2⟩ => ⟨e, M', h1, (Step.of_below B).trans h2⟩)

end Go.Proofs.YtleoelhhndeheaaGreat
