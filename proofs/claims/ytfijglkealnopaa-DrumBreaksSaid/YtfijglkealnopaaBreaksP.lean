/- DrumBreaks: the plain law -/
import Derived.Test.YtfijglkealnopaaTornP
open Go Go.RowKit
namespace Go.Proofs.Ytfijglkealnopaa

/-- behind so many tries, of which the first so many go well -/
structure Brk (s : DS) (i a : Nat) : Prop where
  n : s.n = 14
  fuse : s.fuse = some ((a - min i a : Nat) : Int)
  broken : s.broken = decide (a < i)
  turns : s.turns = 2 + (min i a : Nat)
  kept : s.kept 0 = rep 7
  now : s.now 0 = rep 7
  up : s.up.length ≤ i
theorem more_one {x : Int} (h : x ≤ 1000) (h0 : 0 ≤ x) : more x 1 = x + 1 := by unfold more; omega
theorem Brk.goes {s : DS} {i a : Nat} (h : Brk s i a) (ha : a ≤ 14) :
    s.goes = decide (i < a) ∧ s.turn = { s with fuse := some ((a - min (i + 1) a : Nat) : Int), broken := decide (a < i + 1), turns := 2 + (min (i + 1) a : Nat) } := by
  obtain ⟨n, kept, now, up, fuse, broken, turns⟩ := s
  have h1 := h.fuse
  have h2 := h.broken
  have h3 := h.turns
  simp only at h1 h2 h3
  subst h1
  subst h2
  subst h3
  unfold DS.goes
  by_cases hi : i < a
  · have e1 : decide (a < i) = false := by simp; omega
    have e2 : decide (i < a) = true := by simp; omega
    have e3 : decide (a < i + 1) = false := by simp; omega
    have e4 : ((a - min i a : Nat) : Int) = ((a - min (i + 1) a + 1 : Nat) : Int) := by omega
    have e5 : more (2 + ((min i a : Nat) : Int)) 1 = 2 + ((min (i + 1) a : Nat) : Int) := by rw [more_one (by omega) (by omega)]; omega
    rw [e1, e2, e3, e4]
    have ht : DS.turn ⟨n, kept, now, up, some ((a - min (i + 1) a + 1 : Nat) : Int), false, 2 + (min i a : Nat)⟩ = ⟨n, kept, now, up, some ((a - min (i + 1) a : Nat) : Int), false, 2 + (min (i + 1) a : Nat)⟩ := by
      unfold DS.turn
      split
      · rename_i h; simp at h; omega
      · rename_i x _ h
        simp at h
        subst h
        rw [← e5]
        simp
      · rename_i h; simp at h
    rw [ht]
    exact ⟨rfl, rfl⟩
  · have e2 : decide (i < a) = false := by simp; omega
    have e3 : decide (a < i + 1) = true := by simp; omega
    have e4 : a - min i a = 0 := by omega
    have e5 : a - min (i + 1) a = 0 := by omega
    have e6 : min (i + 1) a = min i a := by omega
    rw [e2, e3, e4, e5, e6]
    exact ⟨rfl, rfl⟩
theorem Brk.turn {s : DS} {i a : Nat} (h : Brk s i a) (ha : a ≤ 14) : Brk s.turn (i + 1) a := by
  rw [(h.goes ha).2]
  exact ⟨h.n, rfl, rfl, rfl, h.kept, h.now, Nat.le_succ_of_le h.up⟩
theorem Brk.code {s : DS} {i a : Nat} (h : Brk s i a) (ha : a ≤ 14) : s.code = if i < a then 0 else 4 := by
  unfold DS.code
  rw [(h.goes ha).1]
  by_cases hi : i < a
  · rw [if_pos hi, if_pos (by simpa using hi)]
  · rw [if_neg hi, if_neg (by simpa using hi)]
theorem Brk.lay {s : DS} {i a : Nat} (h : Brk s i a) (ha : a ≤ 14) {k : Nat} (hk : k < 14) (hk0 : k ≠ 0) {zs : List Int} (hz : zs.length = 96) : Brk (s.lay k zs) (i + 1) a ∧ s.layCode k zs = s.code := by
  have hf : s.fits k zs = true := by unfold DS.fits; rw [h.n]; simp; exact ⟨by omega, hz⟩
  unfold DS.lay DS.layCode
  rw [hf]
  refine ⟨?_, rfl⟩
  have ht := h.turn ha
  rw [if_pos rfl]
  split
  · refine ⟨ht.n, ht.fuse, ht.broken, ht.turns, ht.kept, ?_, ?_⟩
    · show upd s.turn.now k zs 0 = _
      rw [upd_ne _ _ (Ne.symm hk0)]
      exact ht.now
    · show (s.turn.up ++ [_]).length ≤ _
      rw [(turn_parts s).2.2.2, List.length_append]
      have := h.up
      simp; omega
  · exact ht
theorem Brk.settle {s : DS} {i a : Nat} (h : Brk s i a) (ha : a ≤ 14) : Brk s.settle (i + 1) a := by
  have ht := h.turn ha
  unfold DS.settle
  split
  · exact ⟨ht.n, ht.fuse, ht.broken, ht.turns, h.now, ht.now, Nat.zero_le _⟩
  · exact ht
theorem Brk.start (a : Nat) (ha : a ≤ 14) : Brk ((((DS.new 14).lay1 0 (rep 7)).settle1).brk a) 0 a := by
  refine ⟨rfl, ?_, ?_, rfl, ?_, ?_, Nat.zero_le _⟩
  · show (if (0 : Int) ≤ (a : Int) then some (clip a) else none) = _
    rw [if_pos (by omega)]
    congr 1
    unfold clip
    omega
  · show false = _
    simp
  · show upd (fun _ => zeros96) 0 (rep 7) 0 = _
    exact upd_same _ _ _
  · show upd (fun _ => zeros96) 0 (rep 7) 0 = _
    exact upd_same _ _ _

end Go.Proofs.Ytfijglkealnopaa
