/- Look, of both drums, in one form -/
import Derived.Test.YtfijglkealnopaaDuo
open Go Go.RowKit
namespace Go.Proofs.Ytfijglkealnopaa

def DS.lookZ (s : DS) (k : Int) : List Int := if 0 ≤ k ∧ k < s.n ∧ s.broken = false then s.now k.toNat else []
def DS.lookC (s : DS) (k : Int) : Int := if 0 ≤ k ∧ k < s.n then (if s.broken then 4 else 0) else 1

theorem look2_any {w : World} {M : Dom} {d : Nat} {s : DS} (h : DrumAt w M d s) (k : Int) :
    Calls Try.prog 15 #[.pointer (some ⟨d, 0, none⟩), .int .i64 k] w fun e w' => ∃ a c, e = .returned (.tuple #[.slice a (s.lookZ k).length c, .int .i64 (s.lookC k)]) ∧ w'.ownsRow w.heap.size 5 1 (.slice a (s.lookZ k).length c) (s.lookZ k).length (B8 (s.lookZ k)) ∧ Below w.heap.size w w' := by
  refine (look_any h k).mono ?_
  rintro e w' ⟨h | h | h, hB⟩
  · have e1 : s.lookZ k = [] := by unfold DS.lookZ; rw [if_neg (fun x => h.1 ⟨x.1, x.2.1⟩)]
    have e2 : s.lookC k = 1 := by unfold DS.lookC; rw [if_neg h.1]
    rw [e1, e2]
    exact ⟨none, 0, h.2, World.ownsRow_nil _ _ _ _, hB⟩
  · obtain ⟨h1, h2, h3, h4⟩ := h
    have e1 : s.lookZ k = [] := by unfold DS.lookZ; rw [if_neg (fun x => by rw [h3] at x; exact absurd x.2.2 (by simp))]
    have e2 : s.lookC k = 4 := by unfold DS.lookC; rw [if_pos ⟨h1, h2⟩, h3]; rfl
    rw [e1, e2]
    exact ⟨none, 0, h4, World.ownsRow_nil _ _ _ _, hB⟩
  · obtain ⟨h1, h2, h3, a, c, h4, h5, h6, -⟩ := h
    have e1 : s.lookZ k = s.now k.toNat := by unfold DS.lookZ; rw [if_pos ⟨h1, h2, h3⟩]
    have e2 : s.lookC k = 0 := by unfold DS.lookC; rw [if_pos ⟨h1, h2⟩, h3]; rfl
    rw [e1, e2, h6]
    exact ⟨some a, c, h4, h5, hB⟩
theorem rlook2_any {w : World} {R : Dom} {r : Nat} {s : DS} {t : RS} (h : RefAt w R r t) (ag : Agree s t) (hl : ∀ k, k < s.n → (s.now k).length = 96) (k : Int) :
    Calls Try.prog 26 #[.pointer (some ⟨r, 0, none⟩), .int .i64 k] w fun e w' => ∃ a c, e = .returned (.tuple #[.slice a (s.lookZ k).length c, .int .i64 (s.lookC k)]) ∧ Row w' a (B8 (s.lookZ k)) ∧ Below w.heap.size w w' := by
  refine (rlook_any h k).mono ?_
  rintro e w' ⟨h, hB⟩
  unfold RLook at h
  rw [ag.n, ag.broken] at h
  rcases h with h | h | h
  · have e1 : s.lookZ k = [] := by unfold DS.lookZ; rw [if_neg (fun x => h.1 ⟨x.1, x.2.1⟩)]
    have e2 : s.lookC k = 1 := by unfold DS.lookC; rw [if_neg h.1]
    rw [e1, e2]
    exact ⟨none, 0, h.2, Row.nil _ _, hB⟩
  · obtain ⟨h1, h2, h3, h4⟩ := h
    have e1 : s.lookZ k = [] := by unfold DS.lookZ; rw [if_neg (fun x => by rw [h3] at x; exact absurd x.2.2 (by simp))]
    have e2 : s.lookC k = 4 := by unfold DS.lookC; rw [if_pos ⟨h1, h2⟩, h3]; rfl
    rw [e1, e2]
    exact ⟨none, 0, h4, Row.nil _ _, hB⟩
  · obtain ⟨h1, h2, h3, a, c, h4, h5⟩ := h
    have hk : k.toNat < s.n := by omega
    have e1 : s.lookZ k = s.now k.toNat := by unfold DS.lookZ; rw [if_pos ⟨h1, h2, h3⟩]
    have e2 : s.lookC k = 0 := by unfold DS.lookC; rw [if_pos ⟨h1, h2⟩, h3]; rfl
    rw [e1, e2, hl _ hk, ag.now _ hk]
    exact ⟨some a, c, h4, h5, hB⟩
theorem DrumAt.wfn {w : World} {M : Dom} {d : Nat} {s : DS} (h : DrumAt w M d s) : ∀ k, k < s.n → (s.now k).length = 96 := by
  obtain ⟨p, _, h⟩ := h
  intro k hk
  obtain ⟨hs, _, h2⟩ := h.now.row
  obtain ⟨v, _, h4⟩ := h2 k hk
  exact h4.len

theorem lookZ_len {w : World} {M : Dom} {d : Nat} {s : DS} (h : DrumAt w M d s) (k : Int) : (s.lookZ k).length ≤ 96 := by
  unfold DS.lookZ
  split
  · rename_i hk
    rw [h.wfn k.toNat (by omega)]
    exact Nat.le_refl _
  · exact Nat.zero_le _

end Go.Proofs.Ytfijglkealnopaa
