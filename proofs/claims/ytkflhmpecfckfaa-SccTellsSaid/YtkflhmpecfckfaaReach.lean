/- scc.reached: who is reached from the first nodes -/
import Derived.Test.YtkflhmpecfckfaaLeads
import Derived.Deep.LoopGhost
import Derived.Deep.AppendLies
open Go Go.RowKit
namespace Go.Proofs.Ytkflhmpecfckfaa
open Tj

/-- f is marked, l is to be looked at -/
structure Wk (n m : Nat) (E : Nat → List Nat) (f : Nat → Bool) (l : List Nat) : Prop where
  sound : ∀ v, f v = true → ∃ j, j < m ∧ Rch E j v
  first : ∀ j, j < m → f j = true
  inl : ∀ v ∈ l, f v = true ∧ v < n
  done : ∀ v, f v = true → v ∈ l ∨ ∀ t ∈ E v, f t = true
theorem Wk.start {n m : Nat} {E : Nat → List Nat} (hm : m ≤ n) : Wk n m E (fun v => decide (v < m)) (List.range m).reverse :=
  ⟨fun v hv => ⟨v, by simpa using hv, .refl _⟩, fun j hj => by simpa using hj, fun v hv => by simp at hv ⊢; omega, fun v hv => .inl (by simpa using hv)⟩
theorem Wk.fin {n m : Nat} {E : Nat → List Nat} {f : Nat → Bool} (h : Wk n m E f []) (v : Nat) : f v = true ↔ ∃ j, j < m ∧ Rch E j v := by
  refine ⟨h.sound v, ?_⟩
  rintro ⟨j, hj, hr⟩
  exact Rch.closed (S := fun v => f v = true) (fun v hv u hu => by
    rcases h.done v hv with h1 | h1
    · simp at h1
    · exact h1 u hu) (h.first j hj) hr
/-- within a node's followers, those of d are gone -/
structure Wj (n m : Nat) (E : Nat → List Nat) (f : Nat → Bool) (l : List Nat) (k : Nat) (d : List Nat) : Prop where
  sound : ∀ v, f v = true → ∃ j, j < m ∧ Rch E j v
  first : ∀ j, j < m → f j = true
  inl : ∀ v ∈ l, f v = true ∧ v < n
  done : ∀ v, f v = true → v ∈ l ∨ v = k ∨ ∀ t ∈ E v, f t = true
  now : ∀ t ∈ d, f t = true
  me : f k = true
theorem Wk.pop {n m k : Nat} {E : Nat → List Nat} {f : Nat → Bool} {l : List Nat} (h : Wk n m E f (k :: l)) : Wj n m E f l k [] :=
  ⟨h.sound, h.first, fun v hv => h.inl v (List.mem_cons_of_mem _ hv), fun v hv => by
    rcases h.done v hv with h1 | h1
    · rcases List.mem_cons.1 h1 with h2 | h2
      · exact .inr (.inl h2)
      · exact .inl h2
    · exact .inr (.inr h1), by simp, (h.inl k (by simp)).1⟩
theorem Wj.old {n m k t : Nat} {E : Nat → List Nat} {f : Nat → Bool} {l d : List Nat} (h : Wj n m E f l k d) (ht : f t = true) : Wj n m E f l k (d ++ [t]) :=
  ⟨h.sound, h.first, h.inl, h.done, fun u hu => by
    rcases List.mem_append.1 hu with h1 | h1
    · exact h.now u h1
    · simp at h1; rw [h1]; exact ht, h.me⟩
theorem upd_true {f : Nat → Bool} {t v : Nat} (h : f v = true) : upd f t true v = true := by unfold upd; split <;> simp [h]
theorem Wj.new {n m k t : Nat} {E : Nat → List Nat} {f : Nat → Bool} {l d : List Nat} (h : Wj n m E f l k d) (ht : t ∈ E k) (hn : t < n) : Wj n m E (upd f t true) (t :: l) k (d ++ [t]) := by
  refine ⟨fun v hv => ?_, fun j hj => upd_true (h.first j hj), fun v hv => ?_, fun v hv => ?_, fun u hu => ?_, upd_true h.me⟩
  · by_cases e : v = t
    · subst e
      obtain ⟨j, hj, hr⟩ := h.sound k h.me
      exact ⟨j, hj, .step hr ht⟩
    · rw [upd_ne _ _ e] at hv; exact h.sound v hv
  · rcases List.mem_cons.1 hv with e | hv
    · subst e; exact ⟨upd_same _ _ _, hn⟩
    · exact ⟨upd_true (h.inl v hv).1, (h.inl v hv).2⟩
  · by_cases e : v = t
    · exact .inl (by simp [e])
    · rw [upd_ne _ _ e] at hv
      rcases h.done v hv with h1 | h1 | h1
      · exact .inl (List.mem_cons_of_mem _ h1)
      · exact .inr (.inl h1)
      · exact .inr (.inr fun u hu => upd_true (h1 u hu))
  · rcases List.mem_append.1 hu with h1 | h1
    · exact upd_true (h.now u h1)
    · simp at h1; rw [h1]; exact upd_same _ _ _
theorem Wj.close {n m k : Nat} {E : Nat → List Nat} {f : Nat → Bool} {l : List Nat} (h : Wj n m E f l k (E k)) : Wk n m E f l :=
  ⟨h.sound, h.first, h.inl, fun v hv => by
    rcases h.done v hv with h1 | h1 | h1
    · exact .inl h1
    · subst h1; exact .inr h.now
    · exact .inr h1⟩
/-- what is still to do -/
def wkw (n : Nat) (f : Nat → Bool) (l : List Nat) : Nat := 2 * (n - cnt n f) + l.length
theorem wkw_new {n t : Nat} {f : Nat → Bool} {l : List Nat} (ht : t < n) (h : f t = false) : wkw n (upd f t true) (t :: l) < wkw n f l := by
  have h1 : cnt n f < cnt n (upd f t true) := cnt_lt (fun v hv => upd_true hv) ht h (upd_same _ _ _)
  have h2 := cnt_le n (upd f t true)
  unfold wkw
  simp only [List.length_cons]
  omega

end Go.Proofs.Ytkflhmpecfckfaa
