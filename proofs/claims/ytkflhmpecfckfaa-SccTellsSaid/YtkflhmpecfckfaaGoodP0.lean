/- what Good tells: plain -/
import Derived.Test.YtkflhmpecfckfaaGoodW
import Derived.Test.YtkflhmpecfckfaaPartP
open Go Go.RowKit
namespace Go.Proofs.Ytkflhmpecfckfaa
open Tj

/-- what is wanted of node k -/
def Want (E : Nat → List Nat) (p : Nat → Nat) (rs o : Nat → Bool) (m i k : Nat) : Prop := p k = i ∧ rs k = true ∧ o k = true ∧ ∃ j, j < m ∧ (j = k ∨ Lds E j k)
theorem mem_goodL {p : Nat → Nat} {b rs f : Nat → Bool} {n : Nat} {x : Int} : x ∈ goodL p b rs f n ↔ ∃ k, k < n ∧ b k = true ∧ rs k = true ∧ f k = true ∧ (p k : Int) = x := by
  unfold goodL
  rw [List.mem_map]
  constructor
  · rintro ⟨k, hk, e⟩
    obtain ⟨h1, h2⟩ := List.mem_filter.1 hk
    simp at h2
    exact ⟨k, List.mem_range.1 h1, h2.1.1, h2.1.2, h2.2, e⟩
  · rintro ⟨k, h1, h2, h3, h4, e⟩
    exact ⟨k, List.mem_filter.2 ⟨List.mem_range.2 h1, by simp [h2, h3, h4]⟩, e⟩
theorem rch_iff {E : Nat → List Nat} {j k : Nat} : Rch E j k ↔ (j = k ∨ Lds E j k) := by
  constructor
  · exact fun h => h.cases
  · rintro (rfl | h)
    · exact .refl _
    · exact h.rch
/-- what Good tells, said as the statement says it -/
theorem good_iff {n m m' : Nat} {E : Nat → List Nat} {p pa : Nat → Nat} {rs rs' o ba fa : Nat → Bool} (hm : m ≤ m') (hp : IsPart n E p) (hpa : IsPart n E pa) (ho : ∀ i, i < n → (o i = true ↔ Lds E i i)) (hba : ∀ i, i < n → (ba i = true ↔ Lds E i i))
    (hfa : ∀ v, fa v = true ↔ ∃ j, j < m' ∧ Rch E j v) (hrs : ∀ k, rs k = true → rs' k = true) {i : Nat} (h : ∃ k, k < n ∧ Want E p rs o m i k) : (i : Int) ∈ goodL pa ba rs' fa n := by
  obtain ⟨k, hk, h1, h2, h3, j, hj, h4⟩ := h
  refine mem_goodL.2 ⟨k, hk, (hba k hk).2 ((ho k hk).1 h3), hrs k h2, (hfa k).2 ⟨j, by omega, rch_iff.2 h4⟩, ?_⟩
  rw [← hp.unique hpa k hk, h1]
theorem good_back {n m : Nat} {E : Nat → List Nat} {p pa : Nat → Nat} {rs o ba fa : Nat → Bool} (hp : IsPart n E p) (hpa : IsPart n E pa) (ho : ∀ i, i < n → (o i = true ↔ Lds E i i)) (hba : ∀ i, i < n → (ba i = true ↔ Lds E i i))
    (hfa : ∀ v, fa v = true ↔ ∃ j, j < m ∧ Rch E j v) {i : Nat} (h : (i : Int) ∈ goodL pa ba rs fa n) : ∃ k, k < n ∧ Want E p rs o m i k := by
  obtain ⟨k, hk, h1, h2, h3, h4⟩ := mem_goodL.1 h
  obtain ⟨j, hj, h5⟩ := (hfa k).1 h3
  refine ⟨k, hk, ?_, h2, (ho k hk).2 ((hba k hk).1 h1), j, hj, rch_iff.1 h5⟩
  rw [hp.unique hpa k hk]
  omega

end Go.Proofs.Ytkflhmpecfckfaa
