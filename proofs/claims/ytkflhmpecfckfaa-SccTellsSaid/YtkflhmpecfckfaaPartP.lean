/- parts: plain -/
import Derived.Test.YtkflhmpecfckfaaLeads
open Go Go.RowKit
namespace Go.Proofs.Ytkflhmpecfckfaa
open Tj

theorem part_le {n : Nat} {E : Nat → List Nat} {p : Nat → Nat} (h : IsPart n E p) {i : Nat} (hi : i < n) : p i ≤ i := (h i hi).2.2 i (.refl _) (.refl _)
theorem part_part {n : Nat} {E : Nat → List Nat} {p : Nat → Nat} (hE : ∀ v, ∀ u ∈ E v, u < n) (h : IsPart n E p) {i : Nat} (hi : i < n) : p (p i) = p i :=
  (h.eq hE (Rch.lt hE hi (h i hi).1) hi).2 ⟨(h i hi).2.1, (h i hi).1⟩


end Go.Proofs.Ytkflhmpecfckfaa
