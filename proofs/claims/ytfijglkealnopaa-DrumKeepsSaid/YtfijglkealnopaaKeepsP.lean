/- DrumKeeps: the plain law -/
import Derived.Test.YtfijglkealnopaaKnown4
open Go Go.RowKit
namespace Go.Proofs.Ytfijglkealnopaa

/-- the bytes of the lays of track k that are afloat -/
def cs (up : List (Nat × List Int)) (k : Nat) : List Int := (up.filter fun p => p.1 == k).map fun p => p.2.headD 0
theorem cs_push (up : List (Nat × List Int)) (k j : Nat) (y : Int) : cs (up ++ [(j, rep y)]) k = if j = k then cs up k ++ [y] else cs up k := by
  unfold cs
  rw [List.filter_append, List.map_append]
  by_cases h : j = k
  · subst h; simp [rep, List.replicate]
  · simp [h]
/-- ahead of the Settle: what was laid last is what is looked at -/
def Pre (s : DS) (W : Nat → List Int) : Prop := ∀ k, k < s.n → ∃ x, W k = [x] ∧ s.now k = rep x
/-- behind it: what was settled, and what was laid since -/
structure Post (s : DS) (W : Nat → List Int) : Prop where
  kept : ∀ k, k < s.n → ∃ x, W k = x :: cs s.up k ∧ s.kept k = rep x
  up : ∀ p ∈ s.up, ∃ y, p.2 = rep y
theorem Pre.new (n : Nat) : Pre (DS.new n) (fun _ => [0]) := fun k _ => ⟨0, rfl, rfl⟩
theorem Post.new (n : Nat) : Post (DS.new n) (fun _ => [0]) := ⟨fun k _ => ⟨0, rfl, rfl⟩, fun p hp => by cases hp⟩
theorem Pre.lay {s : DS} {W : Nat → List Int} (h : Pre s W) (j : Nat) (y : Int) : Pre (s.lay1 j (rep y)) (upd W j [y]) := by
  intro k hk
  by_cases e : k = j
  · subst e; exact ⟨y, upd_same _ _ _, upd_same _ _ _⟩
  · obtain ⟨x, h1, h2⟩ := h k hk
    exact ⟨x, by rw [upd_ne _ _ e, h1], (upd_ne _ _ e).trans h2⟩
theorem Post.lay {s : DS} {W : Nat → List Int} (h : Post s W) (j : Nat) (y : Int) : Post (s.lay1 j (rep y)) (upd W j (W j ++ [y])) := by
  refine ⟨fun k hk => ?_, fun p hp => ?_⟩
  · obtain ⟨x, h1, h2⟩ := h.kept k hk
    refine ⟨x, ?_, h2⟩
    show upd W j (W j ++ [y]) k = x :: cs (s.up ++ [(j, rep y)]) k
    rw [cs_push]
    by_cases e : k = j
    · subst e; rw [upd_same, if_pos rfl, h1]; rfl
    · rw [upd_ne _ _ e, if_neg (fun h => e h.symm), h1]
  · rcases List.mem_append.1 hp with hp | hp
    · exact h.up p hp
    · simp at hp; subst hp; exact ⟨y, rfl⟩
theorem Pre.settle {s : DS} {W : Nat → List Int} (h : Pre s W) : Post s.settle1 W :=
  ⟨fun k hk => by obtain ⟨x, h1, h2⟩ := h k hk; exact ⟨x, h1, h2⟩, fun p hp => by cases hp⟩

/-- what the law asks of a track behind the fall -/
structure Fine (z : List Int) (W : List Int) : Prop where
  mem : ∀ b ∈ z, b ∈ W
  one : W.length = 1 → ∃ x, z = rep x
  len : z.length = 96
theorem Post.fallTo {s : DS} {W : Nat → List Int} (h : Post s W) (keep : List Int) (torn : Int) (c : Nat) {k : Nat} (hk : k < s.n) : ∀ j, j ≤ s.up.length → Fine (s.fallTo keep torn c j k) (W k) := by
  obtain ⟨x, h1, h2⟩ := h.kept k hk
  intro j
  induction j with
  | zero =>
    intro _
    refine ⟨fun b hb => ?_, fun _ => ⟨x, h2⟩, by show (s.kept k).length = 96; rw [h2, rep_length]⟩
    have hb : b ∈ s.kept k := hb
    rw [h2] at hb
    rw [(List.mem_replicate.1 hb).2, h1]
    exact List.mem_cons_self
  | succ j ih =>
    intro hj
    have ih := ih (by omega)
    show Fine (fallOne keep torn c (s.fallTo keep torn c j) j (s.up[j]?.getD (0, [])) k) (W k)
    have hq : s.up[j]? = some s.up[j] := List.getElem?_eq_getElem (by omega)
    rw [hq]
    obtain ⟨⟨q, zs⟩, hx⟩ : ∃ x, s.up[j] = x := ⟨_, rfl⟩
    have hmem : (q, zs) ∈ s.up := hx ▸ List.getElem_mem _
    rw [hx]
    obtain ⟨y, hy⟩ := h.up _ hmem
    have hy : zs = rep y := hy
    subst hy
    show Fine (fallOne keep torn c (s.fallTo keep torn c j) j (q, rep y) k) (W k)
    unfold fallOne
    by_cases e : k = q
    · subst e
      have hyW : y ∈ cs s.up k := List.mem_map.2 ⟨(k, rep y), List.mem_filter.2 ⟨hmem, by simp⟩, rfl⟩
      have hl : (W k).length ≠ 1 := by
        rw [h1, List.length_cons]
        have := List.length_pos_of_mem hyW
        omega
      have hyW2 : y ∈ W k := by rw [h1]; exact List.mem_cons_of_mem _ hyW
      split
      · show Fine (upd _ k (rep y) k) _
        rw [upd_same]
        exact ⟨fun b hb => by rw [(List.mem_replicate.1 hb).2]; exact hyW2, fun h => absurd h hl, rep_length y⟩
      · split
        · show Fine (upd _ k ((rep y).take c ++ (s.fallTo keep torn c j k).drop c) k) _
          rw [upd_same]
          refine ⟨fun b hb => ?_, fun h => absurd h hl, ?_⟩
          · rcases List.mem_append.1 hb with hb | hb
            · rw [(List.mem_replicate.1 (List.mem_of_mem_take hb)).2]; exact hyW2
            · exact ih.mem b (List.mem_of_mem_drop hb)
          · rw [List.length_append, List.length_take, List.length_drop, rep_length, ih.len]; omega
        · exact ih
    · split
      · show Fine (upd _ q (rep y) k) _
        rw [upd_ne _ _ e]; exact ih
      · split
        · show Fine (upd _ q _ k) _
          rw [upd_ne _ _ e]; exact ih
        · exact ih
theorem Post.fall {s : DS} {W : Nat → List Int} (h : Post s W) (keep : List Int) (torn cut : Int) {k : Nat} (hk : k < s.n) : Fine ((s.fall keep torn cut).now k) (W k) :=
  h.fallTo keep torn (cutOf cut) hk _ (Nat.le_refl _)
theorem Fine.rest {z W : List Int} (h : Fine z W) (h1 : W.length = 1) {i : Nat} (hi : i < 96) : z[i]?.getD 0 = z[0]?.getD 0 := by
  obtain ⟨x, rfl⟩ := h.one h1
  unfold rep
  rw [List.getElem?_replicate, if_pos hi, List.getElem?_replicate, if_pos (by omega)]

end Go.Proofs.Ytfijglkealnopaa
