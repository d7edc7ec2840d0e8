/- the laws of chapter 3: known -/
import Derived.Test.YtjoghgnkdegeoaaSealClose
import Derived.Test.YtjoghgnkdegeoaaStr
open Go Go.RowKit
namespace Go.Proofs.Ytjoghgnkdegeoaa

theorem closed_take {zs : List Int} (h : zs.length ≤ 84) : (closed zs).take 84 = padded zs := by
  have := padded_length h
  unfold closed
  rw [List.append_assoc, List.take_append_of_le_length (by omega), List.take_of_length_le (by omega)]
theorem padded_padded {zs : List Int} (h : zs.length ≤ 84) : padded (padded zs) = padded zs := by
  have := padded_length h
  have e : padded (padded zs) = padded zs ++ List.replicate (84 - (padded zs).length) 0 := rfl
  rw [e, this]; simp
theorem closed_padded {zs : List Int} (h : zs.length ≤ 84) : closed (padded zs) = closed zs := by
  unfold closed; rw [padded_padded h]
theorem closed_opens {zs : List Int} (h : zs.length ≤ 84) : closed ((closed zs).take 84) = closed zs := by rw [closed_take h, closed_padded h]

theorem ab_bytes : IsBytes [97, 98] := by intro n hn; simp at hn; omega
theorem eight_bytes : IsBytes [0, 0, 0, 1, 0, 0, 0, 2] := by intro n hn; simp at hn; omega
theorem eight_sums : sums [0, 0, 0, 1, 0, 0, 0, 2] = (3, 5) := by
  simp [sums, sm, wd, pw, zb, wrap64]

set_option maxRecDepth 100000 in
set_option maxHeartbeats 4000000 in
theorem known3_any (w : World) : Calls Try.prog 8 #[] w fun e w' => e = .returned (.bool true) ∧ Below w.heap.size w w' := by
  have kc := fun (w : World) (C : Array Value) (n c : Nat) => Lib.run_convert_bytes_const (P := Try.prog) w 25 5 C n c Try.underlying25 Try.underlying5
  go_enter Try.func8, Try.ntmps8
  go_wp2_with fail
  refine (sums_any _ 8 8 [0, 0, 0, 1, 0, 0, 0, 2] _ (row_new w #[_, _, _, _, _, _, _, _] _) rfl (by decide) eight_bytes).mono ?_
  rw [eight_sums]
  rintro e w1 ⟨rfl, hw⟩
  have B1 : Below w.heap.size w w1 := hw ▸ ((Below.refl _ _).alloc (Nat.le_refl _) _)
  have s1 := B1.size
  clear hw
  go_wp2_with fail
  refine (close_any _ 2 2 [97, 98] _ (row_new_mark w1 #[_, _] _ _) rfl (fun h => by cases h) (by decide) ab_bytes).mono ?_
  rintro e w2 ⟨v2, rfl, o2, B2⟩
  obtain ⟨a2, c2, rfl, hl2, hc2, hm2, r2, d2, n2⟩ := row_of_owns o2
  have B2' : Below w.heap.size w w2 := (B1.alloc s1 _).trans (B2.mono (by simp; omega))
  have s2 := B2'.size
  unfold maxLen at hm2
  clear B1 B2 o2
  go_wp2_with fail
  refine (open_yes a2 c2 (closed [97, 98]) w2 r2 (closed_length (by decide)) hc2 (by omega) (closed_bytes ab_bytes) (closed_opens (by decide))).mono ?_
  rw [closed_take (by decide)]
  rintro e w3 ⟨v3, rfl, o3, B3⟩
  obtain ⟨a3, c3, rfl, hl3, hc3, hm3, r3, d3, n3⟩ := row_of_owns o3
  have B3' : Below w.heap.size w w3 := B2'.trans (B3.mono s2)
  unfold maxLen at hm3
  have hpre : (padded [97, 98]).take 3 = [97, 98, 0] := rfl
  have r3' : Row w3 a3 (B8 [97, 98, 0]) := by rw [← hpre, B8, List.map_take]; exact r3.take 3
  have hcv := conv_row (P := Try.prog) Try.underlying25 Try.underlying5 Try.underlying9 c3 r3' (len := 3) rfl
  have hs : strOfNums [97, 98, 0] = { data := #[97, 98, 0] } := rfl
  rw [hs] at hcv
  clear hs r3' hpre B3 o3
  cases a3 with
  | none => have := n3 rfl; omega
  | some x =>
    go_wp2_with fail
    go_ret
    exact ⟨rfl, B3'⟩

end Go.Proofs.Ytjoghgnkdegeoaa
