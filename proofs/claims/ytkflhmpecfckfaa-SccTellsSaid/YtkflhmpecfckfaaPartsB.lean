/- lariatref13.Parts: the second phase, plain -/
import Derived.Test.YtkflhmpecfckfaaPartsA
open Go Go.RowKit
namespace Go.Proofs.Ytkflhmpecfckfaa
open Tj

def asg (pt : Nat → Int) (v : Nat) : Bool := decide (pt v ≠ -1)
theorem asg_upd (pt : Nat → Int) (u : Nat) {x : Int} (hx : x ≠ -1) : asg (upd pt u x) = upd (asg pt) u true := by
  funext v
  unfold asg upd
  by_cases e : v = u <;> simp [e, hx]
theorem asg_no {pt : Nat → Int} {u : Nat} (h : pt u = -1) : asg pt u = false := by simp [asg, h]
theorem K2.nat {N i : Nat} {E : Nat → List Nat} {left : List Nat} {pt : Nat → Int} {ls : Nat → Nat} (h : K2 N E left i pt ls) {v : Nat} (hv : v < N) (hp : pt v ≠ -1) : ∃ f : Nat, pt v = f ∧ f < N := by
  obtain ⟨f, h1, h2, _⟩ := h.o1 v hv hp
  exact ⟨f, h1, h2⟩
theorem K3.nat {N i f : Nat} {E : Nat → List Nat} {left : List Nat} {pt0 pt : Nat → Int} {ls0 ls : Nat → Nat} {td : List Nat} {cur : Option (Nat × List Nat)} (h : K3 N E left i f pt0 ls0 pt ls td cur) {v : Nat} (hv : v < N) (hp : pt v ≠ -1) : ∃ x : Nat, pt v = x := by
  rcases h.cs v hv with h1 | h1
  · rw [h1] at hp ⊢
    obtain ⟨x, h2, _⟩ := K2.nat h.base hv hp
    exact ⟨x, h2⟩
  · exact ⟨f, h1.1⟩
theorem tab_congr {n : Nat} {p q : Nat → Nat} (h : ∀ v, v < n → p v = q v) : tab n p = tab n q := by
  unfold tab
  exact List.map_congr_left fun v hv => by rw [h v (List.mem_range.1 hv)]
theorem tabZ_congr {n : Nat} {p q : Nat → Int} (h : ∀ v, v < n → p v = q v) : tabZ n p = tabZ n q := by
  unfold tabZ
  exact List.map_congr_left fun v hv => by rw [h v (List.mem_range.1 hv)]
theorem tabZ_zero (n : Nat) : tabZ n (fun v => if v < 0 then -1 else 0) = tab n fun _ => 0 := by
  unfold tabZ tab
  exact List.map_congr_left fun v _ => by simp
theorem upd_neg (i : Nat) : upd (fun v : Nat => if v < i then (-1 : Int) else 0) i (-1) = fun v => if v < i + 1 then -1 else 0 := by
  funext v
  unfold upd
  by_cases e : v = i
  · simp [e]
  · by_cases h : v < i
    · simp [e, h, show v < i + 1 by omega]
    · simp [e, h, show ¬ v < i + 1 by omega]
theorem upd_out (p : Nat → Nat) (i : Nat) : upd (fun v : Nat => if v < i then p v else 0) i (p i) = fun v => if v < i + 1 then p v else 0 := by
  funext v
  unfold upd
  by_cases e : v = i
  · simp [e]
  · by_cases h : v < i
    · simp [e, h, show v < i + 1 by omega]
    · simp [e, h, show ¬ v < i + 1 by omega]
theorem ints_owns {w : World} {B n : Nat} {v : Value} {zs : List Int} (h : w.ownsRow B 3 1 v n (I8 zs)) : ∃ a c, v = .slice a n c ∧ IntsAt w a n c zs ∧ (0 < n → B ≤ sB a ∧ sB a < w.heap.size) := by
  have hc := h
  obtain ⟨a, c, rfl, h3, h4, h5, h6, h8, h7⟩ := row_of_owns h
  exact ⟨a, c, rfl, ⟨h6, by simpa [I8] using h3, owns_cap hc, h4, h5⟩, h8⟩
theorem Turn.node {n k : Nat} {L RR : Nat → List Int} (T : Turn n L RR n []) (hk : k < n) {z : Int} (hz : z ∈ RR k) : ∃ u : Nat, z = u ∧ u < n ∧ k ∈ edgeE n L u := by
  obtain ⟨u, h1, h2 | h2⟩ := (T.mem k hk z).1 hz
  · exact ⟨u, h1, h2.1, h2.2⟩
  · obtain ⟨_, y, hy, _⟩ := h2
    cases hy
theorem Turn.all {n k : Nat} {L RR : Nat → List Int} (T : Turn n L RR n []) (hk : k < n) {u : Nat} (hu : u < n) (hE : k ∈ edgeE n L u) : u ∈ (RR k).map Int.toNat :=
  List.mem_map.2 ⟨(u : Int), (T.mem k hk _).2 ⟨u, rfl, .inl ⟨hu, hE⟩⟩, by simp⟩
theorem wkw_pop {n k : Nat} {f : Nat → Bool} {td : List Nat} : wkw n f td < wkw n f (td ++ [k]) := by unfold wkw; simp
theorem wkw_push {n t : Nat} {f : Nat → Bool} {td : List Nat} (ht : t < n) (h : f t = false) : wkw n (upd f t true) (td ++ [t]) < wkw n f td := by
  have := wkw_new (l := td) ht h
  unfold wkw at this ⊢
  simp at this ⊢
  omega
theorem wkw_len {n : Nat} {f : Nat → Bool} {td : List Nat} : td.length ≤ wkw n f td := by unfold wkw; omega
theorem wkw_one {n t : Nat} {f : Nat → Bool} : wkw n f [t] ≤ 2 * n + 1 := by unfold wkw; simp; omega
/-- the last of a row -/
theorem last_cell {w : World} {b0 g c k : Nat} {td : List Nat} (h : w.ownsRow b0 3 1 (.slice (some ⟨g, 0, none⟩) (td.length + 1) c) (td.length + 1) (I8 ((td ++ [k]).map Int.ofNat))) : w.cell? ⟨g, td.length, none⟩ = some (.int .i64 (k : Int)) := by
  rw [h.cellAt td.length (by omega), I8_get (by simp)]
  simp
theorem last_take {w : World} {b0 g c k : Nat} {td : List Nat} (h : w.ownsRow b0 3 1 (.slice (some ⟨g, 0, none⟩) (td.length + 1) c) (td.length + 1) (I8 ((td ++ [k]).map Int.ofNat))) : w.ownsRow b0 3 1 (.slice (some ⟨g, 0, none⟩) td.length c) td.length (I8 (td.map Int.ofNat)) := by
  have h2 := owns_take h (r := td.length) (by omega)
  have e : (I8 ((td ++ [k]).map Int.ofNat)).take td.length = I8 (td.map Int.ofNat) := by
    rw [I8, I8, ← List.map_take, List.map_append, List.take_left' (by simp)]
  rw [e] at h2
  exact h2

end Go.Proofs.Ytkflhmpecfckfaa
