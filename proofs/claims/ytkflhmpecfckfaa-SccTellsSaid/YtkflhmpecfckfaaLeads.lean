/- lariatlaw20.leads and known -/
import Derived.Test.YtkflhmpecfckfaaLaw20
open Go Go.RowKit
namespace Go.Proofs.Ytkflhmpecfckfaa
open Tj

theorem ints_of_blk {w : World} {b : Nat} {zs : List Int} {t : TypeId} {fr : Nat × Nat} (h : w.heap[b]? = some (.cells (I8 zs).toArray t fr)) (hl : zs.length ≤ 1000000) : IntsAt w (some ⟨b, 0, none⟩) zs.length zs.length zs := by
  refine ⟨⟨fun _ => rfl, fun i v hv => ?_⟩, rfl, (fun h => by cases h), Nat.le_refl _, by simp only [maxLen]; omega⟩
  show w.cell? ⟨b, 0 + i, none⟩ = some v
  rw [Nat.zero_add]
  exact blk_cell h (by simpa using hv)

def kL (v : Nat) : List Int := ([[1], [0], [2]] : List (List Int))[v]?.getD []
theorem known_part {p : Nat → Nat} (h : IsPart 3 (edgeE 3 kL) p) : (List.range 3).map (fun v => (p v : Int)) = [0, 0, 2] := by
  have e0 : edgeE 3 kL 0 = [1] := by decide
  have e1 : edgeE 3 kL 1 = [0] := by decide
  have e2 : edgeE 3 kL 2 = [2] := by decide
  have h0 := (h 0 (by decide)).2.2 0 (.refl _) (.refl _)
  have h1 := (h 1 (by decide)).2.2 0 (.one (by rw [e1]; simp)) (.one (by rw [e0]; simp))
  have h2 := Rch.closed (S := fun v => v = 2) (fun v hv u hu => by subst hv; rw [e2] at hu; simpa using hu) rfl (h 2 (by decide)).1
  simp [List.range, List.range.loop]
  omega

set_option maxRecDepth 100000 in
set_option maxHeartbeats 1000000 in
theorem known20_any (w : World) : Calls Try.prog 4 #[] w fun e w' => e = .returned (.bool true) ∧ Below w.heap.size w w' := by
  obtain ⟨W, hW⟩ : ∃ W, (((w.alloc (.cells #[.int .i64 1] 3)).alloc (.cells #[.int .i64 0] 3)).alloc (.cells #[.int .i64 2] 3)).alloc (.cells #[.slice (some ⟨w.heap.size, 0, none⟩) 1 1, .slice (some ⟨w.heap.size + 1, 0, none⟩) 1 1, .slice (some ⟨w.heap.size + 1 + 1, 0, none⟩) 1 1] 29) = W := ⟨_, rfl⟩
  have b0 : W.heap[w.heap.size]? = some (.cells (I8 [1]).toArray 3 (0, 0)) := hW ▸ blk_old _ (blk_old _ (blk_old _ (blk_new w _)))
  have b1 : W.heap[w.heap.size + 1]? = some (.cells (I8 [0]).toArray 3 (0, 0)) := hW ▸ blk_old _ (blk_old _ (blk_at _ (by simp)))
  have b2 : W.heap[w.heap.size + 1 + 1]? = some (.cells (I8 [2]).toArray 3 (0, 0)) := hW ▸ blk_old _ (blk_at _ (by simp))
  have b3 : W.heap[w.heap.size + 1 + 1 + 1]? = some (.cells #[.slice (some ⟨w.heap.size, 0, none⟩) 1 1, .slice (some ⟨w.heap.size + 1, 0, none⟩) 1 1, .slice (some ⟨w.heap.size + 1 + 1, 0, none⟩) 1 1] 29 (0, 0)) := hW ▸ blk_at _ (by simp)
  have hB : Below w.heap.size w W := hW ▸ (((((Below.refl _ w).alloc (Nat.le_refl _) _).alloc (by simp only [size_alloc]; omega) _).alloc (by simp only [size_alloc]; omega) _).alloc (by simp only [size_alloc]; omega) _)
  have hR : EdgesAt W (some ⟨w.heap.size + 1 + 1 + 1, 0, none⟩) 3 kL := by
    refine ⟨fun _ => rfl, fun v hv => ?_⟩
    rcases v with _ | _ | _ | v
    · exact ⟨_, _, _, blk_cell b3 rfl, ints_of_blk b0 (by decide), by decide⟩
    · exact ⟨_, _, _, blk_cell b3 rfl, ints_of_blk b1 (by decide), by decide⟩
    · exact ⟨_, _, _, blk_cell b3 rfl, ints_of_blk b2 (by decide), by decide⟩
    · omega
  clear b0 b1 b2 b3
  go_enter Try.func4, Try.ntmps4
  go_wp2_with fail
  refine (parts_any _ 3 3 kL W hR (by decide)).mono ?_
  rintro e w1 ⟨gp, p, rfl, hp, IP, hgp, B1⟩
  have hrow := tab_row hp
  rw [known_part IP] at hrow
  go_wp2_with fail
  refine (sameInts_any _ 3 3 [0, 0, 2] _ 3 3 [0, 0, 2] _ (hrow.alloc _) (row_new _ _ _) rfl rfl (by decide)).mono ?_
  rintro e w2 ⟨r, rfl, hr, B2⟩
  obtain rfl : r = true := hr.2 rfl
  go_wp2_with fail
  go_ret
  have := B1.size
  have := hB.size
  exact ⟨rfl, ((hB.trans (B1.mono (by omega))).alloc (by omega) _).trans (B2.mono (by simp; omega))⟩

/-- how many are in -/
def cnt (n : Nat) (f : Nat → Bool) : Nat := ((List.range n).map fun v => if f v = true then 1 else 0).sum
theorem cnt_le (n : Nat) (f : Nat → Bool) : cnt n f ≤ n := by
  have := sum_le_length (l := List.range n) (g := fun v => if f v = true then 1 else 0) (fun v => by split <;> omega)
  simpa [cnt] using this
theorem sum_mono {l : List Nat} {g h : Nat → Nat} (hle : ∀ v, g v ≤ h v) : (l.map g).sum ≤ (l.map h).sum := by
  induction l with
  | nil => simp
  | cons x l ih => simp only [List.map_cons, List.sum_cons]; have := hle x; omega
theorem sum_lt {l : List Nat} {g h : Nat → Nat} (hle : ∀ v, g v ≤ h v) {k : Nat} (hk : k ∈ l) (hlt : g k < h k) : (l.map g).sum < (l.map h).sum := by
  induction l with
  | nil => simp at hk
  | cons x l ih =>
    simp only [List.map_cons, List.sum_cons]
    have h1 := hle x
    rcases List.mem_cons.1 hk with e | e
    · subst e; have := sum_mono (l := l) hle; omega
    · have := ih e; omega
theorem cnt_lt {n : Nat} {f g : Nat → Bool} (h : ∀ v, f v = true → g v = true) {k : Nat} (hk : k < n) (h1 : f k = false) (h2 : g k = true) : cnt n f < cnt n g := by
  refine sum_lt (fun v => ?_) (List.mem_range.2 hk) (by simp [h1, h2])
  by_cases e : f v = true
  · simp [e, h v e]
  · simp [e]

/-- nothing more leads out -/
def Closed (E : Nat → List Nat) (a : Nat) (f : Nat → Bool) : Prop := (∀ t ∈ E a, f t = true) ∧ ∀ v, f v = true → ∀ t ∈ E v, f t = true
def Sound (E : Nat → List Nat) (a : Nat) (f : Nat → Bool) : Prop := ∀ v, f v = true → Lds E a v
/-- within a pass, i nodes gone -/
structure Mid (E : Nat → List Nat) (a : Nat) (f0 f : Nat → Bool) (i : Nat) : Prop where
  sound : Sound E a f
  le : ∀ v, f0 v = true → f v = true
  done : ∀ v, v < i → (v = a ∨ f0 v = true) → ∀ t ∈ E v, f t = true
  still : Closed E a f0 → ∀ v, f v = true → f0 v = true
theorem Mid.start {E : Nat → List Nat} {a : Nat} {f : Nat → Bool} (h : Sound E a f) : Mid E a f f 0 := ⟨h, fun _ h => h, fun v hv => by omega, fun _ _ h => h⟩
theorem Mid.skip {E : Nat → List Nat} {a i : Nat} {f0 f : Nat → Bool} (h : Mid E a f0 f i) (h1 : i ≠ a) (h2 : f i = false) : Mid E a f0 f (i + 1) := by
  refine ⟨h.sound, h.le, fun v hv h3 => ?_, h.still⟩
  by_cases e : v = i
  · subst e
    rcases h3 with h3 | h3
    · exact absurd h3 h1
    · have := h.le _ h3; rw [h2] at this; cases this
  · exact h.done v (by omega) h3
theorem Mid.next {E : Nat → List Nat} {a i : Nat} {f0 f : Nat → Bool} (h : Mid E a f0 f i) (h1 : ∀ t ∈ E i, f t = true) : Mid E a f0 f (i + 1) := by
  refine ⟨h.sound, h.le, fun v hv h3 => ?_, h.still⟩
  by_cases e : v = i
  · subst e; exact h1
  · exact h.done v (by omega) h3
theorem Mid.set {E : Nat → List Nat} {a i t : Nat} {f0 f : Nat → Bool} (h : Mid E a f0 f i) (hi : i = a ∨ f i = true) (ht : t ∈ E i) : Mid E a f0 (upd f t true) i := by
  refine ⟨fun v hv => ?_, fun v hv => ?_, fun v hv h3 u hu => ?_, fun hc v hv => ?_⟩
  · by_cases e : v = t
    · subst e
      rcases hi with e | hi
      · subst e; exact ⟨v, ht, .refl _⟩
      · obtain ⟨b, hb, hr⟩ := h.sound i hi
        exact ⟨b, hb, .step hr ht⟩
    · rw [upd_ne _ _ e] at hv; exact h.sound v hv
  · unfold upd; split
    · rfl
    · exact h.le v hv
  · unfold upd; split
    · rfl
    · exact h.done v hv h3 u hu
  · by_cases e : v = t
    · subst e
      rcases hi with e | hi
      · subst e; exact hc.1 v ht
      · exact hc.2 i (h.still hc i hi) v ht
    · rw [upd_ne _ _ e] at hv; exact h.still hc v hv
/-- between passes -/
def Pass (n : Nat) (E : Nat → List Nat) (a : Nat) (f : Nat → Bool) (r : Nat) : Prop := Sound E a f ∧ (Closed E a f ∨ r ≤ cnt n f)
theorem Pass.next {n a r : Nat} {E : Nat → List Nat} {f0 f : Nat → Bool} (hE : ∀ v, ∀ u ∈ E v, u < n) (ha : a < n) (h0 : Pass n E a f0 r) (h : Mid E a f0 f n) : Pass n E a f (r + 1) := by
  refine ⟨h.sound, ?_⟩
  by_cases hx : ∀ v, v < n → f v = true → f0 v = true
  · left
    refine ⟨h.done a ha (.inl rfl), fun v hv t ht => ?_⟩
    have hvn : v < n := Rch.lt hE ha (h.sound v hv).rch
    exact h.done v hvn (.inr (hx v hvn hv)) t ht
  · right
    rcases h0.2 with hc | hr
    · exact absurd (fun v _ hv => h.still hc v hv) hx
    · have : ∃ v, v < n ∧ f v = true ∧ f0 v = false := by
        apply Classical.byContradiction
        intro hn
        apply hx
        intro v hv hf
        cases e : f0 v with
        | true => rfl
        | false => exact absurd ⟨v, hv, hf, e⟩ hn
      obtain ⟨v, hv, h1, h2⟩ := this
      have := cnt_lt h.le hv h2 h1
      omega
theorem Pass.done {n a : Nat} {E : Nat → List Nat} {f : Nat → Bool} (h : Pass n E a f (n + 1)) (v : Nat) : f v = true ↔ Lds E a v := by
  refine ⟨h.1 v, ?_⟩
  rintro ⟨b, hb, hr⟩
  rcases h.2 with hc | hr'
  · exact Rch.closed (S := fun v => f v = true) hc.2 (hc.1 b hb) hr
  · have := cnt_le n f; omega
theorem mem_edgeE {n v : Nat} {L : Nat → List Int} (hv : v < n) {t : Nat} : t ∈ edgeE n L v ↔ ∃ z ∈ L v, nodeB n z = true ∧ z.toNat = t := by
  unfold edgeE
  rw [if_pos hv, List.mem_map]
  constructor
  · rintro ⟨z, hz, e⟩
    obtain ⟨h1, h2⟩ := List.mem_filter.1 hz
    exact ⟨z, h1, h2, e⟩
  · rintro ⟨z, h1, h2, e⟩
    exact ⟨z, List.mem_filter.2 ⟨h1, h2⟩, e⟩

end Go.Proofs.Ytkflhmpecfckfaa
