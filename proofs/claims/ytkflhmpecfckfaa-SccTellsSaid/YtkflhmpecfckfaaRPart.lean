/- lariatref13.Parts: its rows; edges as they stand in the rows -/
import Derived.Test.YtkflhmpecfckfaaRndW
import Derived.Test.YtkflhmpecfckfaaReachW
import Derived.Test.YtkflhmpecfckfaaKos
open Go Go.RowKit
namespace Go.Proofs.Ytkflhmpecfckfaa
open Tj

theorem grown_keep {w w6 : World} {o : Obj} {b0 m : Nat} {v u : Value} {ys : List Value} (G : (w.alloc o).grownBy w6 v.ownBlock) (hu : w.ownsRow b0 3 1 u m ys) (hne : ∀ b, v.ownBlock = some b → u.ownBlock ≠ some b) : w6.ownsRow b0 3 1 u m ys :=
  (Ext.of_grown G).owns2 (fun g hg hf => hne g hf hg) (hu.alloc o)
theorem grown_apart {w : World} {b0 m g' : Nat} {v u : Value} {ys : List Value} (hat : v.ownBlock = some g' ∨ g' = w.heap.size + 1) (hu : w.ownsRow b0 3 1 u m ys) (hne : ∀ b, v.ownBlock = some b → u.ownBlock ≠ some b) : u.ownBlock ≠ some g' := fun e => by
  rcases hat with h | h
  · exact hne g' h e
  · have := (hu.lt g' e).2
    omega
/-- three rows of one's own: who was left, the way, how many edges are gone -/
structure R3 (w : World) (b0 : Nat) (vl vw vg : Value) (left wn gn : List Nat) : Prop where
  ol : w.ownsRow b0 3 1 vl left.length (I8 (left.map Int.ofNat))
  ow : w.ownsRow b0 3 1 vw wn.length (I8 (stkRow wn))
  og : w.ownsRow b0 3 1 vg gn.length (I8 (stkRow gn))
  a1 : ∀ b, vl.ownBlock = some b → vw.ownBlock ≠ some b
  a2 : ∀ b, vl.ownBlock = some b → vg.ownBlock ≠ some b
  a3 : ∀ b, vw.ownBlock = some b → vg.ownBlock ≠ some b
section
variable {w w6 : World} {b0 : Nat} {vl vw vg : Value} {left wn gn : List Nat}
theorem R3.pushL {k g' c' : Nat} {o : Obj} (h : R3 w b0 vl vw vg left wn gn) (O : w6.ownsRow b0 3 1 (.slice (some ⟨g', 0, none⟩) (left.length + 1) c') (left.length + 1) (I8 (left.map Int.ofNat) ++ [.int .i64 (k : Int)])) (G : (w.alloc o).grownBy w6 vl.ownBlock) (hat : vl.ownBlock = some g' ∨ g' = w.heap.size + 1) :
    R3 w6 b0 (.slice (some ⟨g', 0, none⟩) (left.length + 1) c') vw vg (left ++ [k]) wn gn := by
  refine ⟨?_, grown_keep G h.ow h.a1, grown_keep G h.og h.a2, fun b hb => ?_, fun b hb => ?_, h.a3⟩
  · have e : I8 ((left ++ [k]).map Int.ofNat) = I8 (left.map Int.ofNat) ++ [.int .i64 (k : Int)] := by simp [I8]
    rw [e, List.length_append]
    exact O
  · cases hb; exact grown_apart hat h.ow h.a1
  · cases hb; exact grown_apart hat h.og h.a2
theorem R3.pushW {k g' c' : Nat} {o : Obj} (h : R3 w b0 vl vw vg left wn gn) (O : w6.ownsRow b0 3 1 (.slice (some ⟨g', 0, none⟩) (wn.length + 1) c') (wn.length + 1) (I8 (stkRow wn) ++ [.int .i64 (k : Int)])) (G : (w.alloc o).grownBy w6 vw.ownBlock) (hat : vw.ownBlock = some g' ∨ g' = w.heap.size + 1) :
    R3 w6 b0 vl (.slice (some ⟨g', 0, none⟩) (wn.length + 1) c') vg left (k :: wn) gn := by
  have a1' : ∀ b, vw.ownBlock = some b → vl.ownBlock ≠ some b := fun b hb e => h.a1 b e hb
  refine ⟨grown_keep G h.ol a1', ?_, grown_keep G h.og h.a3, fun b hb e => ?_, h.a2, fun b hb => ?_⟩
  · rw [stkRow_cons]
    simpa [I8] using O
  · cases e; exact grown_apart hat h.ol a1' hb
  · cases hb; exact grown_apart hat h.og h.a3
theorem R3.pushG {k g' c' : Nat} {o : Obj} (h : R3 w b0 vl vw vg left wn gn) (O : w6.ownsRow b0 3 1 (.slice (some ⟨g', 0, none⟩) (gn.length + 1) c') (gn.length + 1) (I8 (stkRow gn) ++ [.int .i64 (k : Int)])) (G : (w.alloc o).grownBy w6 vg.ownBlock) (hat : vg.ownBlock = some g' ∨ g' = w.heap.size + 1) :
    R3 w6 b0 vl vw (.slice (some ⟨g', 0, none⟩) (gn.length + 1) c') left wn (k :: gn) := by
  have a2' : ∀ b, vg.ownBlock = some b → vl.ownBlock ≠ some b := fun b hb e => h.a2 b e hb
  have a3' : ∀ b, vg.ownBlock = some b → vw.ownBlock ≠ some b := fun b hb e => h.a3 b e hb
  refine ⟨grown_keep G h.ol a2', grown_keep G h.ow a3', ?_, h.a1, fun b hb e => ?_, fun b hb e => ?_⟩
  · rw [stkRow_cons]
    simpa [I8] using O
  · cases e; exact grown_apart hat h.ol a2' hb
  · cases e; exact grown_apart hat h.ow a3' hb
/-- a block below is written -/
theorem R3.low {b o : Nat} {v : Value} (h : R3 w b0 vl vw vg left wn gn) (hb : b < b0) : R3 (w.setCell ⟨b, o, none⟩ v) b0 vl vw vg left wn gn :=
  ⟨ownsRow_setCell_below h.ol (show Addr.block ⟨b, o, none⟩ < b0 from hb) v, ownsRow_setCell_below h.ow (show Addr.block ⟨b, o, none⟩ < b0 from hb) v, ownsRow_setCell_below h.og (show Addr.block ⟨b, o, none⟩ < b0 from hb) v, h.a1, h.a2, h.a3⟩
theorem R3.below (h : R3 w b0 vl vw vg left wn gn) (k : Below w.heap.size w w6) : R3 w6 b0 vl vw vg left wn gn :=
  ⟨Below.owns k (Nat.le_refl _) h.ol, Below.owns k (Nat.le_refl _) h.ow, Below.owns k (Nat.le_refl _) h.og, h.a1, h.a2, h.a3⟩
theorem stk_take (k : Nat) (r : List Nat) : (I8 (stkRow (k :: r))).take r.length = I8 (stkRow r) := by
  rw [I8, I8, ← List.map_take, stkRow_cons, ← stkRow_length r, List.take_left]
theorem stk_top {w : World} {b0 g c k : Nat} {r : List Nat} (h : w.ownsRow b0 3 1 (.slice (some ⟨g, 0, none⟩) (r.length + 1) c) (r.length + 1) (I8 (stkRow (k :: r)))) : w.cell? ⟨g, r.length, none⟩ = some (.int .i64 (k : Int)) := by
  rw [h.cellAt r.length (by omega), I8_get (by rw [stkRow_length]; simp), stkRow_cons, List.getElem?_append_right (by rw [stkRow_length]; omega), stkRow_length, Nat.sub_self]
  rfl
theorem R3.pop {gw cw gg cg k x : Nat} {r r' : List Nat} (h : R3 w b0 vl (.slice (some ⟨gw, 0, none⟩) (r.length + 1) cw) (.slice (some ⟨gg, 0, none⟩) (r'.length + 1) cg) left (k :: r) (x :: r')) : R3 w b0 vl (.slice (some ⟨gw, 0, none⟩) r.length cw) (.slice (some ⟨gg, 0, none⟩) r'.length cg) left r r' := by
  have h1 := owns_take (g := gw) (r := r.length) h.ow (by simp)
  have h2 := owns_take (g := gg) (r := r'.length) h.og (by simp)
  rw [stk_take] at h1 h2
  exact ⟨h.ol, h1, h2, h.a1, h.a2, h.a3⟩
/-- one edge more is gone -/
theorem R3.bump {gg cg x : Nat} {r' : List Nat} (h : R3 w b0 vl vw (.slice (some ⟨gg, 0, none⟩) (r'.length + 1) cg) left wn (x :: r')) : R3 (w.setCell ⟨gg, r'.length, none⟩ (.int .i64 ((x : Int) + 1))) b0 vl vw (.slice (some ⟨gg, 0, none⟩) (r'.length + 1) cg) left wn ((x + 1) :: r') := by
  have k : Ext (fun q => q = gg) w (w.setCell ⟨gg, r'.length, none⟩ (.int .i64 ((x : Int) + 1))) := (Ext.refl _ w).setC rfl
  refine ⟨k.owns2 (fun g hg hf => h.a2 g hg (by subst hf; rfl)) h.ol, k.owns2 (fun g hg hf => h.a3 g hg (by subst hf; rfl)) h.ow, ?_, h.a1, h.a2, h.a3⟩
  have := h.og.stored r'.length (.int .i64 ((x : Int) + 1))
  have e : (I8 (stkRow (x :: r'))).set r'.length (.int .i64 ((x : Int) + 1)) = I8 (stkRow ((x + 1) :: r')) := by
    rw [stkRow_cons, stkRow_cons]
    unfold I8
    rw [List.map_append, List.map_append, List.set_append_right _ _ (by rw [List.length_map, stkRow_length]; exact Nat.le_refl _), List.length_map, stkRow_length, Nat.sub_self]
    simp
  rw [e] at this
  exact this.1
/-- a root's way -/
theorem R3.root {i : Nat} (hl : w.ownsRow b0 3 1 vl left.length (I8 (left.map Int.ofNat))) (hb : b0 ≤ w.heap.size) : R3 ((w.alloc (.cells #[.int .i64 (i : Int)] 3)).alloc (.cells #[.int .i64 0] 3)) b0 vl (.slice (some ⟨w.heap.size, 0, none⟩) 1 1) (.slice (some ⟨w.heap.size + 1, 0, none⟩) 1 1) left [i] [0] := by
  obtain ⟨wa, hwa⟩ : ∃ wa, w.alloc (.cells #[.int .i64 (i : Int)] 3) = wa := ⟨_, rfl⟩
  have sa : wa.heap.size = w.heap.size + 1 := by rw [← hwa]; simp
  have o1 : wa.ownsRow b0 3 1 (.slice (some ⟨w.heap.size, 0, none⟩) 1 1) 1 [.int .i64 (i : Int)] := by rw [← hwa]; exact World.ownsRow_lit w #[.int .i64 (i : Int)] 1 hb (by simp [maxLen]) rfl
  have o2 : (wa.alloc (.cells #[.int .i64 0] 3)).ownsRow b0 3 1 (.slice (some ⟨w.heap.size + 1, 0, none⟩) 1 1) 1 [.int .i64 0] := by rw [← sa]; exact World.ownsRow_lit wa #[.int .i64 0] 1 (by omega) (by simp [maxLen]) rfl
  have l1 : wa.ownsRow b0 3 1 vl left.length (I8 (left.map Int.ofNat)) := by rw [← hwa]; exact hl.alloc _
  rw [hwa]
  refine ⟨l1.alloc _, o1.alloc _, o2, fun b hb e => ?_, fun b hb e => ?_, fun b hb e => ?_⟩
  · have e' : w.heap.size = b := Option.some.inj e
    have := (hl.lt b hb).2; omega
  · have e' : w.heap.size + 1 = b := Option.some.inj e
    have := (hl.lt b hb).2; omega
  · have e1 : w.heap.size = b := Option.some.inj hb
    have e2 : w.heap.size + 1 = b := Option.some.inj e
    omega
end
/-- u is one of the first g edges of k -/
def DD (n : Nat) (L : Nat → List Int) (k g u : Nat) : Prop := k < n ∧ ∃ z ∈ (L k).take g, nodeB n z = true ∧ z.toNat = u
theorem DD.edg (n : Nat) (L : Nat → List Int) : Edg n (edgeE n L) (fun k => (L k).length) (DD n L) := by
  refine ⟨fun k u h => ?_, fun k u h => ?_, edgeE_lt n L⟩
  · obtain ⟨-, z, hz, -⟩ := h
    simp at hz
  · have hk : k < n := by
      refine Classical.byContradiction fun hk => ?_
      unfold edgeE at h
      rw [if_neg hk] at h
      cases h
    refine ⟨hk, ?_⟩
    rw [List.take_length]
    exact (mem_edgeE hk).1 h
theorem DD.next {n k g u : Nat} {L : Nat → List Int} {z : Int} (hz : (L k)[g]? = some z) (h : DD n L k (g + 1) u) : DD n L k g u ∨ (nodeB n z = true ∧ z.toNat = u) := by
  obtain ⟨hk, y, hy, h1, h2⟩ := h
  rw [List.take_add_one, hz] at hy
  rcases List.mem_append.1 hy with hy | hy
  · exact .inl ⟨hk, y, hy, h1, h2⟩
  · have hy : y ∈ [z] := hy
    obtain rfl := List.mem_singleton.1 hy
    exact .inr ⟨h1, h2⟩
theorem nodup_le {N : Nat} : ∀ {l : List Nat}, l.Nodup → (∀ v ∈ l, v < N) → l.length ≤ N := by
  induction N with
  | zero =>
    intro l _ h
    cases l with
    | nil => exact Nat.le_refl _
    | cons a r => exact absurd (h a List.mem_cons_self) (Nat.not_lt_zero _)
  | succ N ih =>
    intro l nd h
    have h1 := ih (l := l.erase N) (nd.erase N) (fun v hv => by
      have h2 := (nd.mem_erase_iff).1 hv
      have := h v h2.2
      omega)
    by_cases hm : N ∈ l
    · rw [List.length_erase_of_mem hm] at h1
      omega
    · rw [List.erase_of_not_mem hm] at h1
      omega
/-- ints that may be below zero -/
def tabZ (N : Nat) (f : Nat → Int) : List Value := (List.range N).map fun v => .int .i64 (f v)
theorem tabZ_get {N : Nat} {f : Nat → Int} {k : Nat} (h : k < N) : (tabZ N f).toArray[k]? = some (.int .i64 (f k)) := by
  simp [tabZ, h]
theorem tabZ_set {N : Nat} {f : Nat → Int} {k : Nat} {x : Int} (_h : k < N) : (tabZ N f).toArray.setIfInBounds k (.int .i64 x) = (tabZ N (upd f k x)).toArray := by
  apply Array.toList_inj.1
  simp only [Array.toList_setIfInBounds]
  apply List.ext_getElem (by simp [tabZ])
  intro i h1 h2
  simp only [tabZ, List.getElem_set, List.getElem_map, List.getElem_range]
  by_cases e : k = i
  · subst e; simp [upd]
  · rw [if_neg e]
    have : ¬ (i = k) := fun h => e h.symm
    simp [upd, this]

end Go.Proofs.Ytkflhmpecfckfaa
