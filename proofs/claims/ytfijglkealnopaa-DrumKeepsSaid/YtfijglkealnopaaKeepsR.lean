/- DrumKeeps: the rows of bytes that the law keeps beside the drum -/
import Derived.Test.YtfijglkealnopaaKeepsP
open Go Go.RowKit
namespace Go.Proofs.Ytfijglkealnopaa

/-- others write, and have new blocks -/
theorem DrumAt.otherX {w w' : World} {M : Dom} {F G : Nat → Prop} {d : Nat} {s : DS} (h : DrumAt w M d s) (k : Ext F w w') (hF : ∀ q, F q → M.X q) (hM : ∀ q, F q → ¬ M q) (hG : ∀ q, G q → w.heap.size ≤ q ∧ q < w'.heap.size) : DrumAt w' (M.addX G) d s := by
  obtain ⟨p, e, h⟩ := h
  have hT' : ∀ v zs, Trk w M v zs → Trk w' (M.addX G) v zs := fun v zs ht =>
    (ht.toX (M' := M.addX G) fun q hq => hq.elim (fun h => .inl (.inl h)) (fun h => h.elim (fun h => .inl (.inr h)) (fun h => .inr (hG q h).1))).other k (fun q hq => .inl (hF q hq))
  have hH : ∀ {b c n : Nat} {K : Nat → List Int}, HT w M b c n K → HT w' (M.addX G) b c n K := fun hh => by
    obtain ⟨hs, h1, h2⟩ := hh.row
    refine ⟨hh.may, hs, k.owns2 (fun g hg hf => ?_) h1, fun i hi => ?_⟩
    · cases hg
      exact hM _ hf hh.may
    · obtain ⟨v, h3, h4⟩ := h2 i hi
      exact ⟨v, h3, hT' _ _ h4⟩
  have hU : UpAt w' (M.addX G) p.av s.n s.up := by
    obtain ⟨vs, h0, h1, h2⟩ := h.up.row
    refine ⟨h.up.may, vs, h0, k.owns2 (fun g hg hf => hM _ hf (h.up.may g hg)) h1, fun i q hq => ?_⟩
    obtain ⟨h3, v, h4, h5⟩ := h2 i q hq
    exact ⟨h3, v, h4, hT' _ _ h5⟩
  have hf : FuseAt w' (M.addX G) p.fv s.fuse := by
    have hf := h.fuse
    unfold FuseAt at hf ⊢
    split at hf
    · exact hf
    · obtain ⟨b, all, h1, h2, h3, h4⟩ := hf
      exact ⟨b, all, h1, h2, k.blk (fun hf => hM _ hf h2) h3, h4⟩
  exact ⟨p, e, k.blk (fun hf => hM _ hf h.md) h.obj, h.md, h.mb, h.mt, hH h.kept, hH h.now, h.apart, hU, hf, k.blk (fun hf => hM _ hf h.mb) h.flag, k.blk (fun hf => hM _ hf h.mt) h.turns, h.t0, h.t1, h.n0, h.n1, h.u1, fun q hq => Nat.lt_of_lt_of_le (h.ml q hq) k.size,
    fun q hq => hq.elim (fun h1 => Nat.lt_of_lt_of_le (h.xl q h1) k.size) (fun h1 => (hG q h1).2)⟩

/-- an array of twelve []byte, each a row of one's own -/
structure Was (w : World) (B wa : Nat) (H : Nat → Value) (W : Nat → List Int) : Prop where
  arr : w.heap[wa]? = some (.cells ((List.range 12).map H).toArray 30 (0, 0))
  row : ∀ k, k < 12 → w.ownsRow B 5 1 (H k) (W k).length (B8 (W k))
  apart : ∀ j k, j < 12 → k < 12 → j ≠ k → ∀ b, (H j).ownBlock = some b → ¬ (H k).ownBlock = some b
/-- its blocks -/
def Was.blks (wa : Nat) (H : Nat → Value) (q : Nat) : Prop := q = wa ∨ ∃ k, k < 12 ∧ (H k).ownBlock = some q
theorem Was.ext {w w' : World} {B wa : Nat} {H : Nat → Value} {W : Nat → List Int} (h : Was w B wa H W) {F : Nat → Prop} (k : Ext F w w') (hF : ∀ q, Was.blks wa H q → ¬ F q) : Was w' B wa H W :=
  ⟨k.blk (hF _ (.inl rfl)) h.arr, fun j hj => k.owns2 (fun b hb => hF _ (.inr ⟨j, hj, hb⟩)) (h.row j hj), h.apart⟩
theorem Was.cell {w : World} {B wa : Nat} {H : Nat → Value} {W : Nat → List Int} (h : Was w B wa H W) {k : Nat} (hk : k < 12) : w.cell? ⟨wa, k, none⟩ = some (H k) := blk_cell h.arr (by simp [hk])
theorem Was.lt {w : World} {B wa : Nat} {H : Nat → Value} {W : Nat → List Int} (h : Was w B wa H W) {q : Nat} (hq : Was.blks wa H q) : q < w.heap.size := by
  rcases hq with rfl | ⟨k, hk, hb⟩
  · exact lt_of_blk h.arr
  · exact ((h.row k hk).lt q hb).2
theorem set_map (H : Nat → Value) (k : Nat) (v : Value) : ((List.range 12).map H).toArray.setIfInBounds k v = ((List.range 12).map (upd H k v)).toArray := by
  rw [List.setIfInBounds_toArray]
  congr 1
  apply List.ext_getElem (by simp)
  intro i h1 h2
  simp only [List.getElem_set, List.getElem_map, List.getElem_range, upd]
  by_cases e : k = i
  · simp [e]
  · simp [e, Ne.symm e]
/-- a store of a row -/
theorem Was.store {w w' : World} {B wa : Nat} {H : Nat → Value} {W : Nat → List Int} (h : Was w B wa H W) {k : Nat} (hk : k < 12) {F : Nat → Prop} (hx : Ext F w w') (hF : ∀ q, F q → (H k).ownBlock = some q) {v : Value} {zs : List Int}
    (hv : w'.ownsRow B 5 1 v zs.length (B8 zs)) (hb : ∀ b, v.ownBlock = some b → (H k).ownBlock = some b ∨ w.heap.size ≤ b) : Was (w'.setCell ⟨wa, k, none⟩ v) B wa (upd H k v) (upd W k zs) := by
  have h1 := hx.blk (fun hf => owns_ne (h.row k hk) h.arr (by decide) (hF _ hf)) h.arr
  have X : Ext (· = wa) w' (w'.setCell ⟨wa, k, none⟩ v) := Ext.set
  refine ⟨by rw [blk_setCell h1, set_map], fun j hj => ?_, fun j i hj hi hji b hb1 hb2 => ?_⟩
  · by_cases e : j = k
    · subst e
      rw [upd_same, upd_same]
      exact X.owns2 (fun g hg e => owns_ne hv h1 (by decide) (e ▸ hg)) hv
    · rw [upd_ne _ _ e, upd_ne _ _ e]
      have h2 := hx.owns2 (fun g hg hf => h.apart j k hj hk e g hg (hF _ hf)) (h.row j hj)
      exact X.owns2 (fun g hg e => owns_ne h2 h1 (by decide) (e ▸ hg)) h2
  · by_cases e : j = k
    · subst e
      rw [upd_same] at hb1
      rw [upd_ne _ _ (Ne.symm hji)] at hb2
      rcases hb b hb1 with h3 | h3
      · exact h.apart j i hj hi hji b h3 hb2
      · have := ((h.row i hi).lt b hb2).2
        omega
    · rw [upd_ne _ _ e] at hb1
      by_cases e2 : i = k
      · subst e2
        rw [upd_same] at hb2
        rcases hb b hb2 with h3 | h3
        · exact h.apart j i hj hi hji b hb1 h3
        · have := ((h.row j hj).lt b hb1).2
          omega
      · rw [upd_ne _ _ e2] at hb2
        exact h.apart j i hj hi hji b hb1 hb2
theorem Was.blks_upd {wa : Nat} {H : Nat → Value} {k : Nat} {v : Value} {q : Nat} (hq : Was.blks wa (upd H k v) q) : Was.blks wa H q ∨ v.ownBlock = some q := by
  rcases hq with h | ⟨j, hj, h⟩
  · exact .inl (.inl h)
  · by_cases e : j = k
    · subst e; rw [upd_same] at h; exact .inr h
    · rw [upd_ne _ _ e] at h; exact .inl (.inr ⟨j, hj, h⟩)

theorem Was.congr {w : World} {B wa : Nat} {H : Nat → Value} {W W' : Nat → List Int} (h : Was w B wa H W) (hW : ∀ k, k < 12 → W' k = W k) : Was w B wa H W' :=
  ⟨h.arr, fun k hk => by rw [hW k hk]; exact h.row k hk, h.apart⟩

/-- a drum, and rows beside it -/
structure Both (w0 w : World) (M : Dom) (d : Nat) (s : DS) (wa : Nat) (H : Nat → Value) (W : Nat → List Int) : Prop where
  drum : DrumAt w M d s
  was : Was w wa wa H W
  blk : ∀ q, Was.blks wa H q → M.X q ∧ ¬ M q
  low : ∀ q, M q → w0.heap.size ≤ q
  bel : Below w0.heap.size w0 w
  le : w0.heap.size ≤ wa
theorem Both.below {w0 w w' : World} {M : Dom} {d : Nat} {s : DS} {wa : Nat} {H : Nat → Value} {W : Nat → List Int} (h : Both w0 w M d s wa H W) (k : Below w.heap.size w w') : Both w0 w' M d s wa H W :=
  ⟨h.drum.below k, h.was.ext (Ext.of_below k (fun _ => False)) (fun _ _ => id), h.blk, h.low, h.bel.trans (k.mono h.bel.size), h.le⟩
theorem Both.step {w0 w w' : World} {M M' : Dom} {d : Nat} {s s' : DS} {wa : Nat} {H : Nat → Value} {W : Nat → List Int} (h : Both w0 w M d s wa H W) (hd : DrumAt w' M' d s') (k : Step M w M' w') : Both w0 w' M' d s' wa H W := by
  obtain ⟨h1, h2⟩ := Step.below h.bel k h.low h.bel.size
  refine ⟨hd, h.was.ext k.ext (fun q hq => (h.blk q hq).2), fun q hq => ⟨by rw [k.same]; exact (h.blk q hq).1, fun hm => ?_⟩, h2, h1, h.le⟩
  rcases k.new q hm with h3 | h3
  · exact (h.blk q hq).2 h3
  · have := h.was.lt hq
    omega
theorem Both.store {w0 w w6 : World} {M : Dom} {d : Nat} {s : DS} {wa : Nat} {H : Nat → Value} {W : Nat → List Int} (h : Both w0 w M d s wa H W) {k : Nat} (hk : k < 12) {F : Nat → Prop} (hx : Ext F w w6) (hF : ∀ q, F q → (H k).ownBlock = some q) {v : Value} {zs : List Int}
    (hv : w6.ownsRow wa 5 1 v zs.length (B8 zs)) (hb : ∀ b, v.ownBlock = some b → (H k).ownBlock = some b ∨ w.heap.size ≤ b) :
    Both w0 (w6.setCell ⟨wa, k, none⟩ v) (M.addX fun q => w.heap.size ≤ q ∧ q < (w6.setCell ⟨wa, k, none⟩ v).heap.size) d s wa (upd H k v) (upd W k zs) := by
  have X : Ext (· = wa) w6 (w6.setCell ⟨wa, k, none⟩ v) := Ext.set
  have hx2 : Ext (fun q => q = wa ∨ (H k).ownBlock = some q) w (w6.setCell ⟨wa, k, none⟩ v) := (hx.mono (fun q _ hq => .inr (hF q hq))).trans X (fun q _ hq => .inl hq)
  have hF2 : ∀ q, (fun q => q = wa ∨ (H k).ownBlock = some q) q → Was.blks wa H q := fun q hq => hq.imp id (fun h => ⟨k, hk, h⟩)
  refine ⟨h.drum.otherX hx2 (fun q hq => (h.blk q (hF2 q hq)).1) (fun q hq => (h.blk q (hF2 q hq)).2) (fun q hq => hq), h.was.store hk hx hF hv hb, fun q hq => ?_, h.low, Below.ext h.bel hx2 (fun q hq => ?_) h.bel.size, h.le⟩
  · rcases Was.blks_upd hq with h1 | h1
    · exact ⟨.inl (h.blk q h1).1, (h.blk q h1).2⟩
    · rcases hb q h1 with h2 | h2
      · have := h.blk q (.inr ⟨k, hk, h2⟩)
        exact ⟨.inl this.1, this.2⟩
      · refine ⟨.inr ⟨h2, ?_⟩, fun hm => ?_⟩
        · have h3 := (hv.lt q h1).2
          have h4 := X.size
          omega
        · have := h.drum.ml q hm
          omega
  · rcases hq with hq | hq
    · have := h.le; omega
    · have h1 := ((h.was.row k hk).lt q hq).1
      have := h.le; omega

end Go.Proofs.Ytfijglkealnopaa
