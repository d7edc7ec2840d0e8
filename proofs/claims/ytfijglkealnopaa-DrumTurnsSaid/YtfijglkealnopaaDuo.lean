/- DrumTurns: the drum and the reference's drum side by side -/
import Derived.Test.YtfijglkealnopaaAgreeP
open Go Go.RowKit
namespace Go.Proofs.Ytfijglkealnopaa

theorem Trk.len {w : World} {M : Dom} {v : Value} {zs : List Int} (h : Trk w M v zs) : zs.length = 96 := by
  obtain ⟨_, _, _, _, h, _⟩ := h
  exact h
theorem DrumAt.wf {w : World} {M : Dom} {d : Nat} {s : DS} (h : DrumAt w M d s) : (∀ k, k < s.n → (s.kept k).length = 96) ∧ ∀ p ∈ s.up, p.1 < s.n ∧ p.2.length = 96 := by
  obtain ⟨p, _, h⟩ := h
  refine ⟨fun k hk => ?_, fun q hq => ?_⟩
  · obtain ⟨hs, _, h2⟩ := h.kept.row
    obtain ⟨v, _, h4⟩ := h2 k hk
    exact h4.len
  · obtain ⟨vs, _, _, h2⟩ := h.up.row
    obtain ⟨i, hi⟩ := List.getElem?_of_mem hq
    obtain ⟨h3, v, _, h5⟩ := h2 i q hi
    exact ⟨h3, h5.len⟩

/-- others write, and have new blocks -/
theorem DrumAt.otherG {w w' : World} {M : Dom} {F G : Nat → Prop} {d : Nat} {s : DS} (h : DrumAt w M d s) (k : Ext F w w') (hF : ∀ q, F q → M.X q) (hM : ∀ q, F q → ¬ M q) (hG : ∀ q, G q → w.heap.size ≤ q ∧ q < w'.heap.size) : DrumAt w' (M.addX G) d s := by
  obtain ⟨p, e, h⟩ := h
  have hT' : ∀ v zs, Trk w M v zs → Trk w' (M.addX G) v zs := fun v zs ht =>
    (ht.toX (M' := M.addX G) fun q hq => hq.elim (fun h => .inl (.inl h)) (fun h => h.elim (fun h => .inl (.inr h)) (fun h => .inr (hG q h).1))).other k (fun q hq => .inl (hF q hq))
  have hH : ∀ {b c n : Nat} {K : Nat → List Int}, HT w M b c n K → HT w' (M.addX G) b c n K := fun hh => by
    obtain ⟨hs, h1, h2⟩ := hh.row
    refine ⟨hh.may, hs, k.owns2 (fun g hg hf => ?_) h1, fun i hi => ?_⟩
    · cases hg
      exact hM _ hf hh.may
    · obtain ⟨v, h3, h4⟩ := h2 i hi
      exact ⟨v, h3, hT' _ _ h4⟩
  have hU : UpAt w' (M.addX G) p.av s.n s.up := by
    obtain ⟨vs, h0, h1, h2⟩ := h.up.row
    refine ⟨h.up.may, vs, h0, k.owns2 (fun g hg hf => hM _ hf (h.up.may g hg)) h1, fun i q hq => ?_⟩
    obtain ⟨h3, v, h4, h5⟩ := h2 i q hq
    exact ⟨h3, v, h4, hT' _ _ h5⟩
  have hf : FuseAt w' (M.addX G) p.fv s.fuse := by
    have hf := h.fuse
    unfold FuseAt at hf ⊢
    split at hf
    · exact hf
    · obtain ⟨b, all, h1, h2, h3, h4⟩ := hf
      exact ⟨b, all, h1, h2, k.blk (fun hf => hM _ hf h2) h3, h4⟩
  exact ⟨p, e, k.blk (fun hf => hM _ hf h.md) h.obj, h.md, h.mb, h.mt, hH h.kept, hH h.now, h.apart, hU, hf, k.blk (fun hf => hM _ hf h.mb) h.flag, k.blk (fun hf => hM _ hf h.mt) h.turns, h.t0, h.t1, h.n0, h.n1, h.u1, fun q hq => Nat.lt_of_lt_of_le (h.ml q hq) k.size,
    fun q hq => hq.elim (fun h1 => Nat.lt_of_lt_of_le (h.xl q h1) k.size) (fun h1 => (hG q h1).2)⟩

structure Duo (w0 w : World) (M R : Dom) (d r : Nat) (s : DS) (t : RS) : Prop where
  drum : DrumAt w M d s
  ref : RefAt w R r t
  sep : ∀ q, R q → M.X q ∧ ¬ M q
  low : ∀ q, M q → w0.heap.size ≤ q
  lowR : ∀ q, R q → w0.heap.size ≤ q
  bel : Below w0.heap.size w0 w
theorem Duo.below {w0 w w' : World} {M R : Dom} {d r : Nat} {s : DS} {t : RS} (h : Duo w0 w M R d r s t) (k : Below w.heap.size w w') : Duo w0 w' M R d r s t :=
  ⟨h.drum.below k, h.ref.below k, h.sep, h.low, h.lowR, h.bel.trans (k.mono h.bel.size)⟩
theorem Duo.dstep {w0 w w' : World} {M M' R : Dom} {d r : Nat} {s s' : DS} {t : RS} (h : Duo w0 w M R d r s t) (hd : DrumAt w' M' d s') (k : Step M w M' w') : Duo w0 w' M' R d r s' t := by
  obtain ⟨h1, h2⟩ := Step.below h.bel k h.low h.bel.size
  refine ⟨hd, h.ref.ext k.ext (fun q hq => (h.sep q hq).2), fun q hq => ⟨by rw [k.same]; exact (h.sep q hq).1, fun hm => ?_⟩, h2, h.lowR, h1⟩
  rcases k.new q hm with h3 | h3
  · exact (h.sep q hq).2 h3
  · have := h.ref.rl q hq
    omega
theorem Duo.rstep {w0 w w' : World} {M R R' : Dom} {d r : Nat} {s : DS} {t t' : RS} (h : Duo w0 w M R d r s t) (hr : RefAt w' R' r t') (k : Step R w R' w') : Duo w0 w' (M.addX fun q => w.heap.size ≤ q ∧ q < w'.heap.size) R' d r s t' := by
  obtain ⟨h1, h2⟩ := Step.below h.bel k h.lowR h.bel.size
  refine ⟨h.drum.otherG k.ext (fun q hq => (h.sep q hq).1) (fun q hq => (h.sep q hq).2) (fun q hq => hq), hr, fun q hq => ?_, h.low, h2, h1⟩
  rcases k.new q hq with h3 | h3
  · exact ⟨.inl (h.sep q h3).1, (h.sep q h3).2⟩
  · exact ⟨.inr ⟨h3, hr.rl q hq⟩, fun hm => by have := h.drum.ml q hm; omega⟩
theorem Duo.start {w0 w w' : World} {M R : Dom} {d r : Nat} {s : DS} {t : RS} (h : One w0 w M d s) (hr : RefAt w' R r t) (hR : ∀ q, R q → w.heap.size ≤ q) (k : Below w.heap.size w w') : Duo w0 w' (M.addX fun q => w.heap.size ≤ q ∧ q < w'.heap.size) R d r s t :=
  ⟨h.drum.addX k (fun q hq => hq), hr, fun q hq => ⟨.inr ⟨hR q hq, hr.rl q hq⟩, fun hm => by have := h.drum.ml q hm; have := hR q hq; omega⟩, h.low, fun q hq => Nat.le_trans h.bel.size (hR q hq), h.bel.trans (k.mono h.bel.size)⟩

end Go.Proofs.Ytfijglkealnopaa
