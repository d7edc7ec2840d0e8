/- a drum, while others write and have new blocks -/
import Derived.Test.YtleoelhhndeheaaGreatDrum0
open Go Go.RowKit
namespace Go.Proofs.YtleoelhhndeheaaGreat

/-- others write, and have new blocks -/
theorem DrumAt.otherG {w w' : World} {M : Dom} {F G : Nat → Prop} {d : Nat} {s : DS} (h : DrumAt w M d s) (k : Ext F w w') (hF : ∀ q, F q → M.X q) (hM : ∀ q, F q → ¬ M q) (hG : ∀ q, G q → w.heap.size ≤ q ∧ q < w'.heap.size) : DrumAt w' (M.addX G) d s := by
  obtain ⟨p, e, h⟩ := h
  have hT' : ∀ v zs, Trk w M v zs → Trk w' (M.addX G) v zs := fun v zs ht =>
    (ht.toX (M' := M.addX G) fun q hq => hq.elim (fun h => .inl (.inl h)) (fun h => h.elim (fun h => .inl (.inr h)) (fun h => .inr (hG q h).1))).other k (fun q hq => .inl (hF q hq))
  have hH : ∀ {b c n : Nat} {K : Nat → List Int}, HT w M b c n K → HT w' (M.addX G) b c n K := fun hh => by
    obtain ⟨hs, h1, h2⟩ := hh.row
    refine ⟨hh.may, hs, k.owns2 (fun g hg hf => ?_) h1, fun i hi => ?_⟩
    · cases hg
      exact hM _ hf hh.may
    · obtain ⟨v, h3, h4⟩ := h2 i hi
      exact ⟨v, h3, hT' _ _ h4⟩
  have hU : UpAt w' (M.addX G) p.av s.n s.up := by
    obtain ⟨vs, h0, h1, h2⟩ := h.up.row
    refine ⟨h.up.may, vs, h0, k.owns2 (fun g hg hf => hM _ hf (h.up.may g hg)) h1, fun i q hq => ?_⟩
    obtain ⟨h3, v, h4, h5⟩ := h2 i q hq
    exact ⟨h3, v, h4, hT' _ _ h5⟩
  have hf : FuseAt w' (M.addX G) p.fv s.fuse := by
    have hf := h.fuse
    unfold FuseAt at hf ⊢
    split at hf
    · exact hf
    · obtain ⟨b, all, h1, h2, h3, h4⟩ := hf
      exact ⟨b, all, h1, h2, k.blk (fun hf => hM _ hf h2) h3, h4⟩
  exact ⟨p, e, k.blk (fun hf => hM _ hf h.md) h.obj, h.md, h.mb, h.mt, hH h.kept, hH h.now, h.apart, hU, hf, k.blk (fun hf => hM _ hf h.mb) h.flag, k.blk (fun hf => hM _ hf h.mt) h.turns, h.t0, h.t1, h.n0, h.n1, h.u1, fun q hq => Nat.lt_of_lt_of_le (h.ml q hq) k.size,
    fun q hq => hq.elim (fun h1 => Nat.lt_of_lt_of_le (h.xl q h1) k.size) (fun h1 => (hG q h1).2)⟩

end Go.Proofs.YtleoelhhndeheaaGreat
