/- package drum: what a drum is -/
import Derived.Test.YtleoelhhndeheaaGreatOwn
import Derived.Test.YtleoelhhndeheaaGreatCountObj
import Derived.Test.YtleoelhhndeheaaGreatSlB
open Go Go.RowKit
namespace Go.Proofs.YtleoelhhndeheaaGreat

/-- a track of 96 bytes that nobody writes -/
def Trk (w : World) (M : Dom) (v : Value) (zs : List Int) : Prop := ∃ a c, v = .slice (some a) 96 c ∧ Row w (some a) (B8 zs) ∧ zs.length = 96 ∧ ¬ (M a.block ∨ M.X a.block) ∧ IsBytes zs ∧ 96 ≤ c

theorem Row.blk0 {w : World} {a : Addr} {vs : List Value} (h : Row w (some a) vs) (hl : 0 < vs.length) : a.block < w.heap.size := h.lt hl
theorem Trk.lt {w : World} {M : Dom} {a : Addr} {n c : Nat} {zs : List Int} (h : Trk w M (.slice (some a) n c) zs) : a.block < w.heap.size := by
  obtain ⟨a', c', h1, h2, h3, h4, h5⟩ := h
  cases h1
  exact h2.blk0 (by simp; omega)
theorem Trk.ext {w w' : World} {M : Dom} {F : Nat → Prop} {v : Value} {zs : List Int} (h : Trk w M v zs) (k : Ext F w w') (hF : ∀ q, F q → M q) : Trk w' M v zs := by
  obtain ⟨a, c, h1, h2, h3, h4, h5⟩ := h
  exact ⟨a, c, h1, h2.ext k (fun _ hf => h4 (.inl (hF _ hf))), h3, h4, h5⟩
theorem Trk.toX {w : World} {M M' : Dom} {v : Value} {zs : List Int} (h : Trk w M v zs) (hM : ∀ q, M' q ∨ M'.X q → (M q ∨ M.X q) ∨ w.heap.size ≤ q) : Trk w M' v zs := by
  obtain ⟨a, c, h1, h2, h3, h4, h5⟩ := h
  refine ⟨a, c, h1, h2, h3, fun h => ?_, h5⟩
  rcases hM _ h with h | h
  · exact h4 h
  · have := h2.blk0 (by simp; omega)
    omega
theorem Trk.to {w : World} {M M' : Dom} {v : Value} {zs : List Int} (h : Trk w M v zs) (hM : ∀ q, M' q → M q ∨ w.heap.size ≤ q) (hX : M'.X = M.X := by rfl) : Trk w M' v zs :=
  h.toX fun q hq => hq.elim (fun h => (hM q h).imp .inl id) (fun h => .inl (.inr (hX ▸ h)))
/-- others write -/
theorem Trk.other {w w' : World} {M : Dom} {F : Nat → Prop} {v : Value} {zs : List Int} (h : Trk w M v zs) (k : Ext F w w') (hF : ∀ q, F q → M.X q) : Trk w' M v zs := by
  obtain ⟨a, c, h1, h2, h3, h4, h5⟩ := h
  exact ⟨a, c, h1, h2.ext k (fun _ hf => h4 (.inr (hF _ hf))), h3, h4, h5⟩

/-- a row of one's own, of tracks -/
structure HT (w : World) (M : Dom) (b c n : Nat) (K : Nat → List Int) : Prop where
  may : M b
  row : ∃ hs, w.ownsRow 0 27 1 (.slice (some ⟨b, 0, none⟩) n c) n hs ∧ ∀ i, i < n → ∃ v, hs[i]? = some v ∧ Trk w M v (K i)
theorem HT.ext {w w' : World} {M : Dom} {F : Nat → Prop} {b c n : Nat} {K : Nat → List Int} (h : HT w M b c n K) (k : Ext F w w') (hF : ∀ q, F q → M q) (hb : ¬ F b) : HT w' M b c n K := by
  obtain ⟨hs, h1, h2⟩ := h.row
  refine ⟨h.may, hs, k.owns2 (fun g hg => ?_) h1, fun i hi => ?_⟩
  · have hg : some b = some g := hg
    cases hg
    exact hb
  · obtain ⟨v, h3, h4⟩ := h2 i hi
    exact ⟨v, h3, h4.ext k hF⟩
theorem HT.to {w : World} {M M' : Dom} {b c n : Nat} {K : Nat → List Int} (h : HT w M b c n K) (hM : ∀ q, M' q → M q ∨ w.heap.size ≤ q) (hb : M' b) (hX : M'.X = M.X := by rfl) : HT w M' b c n K := by
  obtain ⟨hs, h1, h2⟩ := h.row
  refine ⟨hb, hs, h1, fun i hi => ?_⟩
  obtain ⟨v, h3, h4⟩ := h2 i hi
  exact ⟨v, h3, h4.to hM hX⟩
theorem HT.cell {w : World} {M : Dom} {b c n : Nat} {K : Nat → List Int} (h : HT w M b c n K) {i : Nat} (hi : i < n) : ∃ a cc, w.cell? ⟨b, i, none⟩ = some (.slice (some a) 96 cc) ∧ Trk w M (.slice (some a) 96 cc) (K i) := by
  obtain ⟨hs, h1, h2⟩ := h.row
  obtain ⟨v, h3, a, cc, rfl, h4⟩ := h2 i hi
  exact ⟨a, cc, (h1.cellAt i (by omega)).trans h3, a, cc, rfl, h4⟩
theorem HT.free {w : World} {M : Dom} {b c n : Nat} {K : Nat → List Int} (h : HT w M b c n K) (i : Nat) : w.frozen? ⟨b, i, none⟩ = false := by
  obtain ⟨hs, h1, h2⟩ := h.row
  exact h1.frozenAt i
theorem HT.store {w : World} {M : Dom} {b c n : Nat} {K : Nat → List Int} (h : HT w M b c n K) {i : Nat} {v : Value} {zs : List Int} (hv : Trk w M v zs) : HT (w.setCell ⟨b, i, none⟩ v) M b c n (upd K i zs) := by
  obtain ⟨hs, h1, h2⟩ := h.row
  obtain ⟨s1, s2⟩ := h1.stored i v
  have hx := Ext.of_grown s2
  have hF : ∀ q, some b = some q → M q := fun q e => by cases e; exact h.may
  refine ⟨h.may, _, s1, fun j hj => ?_⟩
  have hlen : hs.length = n := by have := h1.1; omega
  by_cases e : j = i
  · subst e
    exact ⟨v, List.getElem?_set_self (by omega), by rw [upd_same]; exact hv.ext hx hF⟩
  · obtain ⟨y, h3, h4⟩ := h2 j hj
    exact ⟨y, by rw [List.getElem?_set_ne (fun h => e h.symm)]; exact h3, by rw [upd_ne _ _ e]; exact h4.ext hx hF⟩
theorem HT.blk {w : World} {M : Dom} {b c n : Nat} {K : Nat → List Int} (h : HT w M b c n K) : ∃ cur, w.heap[b]? = some (.cells cur 27 (0, 0)) := by
  obtain ⟨hs, h1, h2⟩ := h.row
  exact owns_blk h1
theorem HT.lt {w : World} {M : Dom} {b c n : Nat} {K : Nat → List Int} (h : HT w M b c n K) : b < w.heap.size := by
  obtain ⟨cur, h1⟩ := h.blk
  exact lt_of_blk h1
theorem HT.congr {w : World} {M : Dom} {b c n : Nat} {K K' : Nat → List Int} (h : HT w M b c n K) (hK : ∀ i, i < n → K' i = K i) : HT w M b c n K' := by
  obtain ⟨hs, h1, h2⟩ := h.row
  refine ⟨h.may, hs, h1, fun i hi => ?_⟩
  rw [hK i hi]
  exact h2 i hi

/-- the cells of the lays that are afloat -/
def layCells (up : List (Nat × List Int)) (vs : List Value) : List Value := (up.zip vs).flatMap fun p => [.int .i64 (p.1.1 : Int), p.2]
/-- the lays that are afloat -/
structure UpAt (w : World) (M : Dom) (av : Value) (n : Nat) (up : List (Nat × List Int)) : Prop where
  may : ∀ q, av.ownBlock = some q → M q
  row : ∃ vs : List Value, vs.length = up.length ∧ w.ownsRow 0 92 2 av up.length (layCells up vs) ∧ ∀ (i : Nat) (p : Nat × List Int), up[i]? = some p → p.1 < n ∧ ∃ v, vs[i]? = some v ∧ Trk w M v p.2
theorem UpAt.nil (w : World) (M : Dom) (n : Nat) : UpAt w M (.slice none 0 0) n [] := ⟨fun q h => (by cases h), [], rfl, World.ownsRow_nil _ _ _ _, fun i p h => by simp at h⟩
theorem UpAt.ext {w w' : World} {M : Dom} {F : Nat → Prop} {av : Value} {n : Nat} {up : List (Nat × List Int)} (h : UpAt w M av n up) (k : Ext F w w') (hF : ∀ q, F q → M q) (hb : ∀ q, av.ownBlock = some q → ¬ F q) : UpAt w' M av n up := by
  obtain ⟨vs, h0, h1, h2⟩ := h.row
  refine ⟨h.may, vs, h0, k.owns2 hb h1, fun i p hi => ?_⟩
  obtain ⟨h3, v, h4, h5⟩ := h2 i p hi
  exact ⟨h3, v, h4, h5.ext k hF⟩
theorem UpAt.to {w : World} {M M' : Dom} {av : Value} {n : Nat} {up : List (Nat × List Int)} (h : UpAt w M av n up) (hM : ∀ q, M' q → M q ∨ w.heap.size ≤ q) (hb : ∀ q, M q → q < w.heap.size → M' q) (hX : M'.X = M.X := by rfl) : UpAt w M' av n up := by
  obtain ⟨vs, h0, h1, h2⟩ := h.row
  refine ⟨fun q hq => hb q (h.may q hq) (h1.lt q hq).2, vs, h0, h1, fun i p hi => ?_⟩
  obtain ⟨h3, v, h4, h5⟩ := h2 i p hi
  exact ⟨h3, v, h4, h5.to hM hX⟩

theorem layCells_get : ∀ (up : List (Nat × List Int)) (vs : List Value) (i : Nat) (p : Nat × List Int) (v : Value), up[i]? = some p → vs[i]? = some v → (layCells up vs)[2 * i]? = some (.int .i64 (p.1 : Int)) ∧ (layCells up vs)[2 * i + 1]? = some v
  | [], vs, i, p, v, h, k => by simp at h
  | q :: up, [], i, p, v, h, k => by simp at k
  | q :: up, u :: vs, 0, p, v, h, k => by simp at h k; subst h; subst k; simp [layCells]
  | q :: up, u :: vs, i + 1, p, v, h, k => by
    simp only [List.getElem?_cons_succ] at h k
    have := layCells_get up vs i p v h k
    simp only [layCells, List.zip_cons_cons, List.flatMap_cons, List.cons_append, List.nil_append] at this ⊢
    rw [show 2 * (i + 1) = 2 * i + 1 + 1 by omega, List.getElem?_cons_succ, List.getElem?_cons_succ, List.getElem?_cons_succ, List.getElem?_cons_succ]
    exact this
theorem layCells_push (up : List (Nat × List Int)) (vs : List Value) (h : vs.length = up.length) (k : Nat) (zs : List Int) (v : Value) : layCells (up ++ [(k, zs)]) (vs ++ [v]) = layCells up vs ++ [.int .i64 (k : Int), v] := by
  unfold layCells
  rw [List.zip_append (by omega), List.flatMap_append]
  rfl

/-- a drum, said plainly -/
structure DS where
  n : Nat
  kept : Nat → List Int
  now : Nat → List Int
  up : List (Nat × List Int)
  fuse : Option Int
  broken : Bool
  turns : Int

/-- where a drum's parts lie -/
structure DP where
  d : Nat
  kb : Nat
  kc : Nat
  nb : Nat
  nc : Nat
  av : Value
  fv : Value
  bb : Nat
  tb : Nat

/-- the break that is set -/
def FuseAt (w : World) (M : Dom) (fv : Value) : Option Int → Prop
  | none => fv = .pointer none
  | some x => ∃ b all, fv = .pointer (some ⟨b, 0, none⟩) ∧ M b ∧ isBud w b 136 all x ∧ 0 ≤ x ∧ x ≤ 4611686018427387904

structure DrumP (w : World) (M : Dom) (p : DP) (s : DS) : Prop where
  obj : w.heap[p.d]? = some (.cells #[.slice (some ⟨p.kb, 0, none⟩) s.n p.kc, .slice (some ⟨p.nb, 0, none⟩) s.n p.nc, p.av, p.fv, .pointer (some ⟨p.bb, 0, none⟩), .pointer (some ⟨p.tb, 0, none⟩)] 90 (0, 0))
  md : M p.d
  mb : M p.bb
  mt : M p.tb
  kept : HT w M p.kb p.kc s.n s.kept
  now : HT w M p.nb p.nc s.n s.now
  apart : p.kb ≠ p.nb
  up : UpAt w M p.av s.n s.up
  fuse : FuseAt w M p.fv s.fuse
  flag : isFlag w p.bb 107 s.broken
  turns : isInt w p.tb 112 s.turns
  t0 : 0 ≤ s.turns
  t1 : s.turns ≤ 4611686018427387904
  n0 : 0 < s.n
  n1 : s.n ≤ 1000000
  u1 : s.up.length ≤ 1000000000
  ml : ∀ q, M q → q < w.heap.size
  xl : ∀ q, M.X q → q < w.heap.size

def DrumAt (w : World) (M : Dom) (d : Nat) (s : DS) : Prop := ∃ p, p.d = d ∧ DrumP w M p s

theorem FuseAt.ext {w w' : World} {M : Dom} {F : Nat → Prop} {fv : Value} {f : Option Int} (h : FuseAt w M fv f) (k : Ext F w w') (hb : ∀ b, fv = .pointer (some ⟨b, 0, none⟩) → ¬ F b) : FuseAt w' M fv f := by
  cases f with
  | none => exact h
  | some x =>
    obtain ⟨b, all, h1, h2, h3, h4⟩ := h
    exact ⟨b, all, h1, h2, k.blk (hb b h1) h3, h4⟩
theorem FuseAt.to {w : World} {M M' : Dom} {fv : Value} {f : Option Int} (h : FuseAt w M fv f) (hb : ∀ q, M q → q < w.heap.size → M' q) : FuseAt w M' fv f := by
  cases f with
  | none => exact h
  | some x =>
    obtain ⟨b, all, h1, h2, h3, h4⟩ := h
    exact ⟨b, all, h1, hb _ h2 (lt_of_blk h3), h3, h4⟩
theorem FuseAt.ne {w : World} {M : Dom} {fv : Value} {f : Option Int} (h : FuseAt w M fv f) {b g : Nat} (hb : fv = .pointer (some ⟨b, 0, none⟩)) {c : Array Value} {t : TypeId} (hg : w.heap[g]? = some (.cells c t (0, 0))) (ht : t ≠ 136) : b ≠ g := by
  cases f with
  | none => exact absurd (hb.symm.trans h) (by simp)
  | some x =>
    obtain ⟨b', all, h1, h2, h3, h4⟩ := h
    rw [hb] at h1
    cases h1
    rintro rfl
    have h3 : _ = _ := h3
    rw [hg] at h3
    cases h3
    exact ht rfl
theorem blk_ne {w : World} {a b : Nat} {c c' : Array Value} {t t' : TypeId} {f f' : Nat × Nat} (h : w.heap[a]? = some (.cells c t f)) (k : w.heap[b]? = some (.cells c' t' f')) (ht : t ≠ t') : a ≠ b := by
  rintro rfl
  rw [h] at k
  cases k
  exact ht rfl
theorem UpAt.ne {w : World} {M : Dom} {av : Value} {n : Nat} {up : List (Nat × List Int)} (h : UpAt w M av n up) {q : Nat} (hq : av.ownBlock = some q) {g : Nat} {c : Array Value} {t : TypeId} (hg : w.heap[g]? = some (.cells c t (0, 0))) (ht : t ≠ 92) : q ≠ g := by
  rintro rfl
  obtain ⟨vs, h0, h1, h2⟩ := h.row
  exact owns_ne h1 hg ht hq

/-- all that is written lies in blocks that are no part of the drum -/
theorem DrumP.frame {w w' : World} {M : Dom} {F : Nat → Prop} {p : DP} {s : DS} (h : DrumP w M p s) (k : Ext F w w') (hF : ∀ q, F q → ¬ M q) (hT : ∀ v zs, Trk w M v zs → Trk w' M v zs) : DrumP w' M p s := by
  have hk : HT w' M p.kb p.kc s.n s.kept := by
    obtain ⟨hs, h1, h2⟩ := h.kept.row
    refine ⟨h.kept.may, hs, k.owns2 (fun g hg hf => ?_) h1, fun i hi => ?_⟩
    · have hg : some p.kb = some g := hg
      cases hg
      exact hF _ hf h.kept.may
    · obtain ⟨v, h3, h4⟩ := h2 i hi
      exact ⟨v, h3, hT _ _ h4⟩
  have hn : HT w' M p.nb p.nc s.n s.now := by
    obtain ⟨hs, h1, h2⟩ := h.now.row
    refine ⟨h.now.may, hs, k.owns2 (fun g hg hf => ?_) h1, fun i hi => ?_⟩
    · have hg : some p.nb = some g := hg
      cases hg
      exact hF _ hf h.now.may
    · obtain ⟨v, h3, h4⟩ := h2 i hi
      exact ⟨v, h3, hT _ _ h4⟩
  have hu : UpAt w' M p.av s.n s.up := by
    obtain ⟨vs, h0, h1, h2⟩ := h.up.row
    refine ⟨h.up.may, vs, h0, k.owns2 (fun g hg hf => hF _ hf (h.up.may g hg)) h1, fun i p hi => ?_⟩
    obtain ⟨h3, v, h4, h5⟩ := h2 i p hi
    exact ⟨h3, v, h4, hT _ _ h5⟩
  refine ⟨k.blk (fun hf => hF _ hf h.md) h.obj, h.md, h.mb, h.mt, hk, hn, h.apart, hu, ?_, k.blk (fun hf => hF _ hf h.mb) h.flag, k.blk (fun hf => hF _ hf h.mt) h.turns, h.t0, h.t1, h.n0, h.n1, h.u1, fun q hq => Nat.lt_of_lt_of_le (h.ml q hq) k.size, fun q hq => Nat.lt_of_lt_of_le (h.xl q hq) k.size⟩
  have hf := h.fuse
  unfold FuseAt at hf ⊢
  split at hf
  · exact hf
  · obtain ⟨b, all, h1, h2, h3, h4⟩ := hf
    exact ⟨b, all, h1, h2, k.blk (fun hf => hF _ hf h2) h3, h4⟩
theorem DrumP.below {w w' : World} {M : Dom} {p : DP} {s : DS} (h : DrumP w M p s) (k : Below w.heap.size w w') : DrumP w' M p s :=
  h.frame (Ext.of_below k fun _ => False) (fun _ h => h.elim) (fun v zs ht => ht.ext (Ext.of_below k fun _ => False) fun _ h => h.elim)
theorem DrumAt.below {w w' : World} {M : Dom} {d : Nat} {s : DS} (h : DrumAt w M d s) (k : Below w.heap.size w w') : DrumAt w' M d s := by
  obtain ⟨p, e, h⟩ := h
  exact ⟨p, e, h.below k⟩

/-- others write, in blocks of their own -/
theorem DrumAt.other {w w' : World} {M : Dom} {F : Nat → Prop} {d : Nat} {s : DS} (h : DrumAt w M d s) (k : Ext F w w') (hF : ∀ q, F q → M.X q) (hM : ∀ q, F q → ¬ M q) : DrumAt w' M d s := by
  obtain ⟨p, e, h⟩ := h
  exact ⟨p, e, h.frame k hM (fun v zs ht => ht.other k hF)⟩
/-- others have new blocks -/
theorem DrumAt.addX {w w' : World} {M : Dom} {F : Nat → Prop} {d : Nat} {s : DS} (h : DrumAt w M d s) (k : Below w.heap.size w w') (hF : ∀ q, F q → w.heap.size ≤ q ∧ q < w'.heap.size) : DrumAt w' (M.addX F) d s := by
  obtain ⟨p, e, h⟩ := h
  have hT : ∀ v zs, Trk w M v zs → Trk w (M.addX F) v zs := fun v zs ht => ht.toX fun q hq => hq.elim (fun h => .inl (.inl h)) (fun h => h.elim (fun h => .inl (.inr h)) (fun h => .inr (hF q h).1))
  have kx := Ext.of_below k (fun _ => False)
  have hT' : ∀ v zs, Trk w M v zs → Trk w' (M.addX F) v zs := fun v zs ht => (hT v zs ht).ext kx (fun _ h => h.elim)
  have hH : ∀ {b c n : Nat} {K : Nat → List Int}, HT w M b c n K → HT w' (M.addX F) b c n K := fun hh => by
    obtain ⟨hs, h1, h2⟩ := hh.row
    refine ⟨hh.may, hs, kx.owns2 (fun _ _ => id) h1, fun i hi => ?_⟩
    obtain ⟨v, h3, h4⟩ := h2 i hi
    exact ⟨v, h3, hT' _ _ h4⟩
  have hU : UpAt w' (M.addX F) p.av s.n s.up := by
    obtain ⟨vs, h0, h1, h2⟩ := h.up.row
    refine ⟨h.up.may, vs, h0, kx.owns2 (fun _ _ => id) h1, fun i q hq => ?_⟩
    obtain ⟨h3, v, h4, h5⟩ := h2 i q hq
    exact ⟨h3, v, h4, hT' _ _ h5⟩
  have hf : FuseAt w' (M.addX F) p.fv s.fuse := by
    have hf := h.fuse.ext kx (fun _ _ => id)
    unfold FuseAt at hf ⊢
    exact hf
  exact ⟨p, e, kx.blk id h.obj, h.md, h.mb, h.mt, hH h.kept, hH h.now, h.apart, hU, hf, kx.blk id h.flag, kx.blk id h.turns, h.t0, h.t1, h.n0, h.n1, h.u1, fun q hq => Nat.lt_of_lt_of_le (h.ml q hq) k.size,
    fun q hq => hq.elim (fun h1 => Nat.lt_of_lt_of_le (h.xl q h1) k.size) (fun h1 => (hF q h1).2)⟩

end Go.Proofs.YtleoelhhndeheaaGreat
