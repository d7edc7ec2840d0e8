/- VaultTurned: the drum from the vault's closing on -/
import Derived.Test.YtleoelhhndeheaaGreatVRawB
open Go Go.RowKit
open Go.Maps (Keyed has)
namespace Go.Proofs.YtleoelhhndeheaaGreat

theorem zb_set_ne {t : List Int} {p i : Nat} {y : Int} (h : i ≠ p) : zb (t.set p y) i = zb t i := by
  unfold zb
  rw [List.getElem?_set_ne (Ne.symm h)]
/-- a drum on which a vault was closed, and a map of texts beside it -/
structure TurnD (w1 w : World) (M : Dom) (d n : Nat) (lv : Int) (R : Rcs) (mw : Nat) (D : DT) (s : DS) (r : Int) (P : List (List Ent)) (V : Nat → List Int) : Prop where
  drum : DrumAt w M d s
  clo : Clo s r lv P V n
  ok : RcsOk R (homes n lv)
  hV : ∀ k z, laidT R k = some z → V k.toNat = z
  hH : 2 ≤ homes n lv ∧ homes n lv ≤ 600
  im : IMap w mw 4096 (strM D)
  nm : ¬ M mw
  since : Since w1 w M none'
/-- one track of it was turned -/
structure TurnE (w1 w : World) (M : Dom) (d n : Nat) (R : Rcs) (mw : Nat) (D : DT) (s : DS) : Prop where
  drum : DrumAt w M d s
  up : s.Up
  wf : s.Wf
  n : s.n = n
  ups : s.up.length ≤ 10
  ld : ∀ R2, loadV (rawT s) (rawH s) = some R2 → RcsOk R2 (rawH s) → R2 = R
  im : IMap w mw 4096 (strM D)
  nm : ¬ M mw
  since : Since w1 w M none'
section
variable {w1 w : World} {M : Dom} {d n : Nat} {lv : Int} {R : Rcs} {mw : Nat} {D : DT} {s : DS} {r : Int} {P : List (List Ent)} {V : Nat → List Int}
theorem VRun.closeT {N v : Nat} (h : VRun w1 w d n lv N v R R [(mw, D)]) (hN : N ≤ 999) : Calls Tryz.prog 19 #[.pointer (some ⟨v, 0, none⟩)] w fun e w' => e = .returned (.int .i64 0) ∧ ∃ M s r P V, TurnD w1 w' M d n lv R mw D s r P V := by
  obtain ⟨M, B, C, l, mb, s, L, V, h1, h2, h3⟩ := h.out
  obtain ⟨b1, b2, b3⟩ := h3 (mw, D) List.mem_cons_self
  obtain ⟨P, f⟩ := h1.live.full
  have hr := h1.live.round
  have hu := h1.live.up
  have hlv := h1.live.leaves
  have hn := h1.live.n
  obtain ⟨s', e1, cl, -⟩ := f.clo (by omega)
  refine (closeV_any h1.vs (Q := fun c w' => c = 0 ∧ ∃ M s r P V, TurnD w1 w' M d n lv R mw D s r P V) ((balance_any h1.vs.sys f.g.ok (by omega)).mono ?_)).mono ?_
  · rintro e w' ⟨rfl, M', B', mb', SY, T⟩
    rw [e1] at SY ⊢
    refine ⟨0, rfl, rfl, M', s', L.round, P, view L s, SY.drum, ?_, h1.okk, fun k z hz => ?_, h1.hH, b1.imap (T.vault (C := C)) b2, ?_, (h2.lstep (T.vault (C := C))).forget⟩
    · rw [hlv, hn] at cl; exact cl
    · have hk := laidT_rng h1.okk (by have := h1.hH; omega) (show (laidT R k).isSome by rw [hz]; rfl)
      rw [h1.live.v k.toNat (by rw [h1.live.H]; omega)]
      exact h1.view k z hz
    · exact ((b1.lstep (T.vault (C := C))).n.1.1)
  · rintro e w' ⟨c, rfl, rfl, k⟩
    exact ⟨rfl, k⟩
theorem TurnD.below {w' : World} (h : TurnD w1 w M d n lv R mw D s r P V) (k : Below w.heap.size w w') : TurnD w1 w' M d n lv R mw D s r P V :=
  ⟨h.drum.below k, h.clo, h.ok, h.hV, h.hH, h.im.below k (Nat.le_refl _), h.nm, h.since.to k⟩
theorem TurnD.look (h : TurnD w1 w M d n lv R mw D s r P V) (k : Int) (hk : 0 ≤ k ∧ k < n) :
    Calls Tryz.prog 20 #[.pointer (some ⟨d, 0, none⟩), .int .i64 k] w fun e w' => ∃ g c, e = .returned (.tuple #[.slice (some ⟨g, 0, none⟩) 96 c, .int .i64 0]) ∧ w.heap.size ≤ g ∧ BufAt w' g (s.now k.toNat) ∧ Below w.heap.size w w' := by
  refine (look_any h.drum k).mono ?_
  rintro e w' ⟨⟨hn, -⟩ | ⟨-, -, hb, -⟩ | ⟨-, -, -, a, c, rfl, O, hl, hb⟩, B⟩
  · exact absurd (by rw [h.clo.sz]; exact hk) hn
  · rw [h.clo.up.broken] at hb; cases hb
  · obtain ⟨g, rfl, hg, hbuf⟩ := BufAt.of_owns O hb hl
    exact ⟨g, c, rfl, hg, hbuf, B⟩
theorem TurnD.lay {w0 : World} (h : TurnD w1 w0 M d n lv R mw D s r P V) (kb : Below w0.heap.size w0 w) (k : Int) (hk : 0 ≤ k ∧ k < n) {g c : Nat} {zs : List Int} (hg : w0.heap.size ≤ g) (hb : BufAt w g zs) {off : Nat} (hs : ∀ i, i < 96 → (i < off ∨ off + 4 ≤ i) → zb zs i = zb (s.now k.toNat) i) :
    Calls Tryz.prog 21 #[.pointer (some ⟨d, 0, none⟩), .int .i64 k, .slice (some ⟨g, 0, none⟩) 96 c] w fun e w' => e = .returned (.int .i64 0) ∧ ∃ M' s', TurnE w1 w' M' d n R mw D s' := by
  have cl := h.clo
  have hn := cl.sz
  have hsz := kb.size
  have hml := h.im.lt
  obtain ⟨e1, e2⟩ := cl.up.layC (k := k) (by rw [hn]; exact hk) hb.len
  refine (lay_any (h.drum.below kb) k (some ⟨g, 0, none⟩) 96 c zs hb.row hb.len hb.bytes (fun h => by cases h) (fun _ hm => ?_) (by rw [cl.quiet]; decide)).mono ?_
  · obtain ⟨p, -, D⟩ := h.drum
    have := D.ml g hm
    omega
  · rintro e w' ⟨rfl, M', D', S⟩
    rw [e1] at D'
    rw [e2]
    have hnow : ∀ j, (s.lay1 k.toNat zs).now j = if j = k.toNat then zs else s.now j := fun j => by
      show upd s.now k.toNat zs j = _
      unfold upd
      rfl
    have wf2 : (s.lay1 k.toNat zs).Wf := fun j hj => by
      rw [hnow]
      split
      · exact ⟨hb.len, hb.bytes⟩
      · exact cl.wf j hj
    obtain ⟨t1, k0, t2, t3⟩ := cl.turned (s2 := s.lay1 k.toNat zs) (t := k.toNat) (off := off) (cl.up.lay1 _ _) hn (by omega) hnow ⟨hb.len, hb.bytes⟩ hs
    have hrH : rawH (s.lay1 k.toNat zs) = homes n lv := by unfold homes; omega
    refine ⟨rfl, M', _, D', cl.up.lay1 _ _, wf2, hn, ?_, fun R2 hl ok2 => ?_, ?_, fun hm => ?_, (h.since.to kb).step S⟩
    · show (s.up ++ [_]).length ≤ 10
      rw [cl.quiet]; simp
    · rw [hrH] at hl ok2 t2 t3
      exact load_turned (V := fun k => V k.toNat) (off := off) (k0 := k0) h.ok ⟨by have := h.hH; omega, by have := h.hH; omega⟩ h.hV t2 t3 hl ok2
    · exact (h.im.below kb (Nat.le_refl _)).ext S.ext h.nm
    · rcases S.new mw hm with hm | hm
      · exact h.nm hm
      · omega
theorem TurnE.settle (h : TurnE w1 w M d n R mw D s) : Calls Tryz.prog 22 #[.pointer (some ⟨d, 0, none⟩)] w fun e w' => e = .returned (.int .i64 0) ∧ ∃ M' s', TurnE w1 w' M' d n R mw D s' := by
  have hml := h.im.lt
  refine (settle_any h.drum).mono ?_
  rintro e w' ⟨rfl, M', D', S⟩
  rw [h.up.settle] at D'
  rw [h.up.code]
  refine ⟨rfl, M', _, D', h.up.settle1, h.wf, h.n, Nat.zero_le _, h.ld, h.im.ext S.ext h.nm, fun hm => ?_, h.since.step S⟩
  rcases S.new mw hm with hm | hm
  · exact h.nm hm
  · omega
theorem TurnE.opened (h : TurnE w1 w M d n R mw D s) (hn : 2 ≤ n ∧ n ≤ 4096) : Calls Tryz.prog 18 #[.pointer (some ⟨d, 0, none⟩)] w fun e w' => (e = .returned (.tuple #[.pointer none, .int .i64 11]) ∧ Below w1.heap.size w1 w') ∨ ∃ v H, e = .returned (.tuple #[.pointer (some ⟨v, 0, none⟩), .int .i64 0]) ∧ VGot w1 w' v H R ∧ IMap w' mw 4096 (strM D) := by
  refine (openVRaw h.drum h.up h.wf (by rw [h.n]; omega) (by rw [h.n]; omega) (by have := h.ups; omega)).mono ?_
  rintro e w' (⟨-, rfl, M', T⟩ | ⟨-, M', B', C', l, mb, v, s', L', R2, rfl, T, VS, lv, hH, ok, hl⟩)
  · exact .inl ⟨rfl, (h.since.lstep T).below⟩
  · obtain rfl := h.ld R2 hl ok
    exact .inr ⟨v, _, rfl, ⟨M', B', C', d, l, mb, s', L', VS, lv, hH, ok, (h.since.lstep T).below⟩, h.im.ext T.ext (fun hf => hf.elim h.nm (fun e => e.elim))⟩
theorem VGot.is {v H : Nat} (h : VGot w1 w v H R) (hm : IMap w mw 4096 (strM D)) (hD : DOk D) (hs : ∀ i, D i = R.data i) : Calls Tryz.prog 23 #[.pointer (some ⟨v, 0, none⟩), .map (some mw)] w fun e w' => e = .returned (.bool true) ∧ Below w1.heap.size w1 w' := by
  obtain ⟨M, B, C, d, l, mb, s, L, h1, h2, h3, h4, h5⟩ := h
  refine (is6_any h1 h2 h3 h4 hm hD).mono ?_
  rintro e w' ⟨rfl, k⟩
  rw [sameD_true hs]
  exact ⟨rfl, h5.trans (k.mono h5.size)⟩
end

end Go.Proofs.YtleoelhhndeheaaGreat
