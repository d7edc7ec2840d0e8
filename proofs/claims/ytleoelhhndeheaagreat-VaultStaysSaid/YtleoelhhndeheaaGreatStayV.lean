import Derived.Test.YtleoelhhndeheaaGreatRestC
import Derived.Test.YtleoelhhndeheaaGreatVKeepG
import Derived.Test.YtleoelhhndeheaaGreatLedN
import Derived.Test.YtleoelhhndeheaaGreatVltN
/- package ledger: a drum that may break, and what a fall leaves of it -/
open Go Go.RowKit
namespace Go.Proofs.YtleoelhhndeheaaGreat

/-- a drum on which a break may be set, and the same without -/
structure Mir (s u : DS) : Prop where
  eq : u = { s with fuse := none }
  br : s.broken = false
/-- the same for a fall -/
structure Fld (s u : DS) : Prop where
  n : s.n = u.n
  kept : s.kept = u.kept
  up : s.up = u.up
theorem Fld.trans {a b c : DS} (h : Fld a b) (k : Fld b c) : Fld a c := ⟨h.n.trans k.n, h.kept.trans k.kept, h.up.trans k.up⟩
theorem Mir.ups {s u : DS} (m : Mir s u) : u.Up := by rw [m.eq]; exact ⟨rfl, m.br⟩
theorem Mir.n {s u : DS} (m : Mir s u) : u.n = s.n := by rw [m.eq]
theorem Mir.fld {s u : DS} (m : Mir s u) : Fld s u := by rw [m.eq]; exact ⟨rfl, rfl, rfl⟩
theorem Mir.brk {s u : DS} (m : Mir s u) (a : Int) : Mir (s.brk a) u := ⟨by rw [m.eq]; rfl, m.br⟩
theorem Mir.of_up {u : DS} (h : u.Up) : Mir u u := ⟨by
  obtain ⟨n, kept, now, up, fuse, broken, turns⟩ := u
  have := h.fuse
  simp only at this
  subst this
  rfl, h.broken⟩
theorem Mir.turn {s u : DS} (m : Mir s u) : (s.goes = true ∧ Mir s.turn u.turn) ∨ (s.goes = false ∧ s.turn = { s with broken := true }) := by
  obtain ⟨n, kept, now, up, fuse, broken, turns⟩ := s
  obtain ⟨rfl, hb⟩ := m
  simp only at hb
  subst hb
  cases fuse with
  | none => exact .inl ⟨rfl, rfl, rfl⟩
  | some x =>
    by_cases h : x = 0
    · subst h; exact .inr ⟨rfl, rfl⟩
    · left
      have ht : DS.turn ⟨n, kept, now, up, some x, false, turns⟩ = ⟨n, kept, now, up, some (x - 1), false, more turns 1⟩ := by
        unfold DS.turn
        split
        · rename_i h2; simp at h2; exact absurd h2 h
        · rename_i y _ h2
          simp at h2
          subst h2
          rfl
        · rename_i h2; simp at h2
      unfold DS.goes
      rw [ht]
      exact ⟨rfl, rfl, rfl⟩
theorem Mir.lay {s u : DS} (m : Mir s u) {k : Int} {zs : List Int} (hk : 0 ≤ k ∧ k < s.n) (hz : zs.length = 96) :
    (s.layCode k zs = 0 ∧ Mir (s.lay k zs) (u.lay1 k.toNat zs)) ∨ (s.layCode k zs = 4 ∧ (s.lay k zs).broken = true ∧ Fld (s.lay k zs) u) := by
  have hf : s.fits k zs = true := by unfold DS.fits; simp; exact ⟨hk.1, hk.2, hz⟩
  have hu := m.ups.turn
  rcases m.turn with ⟨h1, h2⟩ | ⟨h1, h2⟩
  · left
    refine ⟨by unfold DS.layCode DS.code; rw [hf, h1]; rfl, ?_⟩
    have e : s.lay k zs = s.turn.laid k.toNat zs := by unfold DS.lay; rw [hf, h1]; rfl
    rw [e]
    have h3 := h2.eq
    rw [hu] at h3
    refine ⟨?_, h2.br⟩
    obtain ⟨t1, t2, t3, t4⟩ := turn_parts s
    have g := m.eq
    unfold DS.lay1 DS.laid
    simp only [DS.mk.injEq] at h3 ⊢
    obtain ⟨e1, e2, e3, e4, -, e6, e7⟩ := h3
    refine ⟨e1, e2, by rw [e3], by rw [e4], ?_, e6, e7⟩
    rw [g]
  · right
    have e : s.lay k zs = s.turn := by unfold DS.lay; rw [hf, h1]; rfl
    refine ⟨by unfold DS.layCode DS.code; rw [hf, h1]; rfl, by rw [e, h2], ?_⟩
    rw [e, h2]
    exact ⟨m.fld.n, m.fld.kept, m.fld.up⟩
theorem Mir.settle {s u : DS} (m : Mir s u) : (s.code = 0 ∧ Mir s.settle u.settle1) ∨ (s.code = 4 ∧ s.settle.broken = true ∧ Fld s.settle u) := by
  have hu := m.ups.turn
  rcases m.turn with ⟨h1, h2⟩ | ⟨h1, h2⟩
  · left
    refine ⟨by unfold DS.code; rw [h1]; rfl, ?_⟩
    have e : s.settle = { s.turn with kept := s.now, up := [] } := by unfold DS.settle; rw [h1]; rfl
    rw [e]
    have h3 := h2.eq
    rw [hu] at h3
    have g := m.eq
    refine ⟨?_, h2.br⟩
    unfold DS.settle1
    simp only [DS.mk.injEq] at h3 ⊢
    obtain ⟨e1, e2, e3, e4, -, e6, e7⟩ := h3
    exact ⟨e1, by rw [g], e3, trivial, by rw [g], e6, e7⟩
  · right
    have e : s.settle = s.turn := by unfold DS.settle; rw [h1]; rfl
    refine ⟨by unfold DS.code; rw [h1]; rfl, by rw [e, h2], ?_⟩
    rw [e, h2]
    exact ⟨m.fld.n, m.fld.kept, m.fld.up⟩
theorem lays_cons (s : DS) (x : Int × List Int) (l : List (Int × List Int)) : s.lays (x :: l) = if s.layCode x.1 x.2 = 0 then (s.lay x.1 x.2).lays l else (s.layCode x.1 x.2, s.lay x.1 x.2) := rfl
theorem Mir.lays {s u : DS} (m : Mir s u) : ∀ {l : List (Int × List Int)}, (∀ x ∈ l, (0 ≤ x.1 ∧ x.1 < s.n) ∧ x.2.length = 96) →
    ((s.lays l).1 = 0 ∧ Mir (s.lays l).2 (u.lays l).2) ∨ ((s.lays l).1 = 4 ∧ (s.lays l).2.broken = true ∧ ∃ l1 l2, l = l1 ++ l2 ∧ Fld (s.lays l).2 (u.lays l1).2) := by
  intro l
  induction l generalizing s u with
  | nil => intro _; exact .inl ⟨rfl, m⟩
  | cons y l ih =>
    intro hl
    obtain ⟨h1, h2⟩ := hl y (List.mem_cons_self ..)
    have hun := m.n
    obtain ⟨e1, e2⟩ := m.ups.layC (k := y.1) (by rw [hun]; exact h1) h2
    have hu : ∀ l', u.lays (y :: l') = (u.lay1 y.1.toNat y.2).lays l' := fun l' => by rw [lays_cons, if_pos e2, e1]
    rcases m.lay h1 h2 with ⟨c1, c2⟩ | ⟨c1, c2, c3⟩
    · have hn : (s.lay y.1 y.2).n = s.n := DS.lay_n' _ _ _
      have := ih c2 (fun x hx => by rw [hn]; exact hl x (List.mem_cons_of_mem _ hx))
      rw [lays_cons, if_pos c1, hu]
      rcases this with ⟨d1, d2⟩ | ⟨d1, d2, l1, l2, d3, d4⟩
      · exact .inl ⟨d1, d2⟩
      · exact .inr ⟨d1, d2, y :: l1, l2, by rw [d3]; rfl, by rw [hu]; exact d4⟩
    · rw [lays_cons, if_neg (by rw [c1]; decide)]
      exact .inr ⟨c1, c2, [], y :: l, rfl, c3⟩

/-- as a fall leaves it -/
theorem fall_same {s u : DS} (f : Fld s u) (keep : List Int) (torn cut : Int) : (s.fall keep torn cut).n = (u.fall keep torn cut).n ∧ (s.fall keep torn cut).now = (u.fall keep torn cut).now := by
  have key : ∀ k, s.fallTo keep torn (cutOf cut) k = u.fallTo keep torn (cutOf cut) k := by
    intro k
    induction k with
    | zero => exact f.kept
    | succ k ih =>
      show fallOne _ _ _ (s.fallTo keep torn (cutOf cut) k) k (s.up[k]?.getD _) = fallOne _ _ _ (u.fallTo keep torn (cutOf cut) k) k (u.up[k]?.getD _)
      rw [ih, f.up]
  refine ⟨f.n, ?_⟩
  show s.fallTo keep torn (cutOf cut) s.up.length = u.fallTo keep torn (cutOf cut) u.up.length
  rw [key, f.up]
theorem Rest.same {s s' : DS} {r lv : Int} {P : List (List Ent)} (h : Rest s r lv P) (hn : s'.n = s.n) (hw : s'.now = s.now) (hk : s'.kept = s'.now) (hu : s'.up = []) (up : s'.Up) : Rest s' r lv P := by
  have hl : s'.leavesOf lv = s.leavesOf lv := by unfold DS.leavesOf; rw [hw]
  exact ⟨up, fun k hk2 => by rw [hw]; exact h.wf k (by rw [← hn]; exact hk2), hu, hk, by rw [hn]; exact h.n, by rw [hn]; exact h.l, h.rb, by rw [hw]; exact h.c, by rw [hw]; exact h.o, by rw [hl, hn]; exact h.lvs, by rw [hw]; exact h.st, by rw [hn]; exact h.p⟩
theorem seen_same {s s' : DS} (hw : s'.now = s.now) (lv : Int) (P : List (List Ent)) (k : Nat) : seen s' lv P k = seen s lv P k := by unfold seen; rw [hw]
/-- however it falls, an opening will see one of these -/
def Safe (s : DS) (lv : Int) (r : Int) (A : (Nat → List Int) → Prop) : Prop :=
  ∀ keep torn cut, ∃ r' P V, r' ≤ r ∧ Rest (s.fall keep torn cut) r' lv P ∧ Xo r' lv ((s.fall keep torn cut).now ((r' + 1) % 2).toNat) ∧ A V ∧ ∀ k : Nat, (k : Int) < s.n - (2 + lv) → seen (s.fall keep torn cut) lv P k = V k
theorem Safe.fld {s u : DS} {lv r : Int} {A : (Nat → List Int) → Prop} (h : Safe u lv r A) (f : Fld s u) : Safe s lv r A := by
  intro keep torn cut
  obtain ⟨r', P, V, h1, h2, h3, h4, h5⟩ := h keep torn cut
  obtain ⟨e1, e2⟩ := fall_same f keep torn cut
  refine ⟨r', P, V, h1, h2.same e1 e2 rfl rfl (DS.Up.fall _ _ _ _), by rw [e2]; exact h3, h4, fun k hk => ?_⟩
  rw [seen_same e2]
  exact h5 k (by rw [← f.n]; exact hk)
theorem Safe.mono {s : DS} {lv r r' : Int} {A A' : (Nat → List Int) → Prop} (h : Safe s lv r A) (hr : r ≤ r') (hA : ∀ V, A V → A' V) : Safe s lv r' A' := by
  intro keep torn cut
  obtain ⟨r1, P, V, h1, h2, h3, h4, h5⟩ := h keep torn cut
  exact ⟨r1, P, V, by omega, h2, h3, hA V h4, h5⟩
/-- leaves afloat: an opening sees one of the views behind the first postings -/
def viewAt (t : Nat → List Int) (lv : Int) (P : List (List Ent)) (k : Nat) : List Int := match tknP P k with | some z => z | none => t (2 + lv.toNat + k)
theorem Float.safe {s : DS} {r lv : Int} {P : List (List Ent)} {p0 : Nat} {A : (Nat → List Int) → Prop} (f : Float s r lv P p0) (hx : Xo r lv (s.kept ((r + 1) % 2).toNat))
    (hA : ∀ p, p0 ≤ p → p ≤ P.length → ∃ V, A V ∧ ∀ k : Nat, (k : Int) < s.n - (2 + lv) → viewAt s.kept lv (P.take p) k = V k) : Safe s lv r A := by
  intro keep torn cut
  have h3 := f.rb
  have hl := f.l
  obtain ⟨p, p1, p2, R, hk⟩ := f.fall keep torn cut
  obtain ⟨V, v1, v2⟩ := hA p p1 p2
  have hc : (s.fall keep torn cut).now ((r + 1) % 2).toNat = s.kept ((r + 1) % 2).toNat := by
    have huniq : ∀ t y y', (t, y) ∈ s.up → (t, y') ∈ s.up → y = y' := fun t y y' ha hb => by
      obtain ⟨j, e1, e2, -⟩ := f.up t y ha
      obtain ⟨j', f1, f2, -⟩ := f.up t y' hb
      obtain rfl : j = j' := by omega
      rw [e2] at f2
      exact Option.some.inj f2
    have h96 : ∀ q ∈ s.up, q.2.length = 96 := fun q hq => by
      obtain ⟨j, -, e2, -⟩ := f.up q.1 q.2 hq
      exact (posts_stale (r := r) ⟨by omega, by omega⟩ P 1 f.p _ (List.mem_of_getElem? e2)).2
    rcases fall_track huniq h96 ((r + 1) % 2).toNat (f.kw _ (by omega)).1 keep torn cut with e | ⟨y, hm, -⟩
    · exact e
    · obtain ⟨j, e1, -⟩ := f.up _ y hm
      omega
  refine ⟨r, P.take p, V, Int.le_refl _, R, by rw [hc]; exact hx, v1, fun k hkk => ?_⟩
  rw [← v2 k hkk]
  unfold seen viewAt
  rw [hk _ (by omega) (by omega)]
  cases tknP (P.take p) (k : Int) <;> rfl

end Go.Proofs.YtleoelhhndeheaaGreat

/- package ledger: the way home on a drum that may break -/
open Go Go.RowKit
namespace Go.Proofs.YtleoelhhndeheaaGreat

/-- a torn cover of the next round -/
theorem Xo.torn {r lv : Int} (hr : 0 < r ∧ r < 250) {x : List Int} (hx : x.length = 96) (bx : IsBytes x) (h : Xo r lv x) (c : Nat) : tornZ c (coverT (r + 1) lv) x = coverT (r + 1) lv ∨ Xo r lv (tornZ c (coverT (r + 1) lv) x) := by
  have hy := coverT_length (r + 1) lv
  have byy := coverT_bytes (r + 1) lv
  by_cases he : tornZ c (coverT (r + 1) lv) x = coverT (r + 1) lv
  · exact .inl he
  right
  have t84 : ∀ x' : List Int, x'.length = 96 → (84 ≤ c ∨ x'.take 84 = (coverT (r + 1) lv).take 84) → (tornZ c (coverT (r + 1) lv) x').take 84 = (coverT (r + 1) lv).take 84 := fun x' hx' hc => by
    unfold tornZ
    by_cases h84 : 84 ≤ c
    · rw [List.take_append_of_le_length (by rw [List.length_take]; omega), List.take_take, show min 84 c = 84 by omega]
    · rcases hc with hc | hc
      · exact absurd hc h84
      · rw [List.take_append, List.length_take, List.take_of_length_le (by rw [List.length_take]; omega), show min c (coverT (r + 1) lv).length = c by omega]
        have e1 : (x'.drop c).take (84 - c) = (x'.take 84).drop c := by rw [List.drop_take]
        rw [e1, hc]
        have e2 : (coverT (r + 1) lv).take c = ((coverT (r + 1) lv).take 84).take c := by rw [List.take_take, show min c 84 = c by omega]
        rw [e2, List.take_append_drop]
  by_cases h84 : 84 ≤ c
  · exact .inr ⟨t84 x hx (.inl h84), he⟩
  · rcases h with h | ⟨h, -⟩
    · left
      have ht := small4 hx bx (i := 80) (by omega) (by omega) h
      have hy4 : num (cut (coverT (r + 1) lv) 80 4) < r + 2 := by rw [coverT_tail, num_lay4 ⟨by omega, by omega⟩]; omega
      have hys := small4 hy byy (i := 80) (by omega) (by omega) hy4
      refine small4_of (tornZ_len hy hx c) (by omega) ?_
      rw [zb_torn hy hx c 80 (by omega), zb_torn hy hx c (80 + 1) (by omega), zb_torn hy hx c (80 + 2) (by omega), zb_torn hy hx c (80 + 3) (by omega)]
      refine ⟨?_, ?_, ?_, ?_, ?_⟩
      · split <;> omega
      · split <;> omega
      · split <;> omega
      · rw [if_neg (by omega)]; omega
      · rw [if_neg (by omega)]; omega
    · exact .inr ⟨t84 x hx (.inr h), he⟩

/-- home tracks that are afloat: an opening sees what it saw -/
theorem homeSafe {u s' : DS} {r lv : Int} {P : List (List Ent)} {A : (Nat → List Int) → Prop} (R : Rest u r lv P) (hx : Xo r lv (u.now ((r + 1) % 2).toNat)) (hn : s'.n = u.n)
    (h1 : ∀ t, t < 2 + lv.toNat → s'.kept t = u.now t) (h2 : ∀ k : Nat, 2 + lv.toNat + k < u.n → tknP P k = none → s'.kept (2 + lv.toNat + k) = u.now (2 + lv.toNat + k)) (h3 : ∀ t, t < u.n → (s'.kept t).length = 96 ∧ IsBytes (s'.kept t))
    (h4 : ∀ t y, (t, y) ∈ s'.up → ∃ k : Nat, t = 2 + lv.toNat + k ∧ tknP P k = some y) (hz : ∀ (k : Int) y, tknP P k = some y → y.length = 96 ∧ IsBytes y) (hA : A (seen u lv P)) : Safe s' lv r A := by
  intro keep torn cut
  have hl := R.l
  have hrb := R.rb
  have huniq : ∀ t y y', (t, y) ∈ s'.up → (t, y') ∈ s'.up → y = y' := fun t y y' ha hb => by
    obtain ⟨j, e1, e2⟩ := h4 t y ha
    obtain ⟨j', f1, f2⟩ := h4 t y' hb
    obtain rfl : j = j' := by omega
    rw [e2] at f2
    exact Option.some.inj f2
  have h96 : ∀ q ∈ s'.up, q.2.length = 96 := fun q hq => by
    obtain ⟨j, -, e2⟩ := h4 q.1 q.2 hq
    exact (hz _ _ e2).1
  have FT := fun t (ht : t < u.n) => fall_track huniq h96 t (h3 t ht).1 keep torn cut
  have low : ∀ t, t < 2 + lv.toNat → (s'.fall keep torn cut).now t = u.now t := fun t ht => by
    rcases FT t (by omega) with e | ⟨y, hm, -⟩
    · rw [e, h1 t ht]
    · obtain ⟨k, e1, -⟩ := h4 t y hm
      omega
  have hwf : ∀ t, t < u.n → ((s'.fall keep torn cut).now t).length = 96 ∧ IsBytes ((s'.fall keep torn cut).now t) := fun t ht => by
    rcases FT t ht with e | ⟨y, hm, e | ⟨c, e⟩⟩
    · rw [e]; exact h3 t ht
    · obtain ⟨k, -, e2⟩ := h4 t y hm
      rw [e]; exact hz _ _ e2
    · obtain ⟨k, -, e2⟩ := h4 t y hm
      rw [e]; exact ⟨tornZ_len (hz _ _ e2).1 (h3 t ht).1 c, tornZ_bytes (hz _ _ e2).2 (h3 t ht).2 c⟩
  have hlv : (s'.fall keep torn cut).leavesOf lv = u.leavesOf lv := by
    unfold DS.leavesOf
    refine List.map_congr_left fun k hk => ?_
    have := List.mem_range.1 hk
    exact low _ (by omega)
  have hn2 : (s'.fall keep torn cut).n = u.n := hn
  refine ⟨r, P, _, Int.le_refl _, ⟨DS.Up.fall _ _ _ _, fun k hk => hwf k (by rw [← hn2]; exact hk), rfl, rfl, by rw [hn2]; exact R.n, by rw [hn2]; exact hl, hrb, by rw [low _ (by omega)]; exact R.c, by rw [low _ (by omega)]; exact R.o, by rw [hlv, hn2]; exact R.lvs, fun k hk => by rw [low _ (by omega)]; exact R.st k hk, by rw [hn2]; exact R.p⟩, by rw [low _ (by omega)]; exact hx, hA, fun k hk => ?_⟩
  unfold seen
  cases hh : tknP P k with
  | some z => rfl
  | none =>
    rw [hn] at hk
    rcases FT (2 + lv.toNat + k) (by omega) with e | ⟨y, hm, -⟩
    · show (s'.fall keep torn cut).now _ = _
      rw [e]; exact h2 k (by omega) hh
    · obtain ⟨k', e1, e2⟩ := h4 _ y hm
      obtain rfl : k = k' := by omega
      rw [hh] at e2; cases e2
/-- the next round's cover is afloat -/
theorem coverSafe {u s' : DS} {r lv : Int} {P : List (List Ent)} {A : (Nat → List Int) → Prop} (R : Rest u r lv P) (hr9 : r < 249) (hx : Xo r lv (u.now ((r + 1) % 2).toNat)) (hn : s'.n = u.n)
    (h1 : ∀ t, t < 2 + lv.toNat → s'.kept t = u.now t) (h2 : ∀ k : Nat, 2 + lv.toNat + k < u.n → s'.kept (2 + lv.toNat + k) = seen u lv P k) (hz : ∀ (k : Int) y, tknP P k = some y → y.length = 96 ∧ IsBytes y)
    (hu : ∀ t y, (t, y) ∈ s'.up → t = ((r + 1) % 2).toNat ∧ y = coverT (r + 1) lv) (hA : A (seen u lv P)) : Safe s' lv (r + 1) A := by
  have hl := R.l
  have hrb := R.rb
  have hsw : ∀ k : Nat, 2 + lv.toNat + k < u.n → (seen u lv P k).length = 96 ∧ IsBytes (seen u lv P k) := fun k hk => by
    unfold seen
    cases hh : tknP P k with
    | some z => exact hz _ _ hh
    | none => exact R.wf _ hk
  have h3 : ∀ t, t < u.n → (s'.kept t).length = 96 ∧ IsBytes (s'.kept t) := fun t ht => by
    by_cases hlo : t < 2 + lv.toNat
    · rw [h1 t hlo]; exact R.wf t ht
    · obtain ⟨k, rfl⟩ : ∃ k, t = 2 + lv.toNat + k := ⟨t - (2 + lv.toNat), by omega⟩
      rw [h2 k ht]; exact hsw k ht
  intro keep torn cut
  have huniq : ∀ t y y', (t, y) ∈ s'.up → (t, y') ∈ s'.up → y = y' := fun t y y' ha hb => by rw [(hu t y ha).2, (hu t y' hb).2]
  have h96 : ∀ q ∈ s'.up, q.2.length = 96 := fun q hq => by rw [(hu q.1 q.2 hq).2]; exact coverT_length _ _
  have FT := fun t (ht : t < u.n) => fall_track huniq h96 t (h3 t ht).1 keep torn cut
  have oth : ∀ t, t < u.n → t ≠ ((r + 1) % 2).toNat → (s'.fall keep torn cut).now t = s'.kept t := fun t ht hne => by
    rcases FT t ht with e | ⟨y, hm, -⟩
    · exact e
    · exact absurd (hu t y hm).1 hne
  have hct : ((r + 1) % 2).toNat < u.n := by omega
  have hcx : s'.kept ((r + 1) % 2).toNat = u.now ((r + 1) % 2).toNat := h1 _ (by omega)
  have hcw := R.wf _ hct
  have cov : (s'.fall keep torn cut).now ((r + 1) % 2).toNat = coverT (r + 1) lv ∨ Xo r lv ((s'.fall keep torn cut).now ((r + 1) % 2).toNat) := by
    rcases FT _ hct with e | ⟨y, hm, e | ⟨c, e⟩⟩
    · right; rw [e, hcx]; exact hx
    · left; rw [e]; exact (hu _ y hm).2
    · rw [e, (hu _ y hm).2, hcx]
      exact hx.torn hrb hcw.1 hcw.2 c
  have hwf : ∀ t, t < u.n → ((s'.fall keep torn cut).now t).length = 96 ∧ IsBytes ((s'.fall keep torn cut).now t) := fun t ht => by
    rcases FT t ht with e | ⟨y, hm, e | ⟨c, e⟩⟩
    · rw [e]; exact h3 t ht
    · rw [e, (hu _ y hm).2]; exact ⟨coverT_length _ _, coverT_bytes _ _⟩
    · rw [e, (hu _ y hm).2]; exact ⟨tornZ_len (coverT_length _ _) (h3 t ht).1 c, tornZ_bytes (coverT_bytes _ _) (h3 t ht).2 c⟩
  have leaf : ∀ k, k < lv.toNat → (s'.fall keep torn cut).now (2 + k) = u.now (2 + k) := fun k hk => by rw [oth _ (by omega) (by omega), h1 _ (by omega)]
  have home : ∀ k : Nat, 2 + lv.toNat + k < u.n → (s'.fall keep torn cut).now (2 + lv.toNat + k) = seen u lv P k := fun k hk => by rw [oth _ hk (by omega), h2 k hk]
  have hcr : (s'.fall keep torn cut).now (r % 2).toNat = coverT r lv := by rw [oth _ (by omega) (by omega), h1 _ (by omega), R.c]
  have hlv : (s'.fall keep torn cut).leavesOf lv = u.leavesOf lv := by
    unfold DS.leavesOf
    refine List.map_congr_left fun k hk => ?_
    exact leaf k (List.mem_range.1 hk)
  have hn2 : (s'.fall keep torn cut).n = u.n := hn
  rcases cov with hc | hc
  · -- the next round
    have hst : ∀ z ∈ u.leavesOf lv, Stale (r + 1) z ∧ z.length = 96 := fun z hzm => by
      obtain ⟨k, hk, rfl⟩ := List.mem_map.1 hzm
      have hk := List.mem_range.1 hk
      exact ⟨R.st k hk, (R.wf _ (by omega)).1⟩
    refine ⟨r + 1, [], _, Int.le_refl _, ⟨DS.Up.fall _ _ _ _, fun k hk => hwf k (by rw [← hn2]; exact hk), rfl, rfl, by rw [hn2]; exact R.n, by rw [hn2]; exact hl, ⟨by omega, by omega⟩, hc, ?_, ⟨u.leavesOf lv, by rw [hlv]; rfl, ?_⟩, fun k hk => ?_, fun e he => by cases he⟩, ?_, hA, fun k hk => ?_⟩
    · right; left
      rw [show ((r + 1 + 1) % 2).toNat = (r % 2).toNat by omega, hcr, coverT_tail, num_lay4 ⟨by omega, by omega⟩]
      omega
    · rw [hn2]
      exact whole_stale ⟨by omega, by omega⟩ (fun z hz => (hst z hz).1) (fun z hz => (hst z hz).2) _ _ (by have := R.n; omega)
    · rw [leaf k hk]
      exact (R.st k hk).le (by omega)
    · left
      rw [show ((r + 1 + 1) % 2).toNat = (r % 2).toNat by omega, hcr, coverT_tail, num_lay4 ⟨by omega, by omega⟩]
      omega
    · rw [hn] at hk
      show (s'.fall keep torn cut).now (2 + lv.toNat + k) = _
      exact home k (by omega)
  · refine ⟨r, P, _, by omega, ⟨DS.Up.fall _ _ _ _, fun k hk => hwf k (by rw [← hn2]; exact hk), rfl, rfl, by rw [hn2]; exact R.n, by rw [hn2]; exact hl, hrb, hcr, .inr hc, by rw [hlv, hn2]; exact R.lvs, fun k hk => by rw [leaf k hk]; exact R.st k hk, by rw [hn2]; exact R.p⟩, hc, hA, fun k hk => ?_⟩
    rw [hn] at hk
    show (match tknP P k with | some z => z | none => (s'.fall keep torn cut).now (2 + lv.toNat + k)) = _
    rw [home k (by omega)]
    unfold seen
    cases hh : tknP P k with
    | some z => rfl
    | none => rfl

end Go.Proofs.YtleoelhhndeheaaGreat

/- package ledger: what a ledger does on a drum that may break -/
open Go Go.RowKit
namespace Go.Proofs.YtleoelhhndeheaaGreat

theorem seen_view {L : LS} {u : DS} {P : List (List Ent)} (ht : L.taken = tknP P) (k : Nat) : seen u L.leaves P k = view L u k := by
  unfold seen view; rw [ht]; cases tknP P (k : Int) <;> rfl
theorem Full.rest {L : LS} {u : DS} {P : List (List Ent)} (f : Full L u P) (hk : u.kept = u.now) (hu : u.up = []) (hr : L.round < 250) (hx : Xo L.round L.leaves (u.now ((L.round + 1) % 2).toNat)) : Rest u L.round L.leaves P := by
  have hl := f.g.ok.l
  have h3 := f.g.r
  have hH : ((L.H u : Nat) : Int) = (u.n : Int) - (2 + L.leaves) := by unfold LS.H; omega
  obtain ⟨rest, h1, h2⟩ := f.g.lv
  have hw : ∀ z ∈ u.leavesOf L.leaves, z.length = 96 := fun z hz => by
    obtain ⟨k, hk, rfl⟩ := List.mem_map.1 hz
    have := List.mem_range.1 hk
    exact (f.g.wf _ (by omega)).1
  refine ⟨f.g.up, f.g.wf, hu, hk, f.g.ok.n1, hl, ⟨h3.1, hr⟩, f.g.c, .inr hx, ⟨rest, h1, ?_⟩, fun k hk => ?_, fun e he => by rw [← hH]; exact f.g.p e he⟩
  · exact whole_stale ⟨by omega, by omega⟩ h2 (fun z hz => hw z (by rw [h1]; exact List.mem_append_right _ hz)) _ _ (by have := f.g.ok.n1; omega)
  · have hm : u.now (2 + k) ∈ u.leavesOf L.leaves := List.mem_map.2 ⟨k, List.mem_range.2 hk, rfl⟩
    rw [h1] at hm
    rcases List.mem_append.1 hm with hm | hm
    · exact (posts_stale ⟨by omega, by omega⟩ P 1 f.g.p _ hm).1
    · exact (h2 _ hm).le (by omega)
/-- home: the next round -/
theorem Rest.homeTo {u u' : DS} {r lv : Int} {P : List (List Ent)} {L : LS} (h : Rest u r lv P) (hLr : L.round = r) (hLl : L.leaves = lv) (hLt : L.taken = tknP P) (hlo : L.lost = false) (ok : L.Ok u) (k2 : HomeTo L u u') :
    Full L.next u' [] ∧ (∀ k, k < L.H u → view L.next u' k = seen u lv P k) ∧ u'.now (r % 2).toNat = coverT r lv := by
  subst hLr
  subst hLl
  have h1 := h.l
  have h2 := h.n
  have h3 := h.rb
  have hwf := k2.wf ok h.wf
  have hnow := k2.now
  have kn := k2.n
  have hst : ∀ k, k < L.leaves.toNat → u'.now (2 + k) = u.now (2 + k) := fun k hk => by rw [hnow, if_neg (by omega), if_neg (by omega)]
  have hc : u'.now (L.round % 2).toNat = coverT L.round L.leaves := by rw [hnow, if_neg (by omega), if_neg (by omega), h.c]
  refine ⟨⟨⟨k2.up, hwf, ⟨by rw [kn]; omega, by show 0 ≤ L.round + 1 ∧ L.round + 1 < _; omega, by rw [kn]; exact h1, by show (0 : Int) ≤ 0 ∧ 0 ≤ L.leaves; omega, by show (0 : Int) ≤ 0 ∧ (0 : Int) < _; omega, (fun x hx => by cases hx), (fun x zs hx => by cases hx)⟩, by show 0 < L.round + 1 ∧ L.round + 1 < _; omega, ?_, ?_, ⟨u'.leavesOf L.leaves, rfl, ?_⟩, (fun e he => by cases he), rfl⟩, rfl, rfl, hlo⟩, fun k hk => ?_, hc⟩
  · show u'.now ((L.round + 1) % 2).toNat = coverT (L.round + 1) L.leaves
    rw [hnow, if_pos rfl]
  · show num (cut (u'.now ((L.round + 1 + 1) % 2).toNat) 0 4) < L.round + 1
    rw [show ((L.round + 1 + 1) % 2).toNat = (L.round % 2).toNat by omega, hc, coverT_round, num_lay4 ⟨by omega, by omega⟩]
    omega
  · intro z hz
    show Stale (L.round + 1) z
    obtain ⟨k, hk, rfl⟩ := List.mem_map.1 hz
    have hk := List.mem_range.1 hk
    rw [hst k hk]
    exact h.st k hk
  · rw [seen_view hLt]
    show u'.now (2 + L.leaves.toNat + k) = _
    unfold LS.H at hk
    rw [hnow, if_neg (by omega), if_pos ⟨by omega, by omega⟩, show 2 + L.leaves.toNat + k - (2 + L.leaves.toNat) = k by omega]

set_option maxHeartbeats 1000000 in
theorem goHomeF {s u : DS} {r lv : Int} {P : List (List Ent)} {L : LS} (R : Rest u r lv P) (hr9 : r < 249) (hx : Xo r lv (u.now ((r + 1) % 2).toNat)) (hLr : L.round = r) (hLl : L.leaves = lv) (hLt : L.taken = tknP P) (ok : L.Ok u) (m : Mir s u) :
    (∃ s' u', L.goHome s = (0, L.next, s') ∧ Mir s' u' ∧ HomeTo L u u') ∨ (∃ L' s', L.goHome s = (4, L', s') ∧ s'.broken = true ∧ Safe s' lv (r + 1) (fun V => V = seen u lv P)) := by
  subst hLr
  subst hLl
  have hl := R.l
  have hrb := R.rb
  have hun := m.n
  have hHs : L.H s = L.H u := by unfold LS.H; rw [hun]
  have hH : ((L.H u : Nat) : Int) = (u.n : Int) - (2 + L.leaves) := by unfold LS.H; omega
  have hz : ∀ (k : Int) y, tknP P k = some y → y.length = 96 ∧ IsBytes y := fun k y hk => ok.z k y (by rw [hLt]; exact hk)
  obtain ⟨hls, hhls⟩ : ∃ hls, L.homeLays (L.H u) = hls := ⟨_, rfl⟩
  have hmem : ∀ x ∈ hls, ∃ k : Nat, x.1 = 2 + L.leaves + k ∧ (k : Int) < u.n - (2 + L.leaves) ∧ tknP P k = some x.2 := fun x hx => by
    rw [← hhls, homeLays_eq] at hx
    obtain ⟨k, hk, rfl⟩ := List.mem_map.1 hx
    obtain ⟨⟨k1, k2⟩, k3⟩ := homeKeys_mem.1 hk
    obtain ⟨z, hz⟩ := Option.isSome_iff_exists.1 k3
    refine ⟨k.toNat, by show 2 + L.leaves + k = _; omega, by omega, ?_⟩
    rw [show ((k.toNat : Nat) : Int) = k by omega, ← hLt, hz]
    show some z = some ((L.taken k).getD [])
    rw [hz]; rfl
  have hfit : ∀ x ∈ hls, (0 ≤ x.1 ∧ x.1 < s.n) ∧ x.2.length = 96 := fun x hx => by
    obtain ⟨k, e1, e2, e3⟩ := hmem x hx
    exact ⟨⟨by omega, by omega⟩, (hz _ _ e3).1⟩
  have hfitu : ∀ x ∈ hls, (0 ≤ x.1 ∧ x.1 < u.n) ∧ x.2.length = 96 := fun x hx => by rw [hun]; exact hfit x hx
  obtain ⟨a1, a2, a3, a4, a5, a6⟩ := m.ups.lays hfitu
  -- the same without a break
  obtain ⟨u9, g1, g2⟩ := goHome_up m.ups ok
  have htu := a2.settle1.turned (r := L.round + 1) (l := L.leaves) (s := (u.lays hls).2.settle1) (by show 2 ≤ (u.lays hls).2.n; rw [a3]; omega) (by omega)
  have g3 : L.goHome u = (0, L.next, (((u.lays hls).2.settle1).lay1 ((L.round + 1) % 2).toNat (coverT (L.round + 1) L.leaves)).settle1) := by
    unfold LS.goHome
    rw [hhls, if_pos a1, if_pos a2.code, a2.settle, htu, if_pos rfl]
    rfl
  have e9 : u9 = (((u.lays hls).2.settle1).lay1 ((L.round + 1) % 2).toNat (coverT (L.round + 1) L.leaves)).settle1 := by
    rw [g3] at g1
    exact ((Prod.mk.inj (Prod.mk.inj g1).2).2).symm
  -- what is laid home
  have safeHome : ∀ s' : DS, Fld s' u ∨ (∃ l1 l2, hls = l1 ++ l2 ∧ Fld s' (u.lays l1).2) → Safe s' L.leaves (L.round + 1) (fun V => V = seen u L.leaves P) := fun s' hs => by
    have base : s'.n = u.n ∧ s'.kept = u.kept ∧ ∀ t y, (t, y) ∈ s'.up → ∃ k : Nat, t = 2 + L.leaves.toNat + k ∧ tknP P k = some y := by
      rcases hs with hs | ⟨l1, l2, e1, hs⟩
      · refine ⟨hs.n, hs.kept, fun t y hm => ?_⟩
        rw [hs.up, R.quiet] at hm
        cases hm
      · obtain ⟨b1, b2, b3, b4, b5, b6⟩ := m.ups.lays (l := l1) (fun x hx => hfitu x (by rw [e1]; exact List.mem_append_left _ hx))
        refine ⟨hs.n.trans b3, hs.kept.trans b5, fun t y hm => ?_⟩
        rw [hs.up, b6, R.quiet, List.nil_append] at hm
        obtain ⟨x, hx, hxe⟩ := List.mem_map.1 hm
        obtain ⟨k, e2, e3, e4⟩ := hmem x (by rw [e1]; exact List.mem_append_left _ hx)
        cases hxe
        exact ⟨k, by omega, e4⟩
    refine (homeSafe (A := fun V => V = seen u L.leaves P) R hx base.1 (fun t ht => by rw [base.2.1, R.kept]) (fun k _ _ => by rw [base.2.1, R.kept]) (fun t ht => by rw [base.2.1, R.kept]; exact R.wf t ht) base.2.2 hz rfl).mono (by omega) (fun V h => h)
  have hG : L.goHome s = if (s.lays hls).1 = 0 then
      if (s.lays hls).2.code = 0 then
        if ((s.lays hls).2.settle.turned (L.round + 1) L.leaves).1 = 0 then
          (0, L.next, ((s.lays hls).2.settle.turned (L.round + 1) L.leaves).2)
        else (((s.lays hls).2.settle.turned (L.round + 1) L.leaves).1, { L with round := L.round + 1 }, ((s.lays hls).2.settle.turned (L.round + 1) L.leaves).2)
      else ((s.lays hls).2.code, L, (s.lays hls).2.settle)
    else ((s.lays hls).1, L, (s.lays hls).2) := by
    unfold LS.goHome
    rw [hHs, hhls]
    rfl
  rcases m.lays hfit with ⟨c1, m1⟩ | ⟨c1, c2, l1, l2, c3, c4⟩
  · rw [if_pos c1] at hG
    rcases m1.settle with ⟨d1, m2⟩ | ⟨d1, d2, d3⟩
    · rw [if_pos d1] at hG
      obtain ⟨u2, hu2⟩ : ∃ u2, (u.lays hls).2.settle1 = u2 := ⟨_, rfl⟩
      rw [hu2] at m2 e9
      obtain ⟨s2, hs2⟩ : ∃ s2, (s.lays hls).2.settle = s2 := ⟨_, rfl⟩
      rw [hs2] at m2 hG
      have n2 : u2.n = u.n := by rw [← hu2]; exact a3
      have up2 : u2.up = [] := by rw [← hu2]; rfl
      have kp2 : u2.kept = u2.now := by rw [← hu2]; rfl
      have nw2 : u2.now = nowAfter u.now hls := by rw [← hu2]; exact a4
      have low2 : ∀ t, t < 2 + L.leaves.toNat → u2.kept t = u.now t := fun t ht => by
        rw [kp2, nw2]
        refine nowAfter_not fun x hx => ?_
        obtain ⟨k, e1, -⟩ := hmem x hx
        omega
      have hom2 : ∀ k : Nat, 2 + L.leaves.toNat + k < u.n → u2.kept (2 + L.leaves.toNat + k) = seen u L.leaves P k := fun k hk => by
        have h9 := g2.now (2 + L.leaves.toNat + k)
        rw [if_neg (by omega), if_pos ⟨by omega, hk⟩, e9] at h9
        have h8 : ((u2.lay1 ((L.round + 1) % 2).toNat (coverT (L.round + 1) L.leaves)).settle1).now (2 + L.leaves.toNat + k) = u2.now (2 + L.leaves.toNat + k) := by
          show upd u2.now _ _ _ = _
          rw [upd_ne _ _ (by omega)]
        rw [h8] at h9
        rw [kp2, h9, seen_view hLt, show 2 + L.leaves.toNat + k - (2 + L.leaves.toNat) = k by omega]
      have ns2 : s2.n = u.n := by rw [← m2.n]; exact n2
      have hT : s2.turned (L.round + 1) L.leaves = if s2.layCode ((L.round + 1) % 2) (coverT (L.round + 1) L.leaves) = 0 then ((s2.lay ((L.round + 1) % 2) (coverT (L.round + 1) L.leaves)).code, (s2.lay ((L.round + 1) % 2) (coverT (L.round + 1) L.leaves)).settle) else (s2.layCode ((L.round + 1) % 2) (coverT (L.round + 1) L.leaves), s2.lay ((L.round + 1) % 2) (coverT (L.round + 1) L.leaves)) := rfl
      rcases m2.lay (k := (L.round + 1) % 2) (zs := coverT (L.round + 1) L.leaves) ⟨by omega, by omega⟩ (coverT_length _ _) with ⟨e1, m3⟩ | ⟨e1, e2, e3⟩
      · rw [if_pos e1] at hT
        rcases m3.settle with ⟨f1, m4⟩ | ⟨f1, f2, f3⟩
        · left
          rw [hT, f1, if_pos rfl] at hG
          exact ⟨_, _, hG, by rw [e9]; exact m4, g2⟩
        · right
          rw [hT, f1, if_neg (show ¬ ((4 : Int) = 0) by decide)] at hG
          refine ⟨_, _, hG, f2, coverSafe R hr9 hx (f3.n.trans n2) (fun t ht => by rw [f3.kept]; exact low2 t ht) (fun k hk => by rw [f3.kept]; exact hom2 k hk) hz (fun t y hm => ?_) rfl⟩
          rw [f3.up] at hm
          have hm : (t, y) ∈ u2.up ++ [(((L.round + 1) % 2).toNat, coverT (L.round + 1) L.leaves)] := hm
          rw [up2, List.nil_append, List.mem_singleton] at hm
          cases hm
          exact ⟨rfl, rfl⟩
      · right
        rw [if_neg (by rw [e1]; decide)] at hT
        rw [hT, e1, if_neg (show ¬ ((4 : Int) = 0) by decide)] at hG
        refine ⟨_, _, hG, e2, coverSafe R hr9 hx (e3.n.trans n2) (fun t ht => by rw [e3.kept]; exact low2 t ht) (fun k hk => by rw [e3.kept]; exact hom2 k hk) hz (fun t y hm => ?_) rfl⟩
        rw [e3.up, up2] at hm
        cases hm
    · right
      rw [if_neg (by rw [d1]; decide), d1] at hG
      exact ⟨_, _, hG, d2, safeHome _ (.inr ⟨hls, [], by simp, d3⟩)⟩
  · right
    rw [if_neg (by rw [c1]; decide), c1] at hG
    exact ⟨_, _, hG, c2, safeHome _ (.inr ⟨l1, l2, c3, c4⟩)⟩

end Go.Proofs.YtleoelhhndeheaaGreat

/- package ledger: the calls of a ledger that goes, on a drum that may break -/
open Go Go.RowKit
namespace Go.Proofs.YtleoelhhndeheaaGreat

/-- A: what an opening may see behind a fall; V: what is seen now -/
structure Alv1 (L : LS) (s : DS) (A : (Nat → List Int) → Prop) (V : Nat → List Int) (u : DS) (P : List (List Ent)) (p0 : Nat) : Prop where
  m : Mir s u
  f : Full L u P
  fl : Float u L.round L.leaves P p0
  x : Xo L.round L.leaves (u.kept ((L.round + 1) % 2).toNat)
  kh : ∀ t, t < 2 ∨ 2 + L.leaves.toNat ≤ t → u.kept t = u.now t
  va : ∀ p, p0 ≤ p → p ≤ P.length → ∃ V', A V' ∧ ∀ k : Nat, (k : Int) < s.n - (2 + L.leaves) → viewAt u.kept L.leaves (P.take p) k = V' k
  now : ∀ k : Nat, (k : Int) < s.n - (2 + L.leaves) → view L u k = V k
def Alv (L : LS) (s : DS) (A : (Nat → List Int) → Prop) (V : Nat → List Int) : Prop := ∃ u P p0, Alv1 L s A V u P p0

theorem Alv1.safe {L : LS} {s : DS} {A : (Nat → List Int) → Prop} {V : Nat → List Int} {u : DS} {P : List (List Ent)} {p0 : Nat} (h : Alv1 L s A V u P p0) : Safe s L.leaves L.round A :=
  (h.fl.safe h.x (fun p h1 h2 => by
    obtain ⟨V', v1, v2⟩ := h.va p h1 h2
    exact ⟨V', v1, fun k hk => v2 k (by rw [← h.m.n]; exact hk)⟩)).fld h.m.fld
theorem viewAt_view {L : LS} {u : DS} {P : List (List Ent)} (ht : L.taken = tknP P) (k : Nat) : viewAt u.now L.leaves P k = view L u k := by
  unfold viewAt view; rw [ht]; cases tknP P (k : Int) <;> rfl
theorem viewAt_snoc (t : Nat → List Int) (lv : Int) (P : List (List Ent)) (el : List Ent) (k : Nat) : viewAt t lv (P ++ [el]) k = over el k (viewAt t lv P k) := by
  have e : tknP (P ++ [el]) = putL (tknP P) el := by unfold tknP; rw [List.foldl_append]; rfl
  unfold viewAt over
  rw [e, putL_or]
  cases putL (fun _ => none) el k with
  | some y => rfl
  | none => rfl
theorem viewAt_congr {t t' : Nat → List Int} {lv : Int} {P : List (List Ent)} {k : Nat} (h : t (2 + lv.toNat + k) = t' (2 + lv.toNat + k)) : viewAt t lv P k = viewAt t' lv P k := by unfold viewAt; rw [h]
theorem Full.floatAll {L : LS} {s : DS} {P : List (List Ent)} (f : Full L s P) (hk : s.kept = s.now) (hu : s.up = []) (hr : L.round < 250) : Float s L.round L.leaves P P.length := by
  have hl := f.g.ok.l
  have h3 := f.g.r
  have hH : ((L.H s : Nat) : Int) = (s.n : Int) - (2 + L.leaves) := by unfold LS.H; omega
  obtain ⟨rest, h1, h2⟩ := f.g.lv
  have hlen := leavesOf_len s L.leaves
  rw [h1, List.length_append] at hlen
  have htk : P.take P.length = P := List.take_length
  have get : ∀ j, j < L.leaves.toNat → (postsFrom L.round 1 P ++ rest)[j]? = some (s.now (2 + j)) := fun j hj => by rw [← h1]; exact leavesOf_get _ _ _ hj
  refine ⟨by rw [hk]; exact f.g.wf, f.g.ok.n1, hl, ⟨h3.1, hr⟩, by rw [hk]; exact f.g.c, .inl (by rw [hk]; exact f.g.o), fun e he => by rw [← hH]; exact f.g.p e he, fun z hz => ?_, Nat.le_refl _, by omega, fun j hj => ?_, fun j hj hj2 => ?_, fun t y hm => by rw [hu] at hm; cases hm⟩
  · obtain ⟨j, hj⟩ := List.getElem?_of_mem hz
    have hjl := (List.getElem?_eq_some_iff.1 hj).1
    have := get j (by omega)
    rw [List.getElem?_append_left hjl, hj] at this
    rw [Option.some.inj this]
    exact (f.g.wf _ (by omega)).2
  · rw [htk] at hj
    have := get j (by omega)
    rw [List.getElem?_append_left hj] at this
    rw [this, hk]
  · rw [htk] at hj
    have := get j hj2
    rw [List.getElem?_append_right hj] at this
    rw [hk]
    exact h2 _ (List.mem_of_getElem? this)

theorem goHome_n (L : LS) (s : DS) : (L.goHome s).2.2.n = s.n := by
  unfold LS.goHome
  split
  · split
    · split
      · show (DS.turned _ _ _).2.n = _
        rw [(DS.turned_n _ _ _).1, DS.settle_n', (DS.lays_n _ _).1]
      · show (DS.turned _ _ _).2.n = _
        rw [(DS.turned_n _ _ _).1, DS.settle_n', (DS.lays_n _ _).1]
    · show (DS.settle _).n = _
      rw [DS.settle_n', (DS.lays_n _ _).1]
  · exact (DS.lays_n _ _).1
/-- settled, all of it -/
theorem Alv1.settled {L : LS} {s : DS} {A A' : (Nat → List Int) → Prop} {V : Nat → List Int} {u : DS} {P : List (List Ent)} {p0 : Nat} (h : Alv1 L s A V u P p0) (hA : A' V) :
    (L.settle s = (0, L, s.settle) ∧ Alv1 L s.settle A' V u.settle1 P P.length) ∨ (∃ L', L.settle s = (4, L', s.settle) ∧ s.settle.broken = true ∧ Safe s.settle L.leaves L.round A) := by
  have hr := h.fl.rb
  have e : L.settle s = (s.code, L.ends s.code, s.settle) := by unfold LS.settle; rw [h.f.lost]; rfl
  rcases h.m.settle with ⟨h1, h2⟩ | ⟨h1, h2, h3⟩
  · left
    rw [h1, ends_zero] at e
    obtain ⟨f1, f2⟩ := h.f.settle
    have hn : s.settle.n = s.n := DS.settle_n' s
    refine ⟨e, h2, f2, f2.floatAll rfl rfl hr.2, ?_, fun t _ => rfl, fun p p1 p2 => ⟨V, hA, fun k hk => ?_⟩, fun k hk => ?_⟩
    · show Xo _ _ (u.now _)
      rw [← h.kh _ (.inl (by omega))]
      exact h.x
    · obtain rfl : p = P.length := by omega
      rw [List.take_length]
      show viewAt u.now _ _ _ = _
      rw [viewAt_view h.f.g.tk]
      exact h.now k (by rw [← hn]; exact hk)
    · exact h.now k (by rw [← hn]; exact hk)
  · right
    rw [h1] at e
    exact ⟨_, e, h2, h.safe.fld (h3.trans ⟨h.m.fld.n.symm, h.m.fld.kept.symm, h.m.fld.up.symm⟩)⟩
theorem Alv.settle {L : LS} {s : DS} {A A' : (Nat → List Int) → Prop} {V : Nat → List Int} (h : Alv L s A V) (hA : A' V) :
    (L.settle s = (0, L, s.settle) ∧ Alv L s.settle A' V) ∨ (∃ L', L.settle s = (4, L', s.settle) ∧ s.settle.broken = true ∧ Safe s.settle L.leaves L.round A) := by
  obtain ⟨u, P, p0, h⟩ := h
  rcases h.settled hA with ⟨h1, h2⟩ | h1
  · exact .inl ⟨h1, _, _, _, h2⟩
  · exact .inr h1
/-- a round that begins -/
theorem Rest.alv {s' u u' : DS} {r lv : Int} {P : List (List Ent)} {L : LS} {A : (Nat → List Int) → Prop} {V : Nat → List Int} (R : Rest u r lv P) (hr : r < 249) (hLr : L.round = r) (hLl : L.leaves = lv) (hLt : L.taken = tknP P) (hlo : L.lost = false) (ok : L.Ok u) (k2 : HomeTo L u u') (m : Mir s' u') (hA : A V) (hV : ∀ k : Nat, (k : Int) < u.n - (2 + lv) → seen u lv P k = V k) : Alv L.next s' A V := by
  have hl := R.l
  have hrb := R.rb
  obtain ⟨f, v, c⟩ := R.homeTo hLr hLl hLt hlo ok k2
  have hn : s'.n = u.n := by rw [← m.n]; exact k2.n
  have hH : ((L.H u : Nat) : Int) = (u.n : Int) - (2 + lv) := by unfold LS.H; rw [hLl]; omega
  have hv : ∀ k : Nat, (k : Int) < s'.n - (2 + lv) → view L.next u' k = V k := fun k hk => by
    rw [hn] at hk
    rw [v k (by omega), hV k hk]
  refine ⟨u', [], 0, m, f, f.float k2.kept k2.none (by show L.round + 1 < 250; omega), ?_, fun t _ => by rw [k2.kept], fun p _ p2 => ⟨V, hA, fun k hk => ?_⟩, fun k hk => hv k (by rw [← hLl]; exact hk)⟩
  · left
    show num (cut (u'.kept ((L.round + 1 + 1) % 2).toNat) 80 4) < L.round + 1
    rw [k2.kept, hLr, show ((r + 1 + 1) % 2).toNat = (r % 2).toNat by omega, c, coverT_tail, num_lay4 ⟨by omega, by omega⟩]
    omega
  · obtain rfl : p = 0 := by simpa using p2
    rw [← hv k (by rw [← hLl]; exact hk), k2.kept]
    exact viewAt_view (L := L.next) rfl k
theorem Alv.balance {L : LS} {s : DS} {A A' : (Nat → List Int) → Prop} {V : Nat → List Int} (h : Alv L s A V) (hr : L.round < 249) (hA0 : A V) (hA : A' V) :
    (∃ s', L.balance s = (0, L.next, s') ∧ s'.n = s.n ∧ Alv L.next s' A' V) ∨ (∃ L' s', L.balance s = (4, L', s') ∧ s'.broken = true ∧ s'.n = s.n ∧ Safe s' L.leaves (L.round + 1) A) := by
  obtain ⟨u, P, p0, h⟩ := h
  have hns : s.settle.n = s.n := DS.settle_n' s
  rcases h.settled hA0 with ⟨h1, h2⟩ | ⟨L', h1, h2, h3⟩
  · have hx : Xo L.round L.leaves (u.settle1.now ((L.round + 1) % 2).toNat) := h2.x
    have R := h2.f.rest rfl rfl (by omega) hx
    have hV : ∀ k : Nat, (k : Int) < u.settle1.n - (2 + L.leaves) → seen u.settle1 L.leaves P k = V k := fun k hk => by
      rw [seen_view h2.f.g.tk]
      exact h2.now k (by rw [← h2.m.n]; exact hk)
    have e : L.balance s = ((L.goHome s.settle).1, (L.goHome s.settle).2.1.ends (L.goHome s.settle).1, (L.goHome s.settle).2.2) := by
      unfold LS.balance
      rw [h1, if_pos rfl]
    rcases goHomeF R (by omega) hx rfl rfl h2.f.g.tk h2.f.g.ok h2.m with ⟨s', u', g1, g2, g3⟩ | ⟨L', s', g1, g2, g3⟩
    · left
      rw [g1] at e
      simp only [ends_zero] at e
      exact ⟨s', e, by rw [← g2.n, g3.n, h2.m.n, hns], R.alv hr rfl rfl h2.f.g.tk h2.f.lost h2.f.g.ok g3 g2 hA hV⟩
    · right
      rw [g1] at e
      have hn' : s'.n = s.n := by
        have := g3 [] 0 0
        have hg := goHome_n L s.settle
        rw [g1] at hg
        exact hg.trans hns
      refine ⟨_, s', e, g2, hn', fun keep torn cut => ?_⟩
      obtain ⟨r', P', V', q1, q2, q3, rfl, q5⟩ := g3 keep torn cut
      exact ⟨r', P', V, q1, q2, q3, hA0, fun k hk => by rw [q5 k hk]; exact hV k (by rw [h2.m.n, hns, ← hn']; exact hk)⟩
  · right
    have e : L.balance s = L.settle s := by unfold LS.balance; rw [h1, if_neg (show ¬ ((4 : Int) = 0) by decide)]
    rw [h1] at e
    exact ⟨L', _, e, h2, hns, h3.mono (by omega) (fun V h => h)⟩
/-- one posting more -/
theorem Alv.lay {L : LS} {s : DS} {A A' : (Nat → List Int) → Prop} {V : Nat → List Int} (h : Alv L s A V) {el : List Ent} (he : PostOk el (L.H s)) (hb : ∀ x ∈ el, IsBytes x.2) (hle : leavesN el.length ≤ L.leaves - L.used) (hla : L.last < 999999000) (hA : ∀ V', A V' → A' V') (hA1 : A' fun k => over el k (V k)) :
    (∃ L' s', L.layEnds s el = (0, L', s') ∧ L'.round = L.round ∧ L'.leaves = L.leaves ∧ L'.last = L.last + 1 ∧ s'.n = s.n ∧ Alv L' s' A' fun k => over el k (V k)) ∨ (∃ L' s', L.layEnds s el = (4, L', s') ∧ s'.broken = true ∧ s'.n = s.n ∧ Safe s' L.leaves L.round A') := by
  obtain ⟨u, P, p0, h⟩ := h
  have hun := h.m.n
  have hHs : L.H s = L.H u := by unfold LS.H; rw [hun]
  rw [hHs] at he
  have ly := h.f.lays he hb hle
  have hl := h.fl.l
  have hu2 := h.f.g.ok.u
  have hfit : ∀ x ∈ L.leafLays el, (0 ≤ x.1 ∧ x.1 < s.n) ∧ x.2.length = 96 := fun x hx => by rw [← hun]; exact ly.fit x hx
  have hva : ∀ p, p0 ≤ p → p ≤ (P ++ [el]).length → ∃ V', A' V' ∧ ∀ k : Nat, (k : Int) < s.n - (2 + L.leaves) → viewAt u.kept L.leaves ((P ++ [el]).take p) k = V' k := fun p p1 p2 => by
    rw [List.length_append] at p2
    simp only [List.length_singleton] at p2
    by_cases hp : p ≤ P.length
    · obtain ⟨V', v1, v2⟩ := h.va p p1 hp
      exact ⟨V', hA V' v1, fun k hk => by rw [List.take_append_of_le_length hp]; exact v2 k hk⟩
    · obtain rfl : p = P.length + 1 := by omega
      refine ⟨_, hA1, fun k hk => ?_⟩
      rw [List.take_of_length_le (by simp), viewAt_snoc]
      congr 1
      rw [← h.now k hk, ← viewAt_view h.f.g.tk]
      exact viewAt_congr (h.kh _ (.inr (by omega)))
  rcases h.m.lays hfit with ⟨c1, m1⟩ | ⟨c1, c2, l1, l2, c3, c4⟩
  · left
    obtain ⟨L', u', w1, w2, w3, w4, w5, w6, w7, w8, w9, w10, w11⟩ := h.f.writeFloat h.fl he hb hle hla
    obtain ⟨a1, a2, a3, a4, a5, a6⟩ := h.m.ups.lays ly.fit
    have hlu : L.lay u el = (0, { L with used := L.used + (L.leafLays el).length, last := L.last + 1, taken := putL L.taken el }, (u.lays (L.leafLays el)).2) := by unfold LS.lay; rw [if_pos a1]
    have hls : L.lay s el = (0, { L with used := L.used + (L.leafLays el).length, last := L.last + 1, taken := putL L.taken el }, (s.lays (L.leafLays el)).2) := by unfold LS.lay; rw [if_pos c1]
    have hwu : L.write u el = L.layEnds u el := by
      unfold LS.write
      rw [if_pos he.may, h.f.lost, if_neg (by simp), if_neg (by omega), if_neg (by omega)]
    rw [hwu] at w1
    unfold LS.layEnds at w1 ⊢
    rw [hlu] at w1
    rw [hls]
    simp only [ends_zero] at w1 ⊢
    obtain ⟨-, e2⟩ := Prod.mk.inj w1
    obtain ⟨e3, e4⟩ := Prod.mk.inj e2
    rw [← e4] at w2 w3 w8 w9 w11
    have hn' : (s.lays (L.leafLays el)).2.n = s.n := (DS.lays_n s _).1
    rw [e3]
    refine ⟨L', _, rfl, w4, w5, w6, hn', (u.lays (L.leafLays el)).2, P ++ [el], p0, m1, w2, w3, ?_, fun t ht => ?_, fun p p1 p2 => ?_, fun k hk => ?_⟩
    · rw [w4, w5, w9]; exact h.x
    · rw [w9, a4]
      rw [w5] at ht
      rw [nowAfter_not (fun x hx => ?_)]
      · exact h.kh t ht
      · rw [ly.eq] at hx
        obtain ⟨i1, -⟩ := idxLays_mem hx
        rw [postL_len] at i1
        have := h.f.used
        have := ly.n
        omega
    · obtain ⟨V', v1, v2⟩ := hva p p1 p2
      exact ⟨V', v1, fun k hk => by rw [w5, w9]; exact v2 k (by rw [w5, hn'] at hk; exact hk)⟩
    · rw [w11, h.now k (by rw [w5, hn'] at hk; exact hk)]
  · right
    obtain ⟨b1, b2, b3, b4, b5, b6⟩ := h.m.ups.lays (l := l1) (fun x hx => ly.fit x (by rw [c3]; exact List.mem_append_left _ hx))
    have fl2 : Float (u.lays l1).2 L.round L.leaves (P ++ [el]) p0 := h.fl.more he hle h.f.used ly b3 b5 (fun x hx => by
      rw [b6] at hx
      rcases List.mem_append.1 hx with hx | hx
      · exact .inl hx
      · obtain ⟨y, hy, rfl⟩ := List.mem_map.1 hx
        exact .inr ⟨y, by rw [c3]; exact List.mem_append_left _ hy, rfl⟩)
    have sf : Safe (u.lays l1).2 L.leaves L.round A' := fl2.safe (by rw [b5]; exact h.x) (fun p p1 p2 => by
      obtain ⟨V', v1, v2⟩ := hva p p1 p2
      exact ⟨V', v1, fun k hk => by rw [b5]; exact v2 k (by rw [b3, hun] at hk; exact hk)⟩)
    have hls : L.lay s el = ((s.lays (L.leafLays el)).1, { L with used := L.used + s.laysN (L.leafLays el) }, (s.lays (L.leafLays el)).2) := by unfold LS.lay; rw [if_neg (by rw [c1]; decide)]
    unfold LS.layEnds
    rw [hls, c1]
    exact ⟨_, _, rfl, c2, (DS.lays_n s _).1, sf.fld c4⟩

end Go.Proofs.YtleoelhhndeheaaGreat

/- a ledger on a drum that may break: its calls as LedgerStays wants them -/
open Go Go.RowKit
namespace Go.Proofs.YtleoelhhndeheaaGreat

theorem Alv.mono {L : LS} {s : DS} {A A' : (Nat → List Int) → Prop} {V : Nat → List Int} (h : Alv L s A V) (hA : ∀ V', A V' → A' V') : Alv L s A' V := by
  obtain ⟨u, P, p0, h⟩ := h
  exact ⟨u, P, p0, h.m, h.f, h.fl, h.x, h.kh, fun p p1 p2 => by
    obtain ⟨V', v1, v2⟩ := h.va p p1 p2
    exact ⟨V', hA V' v1, v2⟩, h.now⟩
theorem Alv.ok {L : LS} {s : DS} {A : (Nat → List Int) → Prop} {V : Nat → List Int} (h : Alv L s A V) : L.Ok s ∧ L.lost = false ∧ s.broken = false ∧ L.round < 250 := by
  obtain ⟨u, P, p0, h⟩ := h
  exact ⟨h.f.g.ok.to h.m.n.symm rfl h.f.g.ok.r h.f.g.ok.u h.f.g.ok.k (.inl rfl), h.f.lost, h.m.br, h.fl.rb.2⟩
theorem Alv.safe {L : LS} {s : DS} {A : (Nat → List Int) → Prop} {V : Nat → List Int} (h : Alv L s A V) : Safe s L.leaves L.round A := by
  obtain ⟨u, P, p0, h⟩ := h
  exact h.safe
theorem Alv.brk {L : LS} {s : DS} {A : (Nat → List Int) → Prop} {V : Nat → List Int} (h : Alv L s A V) (a : Int) : Alv L (s.brk a) A V := by
  obtain ⟨u, P, p0, h⟩ := h
  exact ⟨u, P, p0, h.m.brk a, h.f, h.fl, h.x, h.kh, h.va, h.now⟩
theorem Alv.write {L : LS} {s : DS} {A A' : (Nat → List Int) → Prop} {V : Nat → List Int} (h : Alv L s A V) (hr : L.round < 249) (hA0 : A V) {el : List Ent} (hn : el.length ≤ 600) (hb : ∀ x ∈ el, IsBytes x.2) (hla : L.last < 999998000) (hA : ∀ V', A V' → A' V') (hA1 : A' fun k => over el k (V k)) :
    (L.write s el = (1, L, s) ∧ mayE el (L.H s) = false) ∨ L.write s el = (5, L, s) ∨ (∃ L' s', L.write s el = (0, L', s') ∧ L'.round ≤ L.round + 1 ∧ L'.leaves = L.leaves ∧ L'.last ≤ L.last + 1 ∧ s'.n = s.n ∧ Alv L' s' A' fun k => over el k (V k)) ∨
      (∃ L' s', L.write s el = (4, L', s') ∧ s'.broken = true ∧ s'.n = s.n ∧ Safe s' L.leaves (L.round + 1) A') := by
  obtain ⟨ok, hlo, -, -⟩ := h.ok
  have hl := ok.l
  have hk := ok.k
  have hn1 := ok.n1
  cases hm : mayE el (L.H s) with
  | false => exact .inl ⟨by unfold LS.write; rw [hm]; rfl, rfl⟩
  | true =>
    have he : PostOk el (L.H s) := ⟨hm, by unfold LS.H; omega, hn⟩
    by_cases h5 : leavesN el.length > L.leaves
    · exact .inr (.inl (by unfold LS.write; rw [if_pos hm, hlo, if_neg (by simp), if_pos h5]))
    · right; right
      by_cases h6 : leavesN el.length > L.leaves - L.used
      · have hw : L.write s el = if (L.balance s).1 = 0 then (L.balance s).2.1.layEnds (L.balance s).2.2 el else L.balance s := by
          unfold LS.write
          rw [if_pos hm, hlo, if_neg (by simp), if_neg h5, if_pos h6]
        rcases h.balance hr hA0 hA0 with ⟨s', b1, b2, b3⟩ | ⟨L', s', b1, b2, b3, b4⟩
        · rw [b1, if_pos rfl] at hw
          simp only at hw
          have he' : PostOk el (L.next.H s') := by
            have : L.next.H s' = L.H s := by unfold LS.H; rw [b2]; rfl
            rw [this]; exact he
          rcases b3.lay he' hb (by show leavesN el.length ≤ L.leaves - 0; omega) (by show (0 : Int) < _; omega) hA hA1 with ⟨L', s2, c1, c2, c3, c4, c5, c6⟩ | ⟨L', s2, c1, c2, c3, c4⟩
          · left
            rw [c1] at hw
            exact ⟨L', s2, hw, by rw [c2]; exact Int.le_refl _, c3, by rw [c4]; show (0 : Int) + 1 ≤ _; omega, c5.trans b2, c6⟩
          · right
            rw [c1] at hw
            exact ⟨L', s2, hw, c2, c3.trans b2, c4⟩
        · right
          have hne : ¬ ((L.balance s).1 = 0) := by rw [b1]; show ¬ ((4 : Int) = 0); decide
          rw [if_neg hne, b1] at hw
          exact ⟨L', s', hw, b2, b3, b4.mono (Int.le_refl _) hA⟩
      · have hw : L.write s el = L.layEnds s el := by
          unfold LS.write
          rw [if_pos hm, hlo, if_neg (by simp), if_neg h5, if_neg h6]
        rcases h.lay he hb (by omega) (by omega) hA hA1 with ⟨L', s2, c1, c2, c3, c4, c5, c6⟩ | ⟨L', s2, c1, c2, c3, c4⟩
        · left
          rw [c1] at hw
          exact ⟨L', s2, hw, by rw [c2]; omega, c3, by rw [c4]; omega, c5, c6⟩
        · right
          rw [c1] at hw
          exact ⟨L', s2, hw, c2, c3, c4.mono (by omega) (fun _ h => h)⟩

/-- a ledger that goes -/
structure Sta (w : World) (M : Dom) (B : Nat → Prop) (d l mb n : Nat) (lv : Int) (N : Nat) (A : (Nat → List Int) → Prop) (V : Nat → List Int) (s : DS) (L : LS) : Prop where
  sys : Sys w M B d l mb s L
  alv : Alv L s A V
  a0 : A V
  n : s.n = n
  leaves : L.leaves = lv
  up : s.up.length ≤ 10000 * N
  round : L.round ≤ 2 + N
  last : L.last ≤ N
/-- a drum that broke -/
def Brok (w : World) (M : Dom) (d n : Nat) (lv : Int) (N : Nat) (A : (Nat → List Int) → Prop) : Prop := ∃ s, DrumAt w M d s ∧ s.broken = true ∧ s.n = n ∧ Safe s lv (2 + N) A
theorem Sta.below {w w' : World} {M : Dom} {B : Nat → Prop} {d l mb n : Nat} {lv : Int} {N : Nat} {A : (Nat → List Int) → Prop} {V : Nat → List Int} {s : DS} {L : LS} (h : Sta w M B d l mb n lv N A V s L) (k : Below w.heap.size w w') : Sta w' M B d l mb n lv N A V s L :=
  ⟨h.sys.below k, h.alv, h.a0, h.n, h.leaves, h.up, h.round, h.last⟩
theorem Sta.mono {w : World} {M : Dom} {B : Nat → Prop} {d l mb n : Nat} {lv : Int} {N N' : Nat} {A A' : (Nat → List Int) → Prop} {V : Nat → List Int} {s : DS} {L : LS} (h : Sta w M B d l mb n lv N A V s L) (hN : N ≤ N') (hA : ∀ V', A V' → A' V') : Sta w M B d l mb n lv N' A' V s L :=
  ⟨h.sys, h.alv.mono hA, hA _ h.a0, h.n, h.leaves, by have := h.up; omega, by have := h.round; omega, by have := h.last; omega⟩
theorem Sta.otherG {w w' : World} {M : Dom} {B F G : Nat → Prop} {d l mb n : Nat} {lv : Int} {N : Nat} {A : (Nat → List Int) → Prop} {V : Nat → List Int} {s : DS} {L : LS} (h : Sta w M B d l mb n lv N A V s L) (k : Ext F w w') (hX : ∀ q, F q → M.X q) (hN : ∀ q, F q → ¬ M q ∧ ¬ B q) (hG : ∀ q, G q → w.heap.size ≤ q ∧ q < w'.heap.size) : Sta w' (M.addX G) B d l mb n lv N A V s L :=
  ⟨h.sys.otherG k hX hN hG, h.alv, h.a0, h.n, h.leaves, h.up, h.round, h.last⟩
theorem settleA {w : World} {M : Dom} {B : Nat → Prop} {d l mb n : Nat} {lv : Int} {N : Nat} {A A' : (Nat → List Int) → Prop} {V : Nat → List Int} {s : DS} {L : LS} (h : Sta w M B d l mb n lv N A V s L) (hA : A' V) :
    Calls Tryz.prog 58 #[.pointer (some ⟨l, 0, none⟩)] w fun e w' => ∃ M' B', LStep M B w M' B' w' ∧ ((e = .returned (.int .i64 0) ∧ ∃ mb' s', Sta w' M' B' d l mb' n lv N A' V s' L) ∨ (e = .returned (.int .i64 4) ∧ Brok w' M' d n lv N A)) := by
  have hr := h.round
  have hns : s.settle.n = s.n := DS.settle_n' s
  refine (lsettle_any h.sys).mono ?_
  rintro e w' ⟨rfl, M', B', mb', SY, LT⟩
  refine ⟨M', B', LT, ?_⟩
  rcases h.alv.settle hA with ⟨e1, a1⟩ | ⟨L', e1, e2, e3⟩
  · left
    rw [e1] at SY ⊢
    exact ⟨rfl, mb', _, SY, a1, hA, hns.trans h.n, h.leaves, Nat.le_trans (DS.settle_up s) h.up, h.round, h.last⟩
  · right
    rw [e1] at SY ⊢
    exact ⟨rfl, _, SY.drum, e2, hns.trans h.n, by rw [← h.leaves]; exact e3.mono (by omega) (fun _ h => h)⟩
theorem brokenA {w : World} {M : Dom} {B : Nat → Prop} {d l mb n : Nat} {lv : Int} {N : Nat} {A : (Nat → List Int) → Prop} {V : Nat → List Int} {s : DS} {L : LS} (h : Sta w M B d l mb n lv N A V s L) :
    Calls Tryz.prog 38 #[.pointer (some ⟨d, 0, none⟩)] w fun e w' => e = .returned (.bool false) ∧ w = w' := by
  have := broken_any h.sys.drum
  rwa [h.alv.ok.2.2.1] at this
/-- a drum that may fall -/
def Saf (w : World) (M : Dom) (d n : Nat) (lv : Int) (N : Nat) (A : (Nat → List Int) → Prop) : Prop := ∃ s, DrumAt w M d s ∧ s.n = n ∧ Safe s lv (2 + N) A
/-- a drum that fell: V will be seen -/
def Fel (w : World) (M : Dom) (d n : Nat) (lv : Int) (N : Nat) (V : Nat → List Int) : Prop := ∃ s u r P, DrumAt w M d s ∧ Mir s u ∧ Rest u r lv P ∧ Xo r lv (u.now ((r + 1) % 2).toNat) ∧ s.n = n ∧ r ≤ 2 + N ∧ V = seen u lv P ∧ s.up = []
theorem fallS {w : World} {M : Dom} {d n : Nat} {lv : Int} {N : Nat} {A : (Nat → List Int) → Prop} (h : Saf w M d n lv N A) (ka : Option Addr) (kl kc : Nat) (keep : List Int) (torn cut : Int) (hK : IntsAt w ka kl kc keep) (hKM : 0 < kl → ¬ M (sB ka)) :
    Calls Tryz.prog 39 #[.pointer (some ⟨d, 0, none⟩), .slice ka kl kc, .int .i64 torn, .int .i64 cut] w fun e w' => e = .returned (.tuple #[]) ∧ ∃ M' V V', (∀ k, k < homes n lv → V k = V' k) ∧ A V' ∧ Fel w' M' d n lv N V ∧ (∃ s, DrumAt w' M' d s ∧ s.Up ∧ ∃ r P, Rest s r lv P ∧ Xo r lv (s.now ((r + 1) % 2).toNat) ∧ s.n = n ∧ r ≤ 2 + N ∧ V = seen s lv P) ∧ Step M w M' w' := by
  obtain ⟨s, h1, h2, h3⟩ := h
  refine (fall_any h1 ka kl kc keep torn cut hK hKM).mono ?_
  rintro e w' ⟨rfl, M', D', S'⟩
  obtain ⟨r', P, V, q1, q2, q3, q4, q5⟩ := h3 keep torn cut
  have hup := DS.Up.fall s keep torn cut
  exact ⟨rfl, M', _, V, fun k hk => q5 k (by unfold homes at hk; rw [h2]; omega), q4, ⟨_, _, r', P, D', Mir.of_up hup, q2, q3, h2, q1, rfl, rfl⟩, ⟨_, D', hup, r', P, q2, q3, h2, q1, rfl⟩, S'⟩
/-- a break on a drum that fell -/
theorem breakF {w : World} {M : Dom} {d n : Nat} {lv : Int} {N : Nat} {V : Nat → List Int} (h : Fel w M d n lv N V) (a : Int) :
    Calls Tryz.prog 37 #[.pointer (some ⟨d, 0, none⟩), .int .i64 a] w fun e w' => e = .returned (.tuple #[]) ∧ ∃ M', Fel w' M' d n lv N V ∧ Step M w M' w' := by
  obtain ⟨s, u, r, P, h1, h2, h3, h4, h5, h6, h7, h8⟩ := h
  refine (break_any h1 a).mono ?_
  rintro e w' ⟨rfl, M', D, S⟩
  exact ⟨rfl, M', ⟨_, u, r, P, D, h2.brk a, h3, h4, h5, h6, h7, h8⟩, S⟩
theorem Rest.okL {u : DS} {r lv : Int} {P : List (List Ent)} (R : Rest u r lv P) : (openedL u).Ok u := by
  have h1 := R.l
  exact (opened_ok R.wf (by omega) R.n (by rw [R.read]; show r ≠ 0; have := R.rb; omega)).1
/-- a ledger that was just opened -/
structure LiveX (w : World) (M : Dom) (B : Nat → Prop) (d l mb n : Nat) (lv : Int) (N : Nat) (V : Nat → List Int) (s : DS) (L : LS) : Prop where
  live : Live w M B d l mb n lv N V s L
  q : Quiet s
  full : Full L s []
  x : Xo L.round lv (s.now ((L.round + 1) % 2).toNat)
/-- what fell, and no break is set -/
def FelU (w : World) (M : Dom) (d n : Nat) (lv : Int) (N : Nat) (V : Nat → List Int) : Prop := ∃ s, DrumAt w M d s ∧ s.Up ∧ ∃ r P, Rest s r lv P ∧ Xo r lv (s.now ((r + 1) % 2).toNat) ∧ s.n = n ∧ r ≤ 2 + N ∧ V = seen s lv P
theorem openX {w : World} {M : Dom} {d n : Nat} {lv : Int} {N : Nat} {V : Nat → List Int} (h : FelU w M d n lv N V) (hN : N ≤ 240) :
    Calls Tryz.prog 48 #[.pointer (some ⟨d, 0, none⟩)] w fun e w' => ∃ M' B' l' mb' s' L', e = .returned (.tuple #[.pointer (some ⟨l', 0, none⟩), .int .i64 0]) ∧ LStep M none' w M' B' w' ∧ LiveX w' M' B' d l' mb' n lv (N + 1) V s' L' := by
  obtain ⟨s, hd, hup, r, P, R, hx, hn, hr, rfl⟩ := h
  have hl := R.l
  obtain ⟨s', L', h1, h2, h3, h4, h5, h6, h7, h8, h9, h10, h11⟩ := R.openL
  refine (open_any hd (by omega) R.n (by rw [R.quiet]; exact Nat.succ_pos _)).mono ?_
  rintro e w' (⟨-, M', B', l', mb', rfl, SY, LT⟩ | ⟨hx, -⟩)
  · rw [h1] at SY
    refine ⟨M', B', l', mb', s', L', rfl, LT, ⟨SY, ⟨[], h2⟩, h7.trans hn, h4, by show s'.up.length ≤ _; rw [h9]; exact Nat.zero_le _, by show L'.round ≤ _; omega, by show L'.last ≤ _; omega, h10⟩, ⟨h8, h9⟩, h2, ?_⟩
    left
    have hrb := R.rb
    rw [h3, show ((r + 1 + 1) % 2).toNat = (r % 2).toNat by omega, h11, coverT_tail, num_lay4 ⟨by omega, by omega⟩]
    omega
  · rw [h1] at hx
    exact absurd rfl hx
theorem LiveX.sta {w : World} {M : Dom} {B : Nat → Prop} {d l mb n : Nat} {lv : Int} {N : Nat} {V : Nat → List Int} {s : DS} {L : LS} {A : (Nat → List Int) → Prop} (h : LiveX w M B d l mb n lv N V s L) (hN : N ≤ 240) (hA : A V) : Sta w M B d l mb n lv N A V s L := by
  have hr := h.live.round
  have hlv := h.live.leaves
  have hH := h.live.H
  have hl := h.full.g.ok.l
  have hv : ∀ k : Nat, (k : Int) < s.n - (2 + L.leaves) → view L s k = V k := fun k hk => h.live.v k (by unfold LS.H; omega)
  refine ⟨h.live.sys, ⟨s, [], 0, Mir.of_up h.full.g.up, h.full, h.full.float h.q.kept h.q.up (by omega), by rw [h.q.kept, hlv]; exact h.x, fun t _ => by rw [h.q.kept], fun p _ p2 => ⟨V, hA, fun k hk => ?_⟩, hv⟩, hA, h.live.n, hlv, h.live.up, hr, h.live.last⟩
  obtain rfl : p = 0 := by simpa using p2
  rw [← hv k hk, h.q.kept]
  exact viewAt_view h.full.g.tk k

end Go.Proofs.YtleoelhhndeheaaGreat
