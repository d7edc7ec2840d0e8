import Derived.Test.YtkflhmpecfckfaaTarjan
namespace Go.Proofs.Ytkflhmpecfckfaa.Tj

/-- what a node that was not met yet weighs -/
def unmet (N : Nat) (E : Nat → List Nat) (f : Nat → Nat) : Nat := ((List.range N).map fun v => if f v = 0 then (E v).length + 2 else 0).sum
def ahead (E : Nat → List Nat) (path : List (Nat × Nat)) : Nat := (path.map fun p => (E p.1).length - p.2 + 1).sum
def weight (N : Nat) (E : Nat → List Nat) (s : St) : Nat := unmet N E s.ord + ahead E s.path

theorem sum_upd (l : List Nat) (hl : l.Nodup) (g h : Nat → Nat) (k : Nat) (hk : k ∈ l) (hne : ∀ v, v ≠ k → h v = g v) :
    (l.map h).sum + g k = (l.map g).sum + h k := by
  induction l with
  | nil => simp at hk
  | cons x l ih =>
    rw [List.nodup_cons] at hl
    simp only [List.map_cons, List.sum_cons]
    by_cases e : x = k
    · subst e
      have : l.map h = l.map g := List.map_congr_left fun v hv => hne v (fun e => hl.1 (e ▸ hv))
      rw [this]; omega
    · have hk' : k ∈ l := by simpa [Ne.symm e] using hk
      have := ih hl.2 hk'
      rw [hne x e]; omega

theorem unmet_upd {N : Nat} {E : Nat → List Nat} {f : Nat → Nat} {k c : Nat} (hk : k < N) (h0 : f k = 0) (hc : c ≠ 0) :
    unmet N E (upd f k c) + ((E k).length + 2) = unmet N E f := by
  unfold unmet
  have := sum_upd (List.range N) List.nodup_range (fun v => if f v = 0 then (E v).length + 2 else 0) (fun v => if upd f k c v = 0 then (E v).length + 2 else 0) k (List.mem_range.2 hk)
    (fun v hv => by simp only [upd_ne f c hv])
  simp only [h0, if_true, upd_same, hc, if_false] at this
  omega

theorem close_ord (s : St) (k : Nat) : (s.close k).ord = s.ord := by unfold St.close; split <;> rfl
theorem close_path (s : St) (k : Nat) : (s.close k).path = s.path := by unfold St.close; split <;> rfl
theorem pop_ord (s : St) (n : Nat) (r : List (Nat × Nat)) : (s.pop n r).ord = s.ord := by cases r <;> rfl
theorem pop_path (s : St) (n : Nat) (r : List (Nat × Nat)) : (s.pop n r).path = r := by cases r <;> rfl

/-- each round makes it lighter -/
theorem Inv.lighter {N : Nat} {E : Nat → List Nat} {s : St} (h : Inv N E s) (hE : ∀ v, ∀ u ∈ E v, u < N) (hp : s.path ≠ []) : weight N E (s.round E) < weight N E s := by
  unfold St.round
  split
  · rename_i e; exact absurd e hp
  · rename_i n g r hpath
    have hle := (h.sub (n, g) (by rw [hpath]; simp)).2
    simp only at hle
    split
    · unfold weight
      rw [pop_ord, close_ord, pop_path, hpath]
      simp [ahead]
    · rename_i hg
      have hlt : g < (E n).length := by omega
      have hget : (E n).getD g 0 = (E n)[g] := by simp [List.getD, hlt]
      have hmem : (E n).getD g 0 ∈ E n := by rw [hget]; exact List.getElem_mem _
      simp only
      split
      · rename_i h0
        unfold weight
        show unmet N E (upd s.ord _ (s.clk + 1)) + ahead E ((_, 0) :: (n, g + 1) :: r) < _
        have := unmet_upd (E := E) (hE _ _ hmem) h0 (c := s.clk + 1) (by omega)
        rw [hpath]
        simp only [ahead, List.map_cons, List.sum_cons]
        omega
      · split
        · unfold weight
          show unmet N E s.ord + ahead E ((n, g + 1) :: r) < _
          rw [hpath]
          simp only [ahead, List.map_cons, List.sum_cons]
          omega
        · unfold weight
          show unmet N E s.ord + ahead E ((n, g + 1) :: r) < _
          rw [hpath]
          simp only [ahead, List.map_cons, List.sum_cons]
          omega

/-- between two roots: nothing is on the way -/
theorem Inv.idle {N : Nat} {E : Nat → List Nat} {s : St} (h : Inv N E s) (hp : s.path = []) : s.stk = [] := by
  cases hs : s.stk with
  | nil => rfl
  | cons x l =>
    obtain ⟨p, hpm, _⟩ := h.s2g x (by rw [hs]; simp)
    rw [hp] at hpm; simp at hpm

/-- who is whose part -/
def IsPart (N : Nat) (E : Nat → List Nat) (p : Nat → Nat) : Prop :=
  ∀ v, v < N → Rch E v (p v) ∧ Rch E (p v) v ∧ ∀ u, Rch E v u → Rch E u v → p v ≤ u

theorem Inv.parts {N : Nat} {E : Nat → List Nat} {s : St} (h : Inv N E s) (hp : s.path = []) (hall : ∀ v, v < N → s.ord v ≠ 0) : IsPart N E s.part := by
  intro v hv
  refine h.part v (hall v hv) ?_
  have hs := h.idle hp
  cases hin : s.inS v with
  | false => rfl
  | true => have := (h.inS v).1 hin; rw [hs] at this; simp at this

/-- the beginning -/
theorem Inv.start (N : Nat) (E : Nat → List Nat) (part : Nat → Nat) : Inv N E { ord := fun _ => 0, low := fun _ => 0, inS := fun _ => false, stk := [], clk := 0, part := part, path := [] } := by
  constructor <;> simp

/-- a root is entered -/
theorem Inv.root {N : Nat} {E : Nat → List Nat} {s : St} (h : Inv N E s) (hp : s.path = []) {k : Nat} (hk : s.ord k = 0) (hN : k < N) : Inv N E (s.enter k) :=
  h.enter hk hN (fun p hpm => by rw [hp] at hpm; simp at hpm)

/-- what was met stays met -/
theorem round_met {E : Nat → List Nat} {s : St} {v : Nat} (h : s.ord v ≠ 0) : (s.round E).ord v ≠ 0 := by
  unfold St.round
  split
  · exact h
  · split
    · rw [pop_ord, close_ord]; exact h
    · simp only
      split
      · rename_i h0
        show upd s.ord _ _ v ≠ 0
        unfold upd
        split
        · omega
        · exact h
      · split <;> exact h

theorem IsPart.eq {N : Nat} {E : Nat → List Nat} {p : Nat → Nat} (_hE : ∀ v, ∀ u ∈ E v, u < N) (h : IsPart N E p) {i k : Nat} (hi : i < N) (hk : k < N) :
    p i = p k ↔ Rch E i k ∧ Rch E k i := by
  obtain ⟨a1, a2, a3⟩ := h i hi
  obtain ⟨b1, b2, b3⟩ := h k hk
  constructor
  · intro e; rw [e] at a1 a2; exact ⟨a1.trans b2, b1.trans a2⟩
  · rintro ⟨x, y⟩
    have h1 := a3 (p k) (x.trans b1) (b2.trans y)
    have h2 := b3 (p i) (y.trans a1) (a2.trans x)
    omega

theorem Rch.lt {N : Nat} {E : Nat → List Nat} (hE : ∀ v, ∀ u ∈ E v, u < N) {a b : Nat} (ha : a < N) (h : Rch E a b) : b < N := by
  induction h with
  | refl => exact ha
  | step _ hc _ => exact hE _ _ hc

theorem IsPart.unique {N : Nat} {E : Nat → List Nat} {p q : Nat → Nat} (h : IsPart N E p) (k : IsPart N E q) : ∀ v, v < N → p v = q v := by
  intro v hv
  obtain ⟨a1, a2, a3⟩ := h v hv
  obtain ⟨b1, b2, b3⟩ := k v hv
  have h1 := a3 _ b1 b2
  have h2 := b3 _ a1 a2
  omega

/-- a leads to c by at least one edge -/
def Lds (E : Nat → List Nat) (a c : Nat) : Prop := ∃ b ∈ E a, Rch E b c

theorem Rch.cases {E : Nat → List Nat} {a c : Nat} (h : Rch E a c) : a = c ∨ Lds E a c := by
  induction h with
  | refl => exact .inl rfl
  | step hab hc ih =>
    right
    rcases ih with rfl | ⟨b', hb', hr⟩
    · exact ⟨_, hc, .refl _⟩
    · exact ⟨b', hb', .step hr hc⟩
theorem Lds.rch {E : Nat → List Nat} {a c : Nat} (h : Lds E a c) : Rch E a c := by
  obtain ⟨b, hb, hr⟩ := h
  exact (Rch.one hb).trans hr

/-- who comes back -/
theorem back_iff {N : Nat} {E : Nat → List Nat} {p : Nat → Nat} (hE : ∀ v, ∀ u ∈ E v, u < N) (h : IsPart N E p) {i : Nat} (hi : i < N) :
    (∃ t ∈ E i, p t = p i) ↔ Lds E i i := by
  constructor
  · rintro ⟨t, ht, e⟩
    exact ⟨t, ht, ((h.eq hE (hE _ _ ht) hi).1 e).1⟩
  · rintro ⟨t, ht, hr⟩
    exact ⟨t, ht, (h.eq hE (hE _ _ ht) hi).2 ⟨hr, .one ht⟩⟩

/-- one part: the same, or each leads to the other -/
theorem same_iff {N : Nat} {E : Nat → List Nat} {p : Nat → Nat} (hE : ∀ v, ∀ u ∈ E v, u < N) (h : IsPart N E p) {i k : Nat} (hi : i < N) (hk : k < N) :
    p i = p k ↔ (i = k ∨ (Lds E i k ∧ Lds E k i)) := by
  rw [h.eq hE hi hk]
  constructor
  · rintro ⟨x, y⟩
    rcases x.cases with rfl | x
    · exact .inl rfl
    · rcases y.cases with e | y
      · exact .inl e.symm
      · exact .inr ⟨x, y⟩
  · rintro (rfl | ⟨x, y⟩)
    · exact ⟨.refl _, .refl _⟩
    · exact ⟨x.rch, y.rch⟩

end Go.Proofs.Ytkflhmpecfckfaa.Tj
