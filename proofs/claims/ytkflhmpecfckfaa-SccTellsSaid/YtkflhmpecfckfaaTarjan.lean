/- plain law: Tarjan's parts, over functions -/
namespace Go.Proofs.Ytkflhmpecfckfaa.Tj

/-- a leads to c, by any number of edges -/
inductive Rch (E : Nat → List Nat) : Nat → Nat → Prop
  | refl (a : Nat) : Rch E a a
  | step {a b c : Nat} : Rch E a b → c ∈ E b → Rch E a c

theorem Rch.trans {E : Nat → List Nat} {a b c : Nat} (h : Rch E a b) (k : Rch E b c) : Rch E a c := by
  induction k with
  | refl => exact h
  | step _ hc ih => exact .step ih hc

theorem Rch.one {E : Nat → List Nat} {a b : Nat} (h : b ∈ E a) : Rch E a b := .step (.refl a) h

theorem Rch.closed {E : Nat → List Nat} {S : Nat → Prop} (hS : ∀ v, S v → ∀ u ∈ E v, S u) {a b : Nat} (ha : S a) (h : Rch E a b) : S b := by
  induction h with
  | refl => exact ha
  | step _ hc ih => exact hS _ ih _ hc

structure St where
  ord : Nat → Nat
  low : Nat → Nat
  inS : Nat → Bool
  stk : List Nat
  clk : Nat
  part : Nat → Nat
  path : List (Nat × Nat)

def upd {α : Type} (f : Nat → α) (k : Nat) (v : α) : Nat → α := fun x => if x = k then v else f x

theorem upd_same {α : Type} (f : Nat → α) (k : Nat) (v : α) : upd f k v k = v := by simp [upd]
theorem upd_ne {α : Type} (f : Nat → α) {k x : Nat} (v : α) (h : x ≠ k) : upd f k v x = f x := by simp [upd, h]

def St.enter (s : St) (k : Nat) : St :=
  { s with ord := upd s.ord k (s.clk + 1), low := upd s.low k (s.clk + 1), inS := upd s.inS k true, stk := k :: s.stk, clk := s.clk + 1, path := (k, 0) :: s.path }

/-- what stands on the stack from its top down to k, k with it -/
def seg : List Nat → Nat → List Nat
  | [], _ => []
  | x :: l, k => if x = k then [x] else x :: seg l k
def rest : List Nat → Nat → List Nat
  | [], _ => []
  | x :: l, k => if x = k then l else rest l k

theorem seg_rest (l : List Nat) (k : Nat) (_h : k ∈ l) : seg l k ++ rest l k = l := by
  induction l with
  | nil => simp at _h
  | cons x l ih =>
    by_cases e : x = k
    · simp [seg, rest, e]
    · have : k ∈ l := by simpa [Ne.symm e] using _h
      simp [seg, rest, e, ih this]

def least : List Nat → Nat
  | [] => 0
  | [x] => x
  | x :: l => min x (least l)

theorem least_mem : ∀ (l : List Nat), l ≠ [] → least l ∈ l
  | [], h => absurd rfl h
  | [x], _ => by simp [least]
  | x :: y :: l, _ => by
    have := least_mem (y :: l) (by simp)
    simp only [least]
    rcases Nat.le_total x (least (y :: l)) with h | h
    · rw [Nat.min_eq_left h]; simp
    · rw [Nat.min_eq_right h]; exact List.mem_cons_of_mem _ this

theorem least_le : ∀ (l : List Nat) (x : Nat), x ∈ l → least l ≤ x
  | [], x, h => by simp at h
  | [y], x, h => by simp at h; simp [least, h]
  | y :: z :: l, x, h => by
    simp only [least]
    rcases List.mem_cons.1 h with rfl | h
    · exact Nat.min_le_left _ _
    · exact Nat.le_trans (Nat.min_le_right _ _) (least_le (z :: l) x h)

def updAll {α : Type} (f : Nat → α) (l : List Nat) (v : α) : Nat → α := fun x => if x ∈ l then v else f x

def St.close (s : St) (k : Nat) : St :=
  if s.low k ≠ s.ord k then s
  else { s with part := updAll s.part (seg s.stk k) (least (seg s.stk k)), inS := updAll s.inS (seg s.stk k) false, stk := rest s.stk k }

def St.pop (s : St) (n : Nat) (r : List (Nat × Nat)) : St :=
  match r with
  | [] => { s with path := [] }
  | (a, g) :: r => { s with path := (a, g) :: r, low := upd s.low a (min (s.low a) (s.low n)) }

/-- one round -/
def St.round (E : Nat → List Nat) (s : St) : St :=
  match s.path with
  | [] => s
  | (n, g) :: r =>
    if g = (E n).length then (s.close n).pop n r
    else
      let to := (E n).getD g 0
      let s := { s with path := (n, g + 1) :: r }
      if s.ord to = 0 then s.enter to
      else if s.inS to = true then { s with low := upd s.low n (min (s.low n) (s.ord to)) }
      else s

/-- the edges of a node that were gone -/
def proc (E : Nat → List Nat) (path : List (Nat × Nat)) (u : Nat) : List Nat :=
  match path with
  | [] => E u
  | (v, g) :: r => if v = u then (E u).take g else proc E r u

structure Inv (N : Nat) (E : Nat → List Nat) (s : St) : Prop where
  lt : ∀ v ∈ s.stk, v < N
  inS : ∀ v, s.inS v = true ↔ v ∈ s.stk
  pos : ∀ v ∈ s.stk, 0 < s.ord v
  clk : ∀ v, s.ord v ≤ s.clk
  sorted : s.stk.Pairwise (fun a b => s.ord b < s.ord a)
  sub : ∀ p ∈ s.path, p.1 ∈ s.stk ∧ p.2 ≤ (E p.1).length
  psorted : s.path.Pairwise (fun a b => s.ord b.1 < s.ord a.1)
  seen : ∀ v, s.ord v ≠ 0 → ∀ u ∈ proc E s.path v, s.ord u ≠ 0
  done : ∀ v, s.ord v ≠ 0 → s.inS v = false → ∀ u ∈ E v, s.ord u ≠ 0 ∧ s.inS u = false
  g2s : ∀ p ∈ s.path, ∀ y ∈ s.stk, s.ord p.1 ≤ s.ord y → Rch E p.1 y
  s2g : ∀ y ∈ s.stk, ∃ p ∈ s.path, s.ord p.1 ≤ s.ord y ∧ Rch E y p.1
  lowle : ∀ p ∈ s.path, s.low p.1 ≤ s.ord p.1
  lowin : ∀ p ∈ s.path, ∃ u ∈ s.stk, s.ord u = s.low p.1 ∧ Rch E p.1 u
  bound : ∀ u ∈ s.stk, ∀ w ∈ proc E s.path u, w ∈ s.stk → ∀ p ∈ s.path, s.ord p.1 ≤ s.ord u →
    (∀ q ∈ s.path, s.ord q.1 ≤ s.ord u → s.ord q.1 ≤ s.ord p.1) → s.low p.1 ≤ s.ord w
  part : ∀ v, s.ord v ≠ 0 → s.inS v = false → Rch E v (s.part v) ∧ Rch E (s.part v) v ∧ ∀ u, Rch E v u → Rch E u v → s.part v ≤ u
  vis : ∀ v, s.ord v ≠ 0 → v < N

theorem proc_not {E : Nat → List Nat} {path : List (Nat × Nat)} {u : Nat} (h : ∀ p ∈ path, p.1 ≠ u) : proc E path u = E u := by
  induction path with
  | nil => rfl
  | cons p r ih =>
    obtain ⟨v, g⟩ := p
    have hv : v ≠ u := h (v, g) (by simp)
    simp only [proc, hv, if_false]
    exact ih fun p hp => h p (List.mem_cons_of_mem _ hp)

theorem proc_sub {E : Nat → List Nat} {path : List (Nat × Nat)} {u w : Nat} (h : w ∈ proc E path u) : w ∈ E u := by
  induction path with
  | nil => exact h
  | cons p r ih =>
    obtain ⟨v, g⟩ := p
    simp only [proc] at h
    split at h
    · exact List.mem_of_mem_take h
    · exact ih h

/-- on the stack two nodes of one number are one -/
theorem Inv.inj {N : Nat} {E : Nat → List Nat} {s : St} (h : Inv N E s) {a b : Nat} (ha : a ∈ s.stk) (hb : b ∈ s.stk) (e : s.ord a = s.ord b) : a = b := by
  have hs := h.sorted
  generalize s.stk = l at ha hb hs
  induction l with
  | nil => simp at ha
  | cons x l ih =>
    rw [List.pairwise_cons] at hs
    rcases List.mem_cons.1 ha with e1 | ha' <;> rcases List.mem_cons.1 hb with e2 | hb'
    · rw [e1, e2]
    · have := hs.1 _ hb'; rw [e1] at e; omega
    · have := hs.1 _ ha'; rw [e2] at e; omega
    · exact ih ha' hb' hs.2

theorem Inv.top {N : Nat} {E : Nat → List Nat} {s : St} (h : Inv N E s) {n g : Nat} {r : List (Nat × Nat)} (hp : s.path = (n, g) :: r) :
    ∀ q ∈ r, s.ord q.1 < s.ord n := by
  have := h.psorted
  rw [hp, List.pairwise_cons] at this
  exact this.1

theorem seg_spec {f : Nat → Nat} {l : List Nat} {k : Nat} (hk : k ∈ l) (hs : l.Pairwise (fun a b => f b < f a)) :
    (∀ x, x ∈ seg l k ↔ x ∈ l ∧ f k ≤ f x) ∧ (∀ x, x ∈ rest l k ↔ x ∈ l ∧ f x < f k) := by
  induction l with
  | nil => simp at hk
  | cons y l ih =>
    rw [List.pairwise_cons] at hs
    by_cases e : y = k
    · subst e
      simp only [seg, rest, if_true]
      refine ⟨fun x => ⟨fun hx => ?_, fun hx => ?_⟩, fun x => ⟨fun hx => ?_, fun hx => ?_⟩⟩
      · simp at hx; subst hx; simp
      · rcases List.mem_cons.1 hx.1 with rfl | hm
        · simp
        · have := hs.1 _ hm; omega
      · exact ⟨List.mem_cons_of_mem _ hx, hs.1 _ hx⟩
      · rcases List.mem_cons.1 hx.1 with rfl | hm
        · omega
        · exact hm
    · have hk' : k ∈ l := by simpa [Ne.symm e] using hk
      have hlt := hs.1 _ hk'
      obtain ⟨h1, h2⟩ := ih hk' hs.2
      simp only [seg, rest, e, if_false]
      refine ⟨fun x => ⟨fun hx => ?_, fun hx => ?_⟩, fun x => ⟨fun hx => ?_, fun hx => ?_⟩⟩
      · rcases List.mem_cons.1 hx with rfl | hm
        · exact ⟨by simp, by omega⟩
        · exact ⟨List.mem_cons_of_mem _ ((h1 x).1 hm).1, ((h1 x).1 hm).2⟩
      · rcases List.mem_cons.1 hx.1 with rfl | hm
        · simp
        · exact List.mem_cons_of_mem _ ((h1 x).2 ⟨hm, hx.2⟩)
      · exact ⟨List.mem_cons_of_mem _ ((h2 x).1 hx).1, ((h2 x).1 hx).2⟩
      · rcases List.mem_cons.1 hx.1 with rfl | hm
        · omega
        · exact (h2 x).2 ⟨hm, hx.2⟩

/-- entering a node that was not seen -/
theorem Inv.enter {N : Nat} {E : Nat → List Nat} {s : St} (h : Inv N E s) {k : Nat} (hk : s.ord k = 0) (hN : k < N)
    (hlead : ∀ p ∈ s.path, Rch E p.1 k) : Inv N E (s.enter k) := by
  have hnot : k ∉ s.stk := fun hm => by have := h.pos _ hm; omega
  have ordne : ∀ v, v ≠ k → (s.enter k).ord v = s.ord v := fun v hv => upd_ne _ _ hv
  have ordk : (s.enter k).ord k = s.clk + 1 := upd_same _ _ _
  have ordS : ∀ v ∈ s.stk, (s.enter k).ord v = s.ord v := fun v hv => ordne v (fun e => hnot (e ▸ hv))
  have ordP : ∀ p ∈ s.path, (s.enter k).ord p.1 = s.ord p.1 := fun p hp => ordS _ (h.sub p hp).1
  have lowP : ∀ p ∈ s.path, (s.enter k).low p.1 = s.low p.1 := fun p hp => upd_ne _ _ (fun e => hnot (e ▸ (h.sub p hp).1))
  have hstk : (s.enter k).stk = k :: s.stk := rfl
  have hpath : (s.enter k).path = (k, 0) :: s.path := rfl
  have keep : ∀ v, s.ord v ≠ 0 → (s.enter k).ord v ≠ 0 := fun v hv => by rw [ordne v (fun e => hv (e ▸ hk))]; exact hv
  have hproc : ∀ v, v ≠ k → proc E (s.enter k).path v = proc E s.path v := fun v hv => by simp [hpath, proc, Ne.symm hv]
  have hprock : proc E (s.enter k).path k = [] := by simp [hpath, proc]
  have insne : ∀ v, v ≠ k → (s.enter k).inS v = s.inS v := fun v hv => upd_ne _ _ hv
  have insk : (s.enter k).inS k = true := upd_same _ _ _
  constructor
  · intro v hv; rw [hstk] at hv; rcases List.mem_cons.1 hv with rfl | hv
    · exact hN
    · exact h.lt v hv
  · intro v
    by_cases e : v = k
    · subst e; simp [insk, hstk]
    · rw [insne v e, h.inS v, hstk]; simp [e]
  · intro v hv; rw [hstk] at hv; rcases List.mem_cons.1 hv with rfl | hv
    · rw [ordk]; omega
    · rw [ordS v hv]; exact h.pos v hv
  · intro v
    show (s.enter k).ord v ≤ s.clk + 1
    by_cases e : v = k
    · subst e; rw [ordk]; omega
    · rw [ordne v e]; have := h.clk v; omega
  · rw [hstk, List.pairwise_cons]
    refine ⟨fun b hb => ?_, ?_⟩
    · rw [ordS b hb, ordk]; have := h.clk b; omega
    · refine h.sorted.imp_of_mem fun {a b} ha hb hab => ?_
      rw [ordS a ha, ordS b hb]; exact hab
  · intro p hp; rw [hpath] at hp; rcases List.mem_cons.1 hp with rfl | hp
    · exact ⟨by rw [hstk]; simp, Nat.zero_le _⟩
    · exact ⟨by rw [hstk]; exact List.mem_cons_of_mem _ (h.sub p hp).1, (h.sub p hp).2⟩
  · rw [hpath, List.pairwise_cons]
    refine ⟨fun b hb => ?_, ?_⟩
    · rw [ordP b hb]; show _ < (s.enter k).ord k; rw [ordk]; have := h.clk b.1; omega
    · refine h.psorted.imp_of_mem fun {a b} ha hb hab => ?_
      rw [ordP a ha, ordP b hb]; exact hab
  · intro v hv u hu
    by_cases e : v = k
    · subst e; rw [hprock] at hu; simp at hu
    · rw [hproc v e] at hu
      rw [ordne v e] at hv
      exact keep u (h.seen v hv u hu)
  · intro v hv hin u hu
    have e : v ≠ k := fun e => by subst e; rw [insk] at hin; simp at hin
    rw [ordne v e] at hv; rw [insne v e] at hin
    obtain ⟨h1, h2⟩ := h.done v hv hin u hu
    have eu : u ≠ k := fun e => h1 (e ▸ hk)
    exact ⟨keep u h1, by rw [insne u eu]; exact h2⟩
  · intro p hp y hy hle
    rw [hstk] at hy; rw [hpath] at hp
    rcases List.mem_cons.1 hp with e1 | hp' <;> rcases List.mem_cons.1 hy with e2 | hy'
    · subst e1; subst e2; exact .refl _
    · exfalso; subst e1; simp only at hle; rw [ordk, ordS y hy'] at hle; have := h.clk y; omega
    · subst e2; exact hlead p hp'
    · rw [ordP p hp', ordS y hy'] at hle; exact h.g2s p hp' y hy' hle
  · intro y hy
    rw [hstk] at hy
    rcases List.mem_cons.1 hy with rfl | hy
    · exact ⟨(y, 0), by rw [hpath]; simp, Nat.le_refl _, .refl _⟩
    · obtain ⟨p, hp, h1, h2⟩ := h.s2g y hy
      exact ⟨p, by rw [hpath]; exact List.mem_cons_of_mem _ hp, by rw [ordP p hp, ordS y hy]; exact h1, h2⟩
  · intro p hp; rw [hpath] at hp; rcases List.mem_cons.1 hp with rfl | hp
    · show upd s.low k _ k ≤ upd s.ord k _ k; rw [upd_same, upd_same]; exact Nat.le_refl _
    · rw [lowP p hp, ordP p hp]; exact h.lowle p hp
  · intro p hp; rw [hpath] at hp; rcases List.mem_cons.1 hp with rfl | hp
    · exact ⟨k, by rw [hstk]; simp, by show upd s.ord k _ k = upd s.low k _ k; rw [upd_same, upd_same], .refl _⟩
    · obtain ⟨u, hu, h1, h2⟩ := h.lowin p hp
      exact ⟨u, by rw [hstk]; exact List.mem_cons_of_mem _ hu, by rw [ordS u hu, lowP p hp]; exact h1, h2⟩
  · intro u hu w hw hws p hp hpu hmax
    by_cases e : u = k
    · subst e; rw [hprock] at hw; simp at hw
    · rw [hstk] at hu hws
      have hu : u ∈ s.stk := by simpa [e] using hu
      rw [hproc u e] at hw
      rw [hpath] at hp
      rcases List.mem_cons.1 hp with e1 | hp'
      · exfalso; subst e1; simp only at hpu; rw [ordk, ordS u hu] at hpu; have := h.clk u; omega
      · clear hp
        have hp := hp'
        rw [ordP p hp, ordS u hu] at hpu
        rw [lowP p hp]
        by_cases ew : w = k
        · rw [ew, ordk]; have := h.lowle p hp; have := h.clk p.1; omega
        · have hws : w ∈ s.stk := by simpa [ew] using hws
          rw [ordS w hws]
          refine h.bound u hu w hw hws p hp hpu fun q hq hqu => ?_
          have := hmax q (by rw [hpath]; exact List.mem_cons_of_mem _ hq) (by rw [ordP q hq, ordS u hu]; exact hqu)
          rwa [ordP q hq, ordP p hp] at this
  · intro v hv hin
    have e : v ≠ k := fun e => by subst e; rw [insk] at hin; simp at hin
    rw [ordne v e] at hv; rw [insne v e] at hin
    exact h.part v hv hin
  · intro v hv
    by_cases e : v = k
    · exact e ▸ hN
    · rw [ordne v e] at hv; exact h.vis v hv

/-- the same nodes on the path, and nothing else turned but how many edges were gone -/
theorem proc_bump {E : Nat → List Nat} {pre r : List (Nat × Nat)} {n g : Nat} (hpre : ∀ p ∈ pre, p.1 ≠ n) (u : Nat) :
    proc E (pre ++ (n, g + 1) :: r) u = if u = n then (E n).take (g + 1) else proc E (pre ++ (n, g) :: r) u := by
  induction pre with
  | nil =>
    by_cases e : u = n
    · subst e; simp [proc]
    · simp [proc, Ne.symm e, e]
  | cons p pre ih =>
    obtain ⟨v, k⟩ := p
    have hv : v ≠ n := hpre (v, k) (by simp)
    have ih := ih fun p hp => hpre p (List.mem_cons_of_mem _ hp)
    simp only [List.cons_append, proc]
    by_cases e : v = u
    · have : u ≠ n := fun h => hv (e.trans h)
      simp [e, this]
    · simp only [e, if_false]; exact ih

theorem proc_at {E : Nat → List Nat} {pre r : List (Nat × Nat)} {n g : Nat} (hpre : ∀ p ∈ pre, p.1 ≠ n) :
    proc E (pre ++ (n, g) :: r) n = (E n).take g := by
  induction pre with
  | nil => simp [proc]
  | cons p pre ih =>
    obtain ⟨v, k⟩ := p
    have hv : v ≠ n := hpre (v, k) (by simp)
    simp only [List.cons_append, proc, hv, if_false]
    exact ih fun p hp => hpre p (List.mem_cons_of_mem _ hp)

theorem Inv.bump {N : Nat} {E : Nat → List Nat} {s : St} (h : Inv N E s) {pre r : List (Nat × Nat)} {n g : Nat} (hp : s.path = pre ++ (n, g) :: r)
    (hg : g < (E n).length) (hto : s.ord ((E n).getD g 0) ≠ 0) (hlow : (E n).getD g 0 ∈ s.stk → s.low n ≤ s.ord ((E n).getD g 0)) :
    Inv N E { s with path := pre ++ (n, g + 1) :: r } := by
  have hpre : ∀ p ∈ pre, p.1 ≠ n := by
    intro p hpm e
    have := h.psorted
    rw [hp, List.pairwise_append] at this
    have := this.2.2 p hpm (n, g) (by simp)
    rw [e] at this; simp at this
  have hget : (E n).getD g 0 = (E n)[g] := by simp [List.getD, hg]
  rw [hget] at hto hlow
  have htake : (E n).take (g + 1) = (E n).take g ++ [(E n)[g]] := by simp [List.take_append_getElem]
  -- nodes of the new path are nodes of the old one
  have old : ∀ p ∈ pre ++ (n, g + 1) :: r, ∃ q ∈ s.path, q.1 = p.1 := by
    intro p hpm
    rw [hp]
    simp only [List.mem_append, List.mem_cons] at hpm ⊢
    rcases hpm with hpm | rfl | hpm
    · exact ⟨p, .inl hpm, rfl⟩
    · exact ⟨(n, g), .inr (.inl rfl), rfl⟩
    · exact ⟨p, .inr (.inr hpm), rfl⟩
  have new : ∀ q ∈ s.path, ∃ p ∈ pre ++ (n, g + 1) :: r, p.1 = q.1 := by
    intro q hq
    rw [hp] at hq
    simp only [List.mem_append, List.mem_cons] at hq ⊢
    rcases hq with hq | rfl | hq
    · exact ⟨q, .inl hq, rfl⟩
    · exact ⟨(n, g + 1), .inr (.inl rfl), rfl⟩
    · exact ⟨q, .inr (.inr hq), rfl⟩
  constructor
  · exact h.lt
  · exact h.inS
  · exact h.pos
  · exact h.clk
  · exact h.sorted
  · intro p hpm
    simp only [List.mem_append, List.mem_cons] at hpm
    rcases hpm with hpm | rfl | hpm
    · exact h.sub p (by rw [hp]; simp [hpm])
    · exact ⟨(h.sub (n, g) (by rw [hp]; simp)).1, hg⟩
    · exact h.sub p (by rw [hp]; simp [hpm])
  · have := h.psorted
    rw [hp] at this
    rw [List.pairwise_append, List.pairwise_cons] at this ⊢
    refine ⟨this.1, ⟨this.2.1.1, this.2.1.2⟩, fun a ha b hb => ?_⟩
    rcases List.mem_cons.1 hb with e | hb
    · rw [e]; exact this.2.2 a ha (n, g) (by simp)
    · exact this.2.2 a ha b (by simp [hb])
  · intro v hv u hu
    show s.ord u ≠ 0
    have hu : u ∈ proc E (pre ++ (n, g + 1) :: r) v := hu
    rw [proc_bump hpre] at hu
    split at hu
    · rename_i e
      rw [htake] at hu
      rcases List.mem_append.1 hu with hu | hu
      · exact h.seen v hv u (by rw [e, hp, proc_at hpre]; exact hu)
      · simp at hu; rw [hu]; exact hto
    · exact h.seen v hv u (by rw [hp]; exact hu)
  · exact h.done
  · intro p hpm y hy hle
    obtain ⟨q, hq, e⟩ := old p hpm
    rw [← e]
    exact h.g2s q hq y hy (by rw [e]; exact hle)
  · intro y hy
    obtain ⟨q, hq, h1, h2⟩ := h.s2g y hy
    obtain ⟨p, hpm, e⟩ := new q hq
    exact ⟨p, hpm, by rw [e]; exact h1, by rw [e]; exact h2⟩
  · intro p hpm
    obtain ⟨q, hq, e⟩ := old p hpm
    rw [← e]; exact h.lowle q hq
  · intro p hpm
    obtain ⟨q, hq, e⟩ := old p hpm
    rw [← e]; exact h.lowin q hq
  · intro u hu w hw hws p hpm hpu hmax
    obtain ⟨q, hq, e⟩ := old p hpm
    have hmax' : ∀ q' ∈ s.path, s.ord q'.1 ≤ s.ord u → s.ord q'.1 ≤ s.ord q.1 := by
      intro q' hq' hle
      obtain ⟨p', hpm', e'⟩ := new q' hq'
      have := hmax p' hpm' (by show s.ord p'.1 ≤ s.ord u; rw [e']; exact hle)
      have : s.ord p'.1 ≤ s.ord p.1 := this
      rw [e', ← e] at this; exact this
    have hpu' : s.ord q.1 ≤ s.ord u := by rw [e]; exact hpu
    show s.low p.1 ≤ s.ord w
    rw [← e]
    have hw : w ∈ proc E (pre ++ (n, g + 1) :: r) u := hw
    rw [proc_bump hpre] at hw
    split at hw
    · rename_i eu
      rw [htake] at hw
      rcases List.mem_append.1 hw with hw | hw
      · exact h.bound u hu w (by rw [eu, hp, proc_at hpre]; exact hw) hws q hq hpu' hmax'
      · simp at hw
        have hn : (n, g) ∈ s.path := by rw [hp]; simp
        have h1 := hmax' (n, g) hn (by rw [eu]; exact Nat.le_refl _)
        rw [eu] at hpu'
        have hqn : q.1 = n := h.inj (h.sub q hq).1 (h.sub _ hn).1 (by simp only at h1; omega)
        rw [hqn, hw]
        exact hlow (by rw [← hw]; exact hws)
    · exact h.bound u hu w (by rw [hp]; exact hw) hws q hq hpu' hmax'
  · exact h.part
  · exact h.vis

theorem Inv.setLow {N : Nat} {E : Nat → List Nat} {s : St} (h : Inv N E s) {n g t : Nat} {r : List (Nat × Nat)} (hp : s.path = (n, g) :: r)
    (ht : t ∈ s.stk) (he : t ∈ E n) : Inv N E { s with low := upd s.low n (min (s.low n) (s.ord t)) } := by
  have hle : ∀ v, upd s.low n (min (s.low n) (s.ord t)) v ≤ s.low v := by
    intro v
    by_cases e : v = n
    · subst e; rw [upd_same]; exact Nat.min_le_left _ _
    · rw [upd_ne _ _ e]; exact Nat.le_refl _
  constructor
  · exact h.lt
  · exact h.inS
  · exact h.pos
  · exact h.clk
  · exact h.sorted
  · exact h.sub
  · exact h.psorted
  · exact h.seen
  · exact h.done
  · exact h.g2s
  · exact h.s2g
  · intro p hpm; exact Nat.le_trans (hle _) (h.lowle p hpm)
  · intro p hpm
    show ∃ u ∈ s.stk, s.ord u = upd s.low n (min (s.low n) (s.ord t)) p.1 ∧ _
    by_cases e : p.1 = n
    · rw [e, upd_same]
      rcases Nat.le_total (s.low n) (s.ord t) with hm | hm
      · rw [Nat.min_eq_left hm, ← e]; exact h.lowin p hpm
      · rw [Nat.min_eq_right hm]; exact ⟨t, ht, rfl, .one he⟩
    · rw [upd_ne _ _ e]; exact h.lowin p hpm
  · intro u hu w hw hws p hpm hpu hmax
    exact Nat.le_trans (hle _) (h.bound u hu w hw hws p hpm hpu hmax)
  · exact h.part
  · exact h.vis

theorem Inv.pop {N : Nat} {E : Nat → List Nat} {s : St} (h : Inv N E s) {n : Nat} {r : List (Nat × Nat)} (hp : s.path = (n, (E n).length) :: r) :
    Inv N E ((s.close n).pop n r) := by
  have hn : (n, (E n).length) ∈ s.path := by rw [hp]; simp
  have hnS : n ∈ s.stk := (h.sub _ hn).1
  have htop := h.top hp
  have hrs : ∀ q ∈ r, q ∈ s.path := fun q hq => by rw [hp]; exact List.mem_cons_of_mem _ hq
  have hprocn : proc E s.path n = E n := by rw [hp]; simp [proc]
  have hprocr : ∀ v, v ≠ n → proc E r v = proc E s.path v := fun v hv => by rw [hp]; simp [proc, Ne.symm hv]
  have hnr : ∀ q ∈ r, q.1 ≠ n := fun q hq e => by have := htop q hq; rw [e] at this; omega
  have hprocr' : ∀ v, proc E r v = proc E s.path v := fun v => by
    by_cases e : v = n
    · subst e; rw [hprocn, proc_not hnr]
    · exact hprocr v e
  -- what the pop does to the numbers of the path that is left: the same nodes, low no greater
  by_cases hroot : s.low n = s.ord n
  · -- a part is closed
    obtain ⟨hseg, hrest⟩ := seg_spec hnS h.sorted
    have hgr : ∀ q ∈ r, q.1 ∈ rest s.stk n := fun q hq => (hrest _).2 ⟨(h.sub q (hrs q hq)).1, htop q hq⟩
    -- from the segment edges lead into the segment, or to what is done
    have hmaxn : ∀ u ∈ s.stk, s.ord n ≤ s.ord u → ∀ w ∈ E u, w ∈ s.stk → s.ord n ≤ s.ord w := by
      intro u hu hle w hw hws
      have hwp : w ∈ proc E s.path u := by
        by_cases e : u = n
        · subst e; rw [hprocn]; exact hw
        · rw [← hprocr u e, proc_not]
          · exact hw
          · intro q hq eq
            have := htop q hq; rw [eq] at this; omega
      have := h.bound u hu w hwp hws _ hn hle (fun q hq _ => by
        rw [hp] at hq
        rcases List.mem_cons.1 hq with e | hq
        · rw [e]; exact Nat.le_refl _
        · exact Nat.le_of_lt (htop q hq))
      simp only at this
      omega
    have hseen : ∀ u ∈ s.stk, s.ord n ≤ s.ord u → ∀ w ∈ E u, s.ord w ≠ 0 := by
      intro u hu hle w hw
      refine h.seen u (by have := h.pos u hu; omega) w ?_
      by_cases e : u = n
      · subst e; rw [hprocn]; exact hw
      · rw [← hprocr u e, proc_not]
        · exact hw
        · intro q hq eq
          have := htop q hq; rw [eq] at this; omega
    -- the closed set
    let S : Nat → Prop := fun v => s.ord v ≠ 0 ∧ (s.inS v = false ∨ (v ∈ s.stk ∧ s.ord n ≤ s.ord v))
    have hS : ∀ v, S v → ∀ u ∈ E v, S u := by
      rintro v ⟨hv, hv2⟩ u hu
      rcases hv2 with hv2 | ⟨hvs, hvle⟩
      · have := h.done v hv hv2 u hu
        exact ⟨this.1, .inl this.2⟩
      · refine ⟨hseen v hvs hvle u hu, ?_⟩
        cases hin : s.inS u with
        | false => exact .inl rfl
        | true =>
          have := (h.inS u).1 hin
          exact .inr ⟨this, hmaxn v hvs hvle u hu this⟩
    have doneClosed : ∀ v, (s.ord v ≠ 0 ∧ s.inS v = false) → ∀ u ∈ E v, (s.ord u ≠ 0 ∧ s.inS u = false) := fun v hv u hu => h.done v hv.1 hv.2 u hu
    have seg2n : ∀ u ∈ s.stk, s.ord n ≤ s.ord u → Rch E u n := by
      intro u hu hle
      obtain ⟨p, hpm, h1, h2⟩ := h.s2g u hu
      have hSp : S p.1 := Rch.closed hS (show S u from ⟨by have := h.pos u hu; omega, .inr ⟨hu, hle⟩⟩) h2
      have hps := (h.sub p hpm).1
      rcases hSp.2 with hf | hle'
      · rw [(h.inS p.1).2 hps] at hf; simp at hf
      · rw [hp] at hpm
        rcases List.mem_cons.1 hpm with e | hpm
        · rw [e] at h2; exact h2
        · have := htop p hpm; omega
    have n2seg : ∀ u ∈ s.stk, s.ord n ≤ s.ord u → Rch E n u := fun u hu hle => h.g2s _ hn u hu hle
    -- the closed state
    have hclose : s.close n = { s with part := updAll s.part (seg s.stk n) (least (seg s.stk n)), inS := updAll s.inS (seg s.stk n) false, stk := rest s.stk n } := by
      simp [St.close, hroot]
    have hsegne : seg s.stk n ≠ [] := List.ne_nil_of_mem ((hseg n).2 ⟨hnS, Nat.le_refl _⟩)
    have hleast := (hseg _).1 (least_mem _ hsegne)
    let s' : St := { s with part := updAll s.part (seg s.stk n) (least (seg s.stk n)), inS := updAll s.inS (seg s.stk n) false, stk := rest s.stk n, path := r }
    have hin' : ∀ v, s'.inS v = true ↔ v ∈ rest s.stk n := by
      intro v
      show updAll s.inS (seg s.stk n) false v = true ↔ _
      rw [hrest]
      unfold updAll
      by_cases hm : v ∈ seg s.stk n
      · have := (hseg v).1 hm
        simp only [hm, if_true]
        constructor
        · intro hc; simp at hc
        · intro hc; omega
      · simp only [hm, if_false]
        rw [h.inS v]
        constructor
        · intro hv; exact ⟨hv, by have : ¬ s.ord n ≤ s.ord v := fun hle => hm ((hseg v).2 ⟨hv, hle⟩); omega⟩
        · intro hv; exact hv.1
    have base : Inv N E s' := by
      constructor
      · intro v hv; exact h.lt v ((hrest v).1 hv).1
      · exact hin'
      · intro v hv; exact h.pos v ((hrest v).1 hv).1
      · exact h.clk
      · have := h.sorted
        rw [← seg_rest s.stk n hnS, List.pairwise_append] at this
        exact this.2.1
      · intro p hpm; exact ⟨hgr p hpm, (h.sub p (hrs p hpm)).2⟩
      · have := h.psorted
        rw [hp, List.pairwise_cons] at this
        exact this.2
      · intro v hv u hu
        exact h.seen v hv u (by rw [← hprocr' v]; exact hu)
      · intro v hv hin u hu
        show s.ord u ≠ 0 ∧ updAll s.inS (seg s.stk n) false u = false
        have hSv : S v := by
          refine ⟨hv, ?_⟩
          cases hv2 : s.inS v with
          | false => exact .inl rfl
          | true =>
            have hm := (h.inS v).1 hv2
            refine .inr ⟨hm, ?_⟩
            rcases Nat.lt_or_ge (s.ord v) (s.ord n) with hlt | hge
            · rw [(hin' v).2 ((hrest v).2 ⟨hm, hlt⟩)] at hin; simp at hin
            · exact hge
        have hSu := hS v hSv u hu
        refine ⟨hSu.1, ?_⟩
        unfold updAll
        by_cases hm : u ∈ seg s.stk n
        · simp [hm]
        · simp only [hm, if_false]
          rcases hSu.2 with h2 | h2
          · exact h2
          · exact absurd ((hseg u).2 h2) hm
      · intro p hpm y hy hle; exact h.g2s p (hrs p hpm) y ((hrest y).1 hy).1 hle
      · intro y hy
        obtain ⟨hys, hylt⟩ := (hrest y).1 hy
        obtain ⟨p, hpm, h1, h2⟩ := h.s2g y hys
        rw [hp] at hpm
        rcases List.mem_cons.1 hpm with e | hpm
        · rw [e] at h1; simp only at h1; omega
        · exact ⟨p, hpm, h1, h2⟩
      · intro p hpm; exact h.lowle p (hrs p hpm)
      · intro p hpm
        obtain ⟨u, hu, h1, h2⟩ := h.lowin p (hrs p hpm)
        have hlt : s.ord u < s.ord n := by rw [h1]; exact Nat.lt_of_le_of_lt (h.lowle p (hrs p hpm)) (htop p hpm)
        exact ⟨u, (hrest u).2 ⟨hu, hlt⟩, h1, h2⟩
      · intro u hu w hw hws p hpm hpu hmax
        obtain ⟨hus, hult⟩ := (hrest u).1 hu
        refine h.bound u hus w (by rw [← hprocr' u]; exact hw) ((hrest w).1 hws).1 p (hrs p hpm) hpu fun q hq hqu => ?_
        rw [hp] at hq
        rcases List.mem_cons.1 hq with e | hq
        · rw [e] at hqu; simp only at hqu; omega
        · exact hmax q hq hqu
      · intro v hv hin
        show Rch E v (updAll s.part _ _ v) ∧ Rch E (updAll s.part _ _ v) v ∧ ∀ u, _ → _ → updAll s.part _ _ v ≤ u
        unfold updAll
        by_cases hm : v ∈ seg s.stk n
        · simp only [hm, if_true]
          obtain ⟨hvs, hvle⟩ := (hseg v).1 hm
          refine ⟨(seg2n v hvs hvle).trans (n2seg _ hleast.1 hleast.2), (seg2n _ hleast.1 hleast.2).trans (n2seg v hvs hvle), fun u hvu huv => ?_⟩
          have hSu : S u := Rch.closed hS (show S v from ⟨by have := h.pos v hvs; omega, .inr ⟨hvs, hvle⟩⟩) hvu
          rcases hSu.2 with hf | hu
          · have := Rch.closed doneClosed ⟨hSu.1, hf⟩ huv
            rw [(h.inS v).2 hvs] at this; simp at this
          · exact least_le _ _ ((hseg u).2 hu)
        · simp only [hm, if_false]
          have hf : s.inS v = false := by
            have hin : updAll s.inS (seg s.stk n) false v = false := hin
            unfold updAll at hin
            simpa only [hm, if_false] using hin
          exact h.part v hv hf
      · exact h.vis
    rw [hclose]
    cases r with
    | nil => exact base
    | cons p r' =>
      obtain ⟨a, g⟩ := p
      have hmin : min (s.low a) (s.low n) = s.low a := by
        have h1 := h.lowle (a, g) (hrs _ (by simp))
        have h2 := htop (a, g) (by simp)
        simp only at h1 h2
        omega
      have hlow : upd s.low a (min (s.low a) (s.low n)) = s.low := by
        funext x
        by_cases e : x = a
        · subst e; rw [upd_same, hmin]
        · rw [upd_ne _ _ e]
      simp only [St.pop, hlow]
      exact base
  · -- the node stays on the stack
    have hclose : s.close n = s := by simp [St.close, hroot]
    rw [hclose]
    have hlt : s.low n < s.ord n := by have := h.lowle _ hn; simp only at this; omega
    obtain ⟨u0, hu0, e0, r0⟩ := h.lowin _ hn
    simp only at e0 r0
    -- the path behind is not empty
    cases r with
    | nil =>
      exfalso
      obtain ⟨p, hpm, h1, _⟩ := h.s2g u0 hu0
      rw [hp] at hpm
      simp at hpm
      rw [hpm] at h1; simp only at h1; omega
    | cons p r' =>
      obtain ⟨a, g⟩ := p
      have ha : (a, g) ∈ s.path := hrs _ (by simp)
      have haS := (h.sub _ ha).1
      have hatop : s.ord a < s.ord n := htop (a, g) (by simp)
      have hra : ∀ q ∈ r', s.ord q.1 < s.ord a := by
        have := h.psorted
        rw [hp, List.pairwise_cons, List.pairwise_cons] at this
        exact this.2.1
      have hle : ∀ v, upd s.low a (min (s.low a) (s.low n)) v ≤ s.low v := by
        intro v
        by_cases e : v = a
        · subst e; rw [upd_same]; exact Nat.min_le_left _ _
        · rw [upd_ne _ _ e]; exact Nat.le_refl _
      have ha2n : Rch E a n := h.g2s _ ha n hnS (Nat.le_of_lt hatop)
      show Inv N E { s with path := (a, g) :: r', low := upd s.low a (min (s.low a) (s.low n)) }
      constructor
      · exact h.lt
      · exact h.inS
      · exact h.pos
      · exact h.clk
      · exact h.sorted
      · intro p hpm; exact h.sub p (hrs p hpm)
      · have := h.psorted
        rw [hp, List.pairwise_cons] at this
        exact this.2
      · intro v hv u hu
        exact h.seen v hv u (by rw [← hprocr' v]; exact hu)
      · exact h.done
      · intro p hpm y hy hl; exact h.g2s p (hrs p hpm) y hy hl
      · intro y hy
        obtain ⟨p, hpm, h1, h2⟩ := h.s2g y hy
        rw [hp] at hpm
        rcases List.mem_cons.1 hpm with e | hpm
        · obtain ⟨p', hpm', h1', h2'⟩ := h.s2g u0 hu0
          rw [hp] at hpm'
          rcases List.mem_cons.1 hpm' with e' | hpm'
          · rw [e'] at h1'; simp only at h1'; omega
          · rw [e] at h1 h2; simp only at h1 h2
            exact ⟨p', hpm', by show s.ord p'.1 ≤ s.ord y; omega, (h2.trans r0).trans h2'⟩
        · exact ⟨p, hpm, h1, h2⟩
      · intro p hpm; exact Nat.le_trans (hle _) (h.lowle p (hrs p hpm))
      · intro p hpm
        show ∃ u ∈ s.stk, s.ord u = upd s.low a (min (s.low a) (s.low n)) p.1 ∧ _
        by_cases e : p.1 = a
        · rw [e, upd_same]
          rcases Nat.le_total (s.low a) (s.low n) with hm | hm
          · rw [Nat.min_eq_left hm, ← e]; exact h.lowin p (hrs p hpm)
          · rw [Nat.min_eq_right hm]; exact ⟨u0, hu0, e0, ha2n.trans r0⟩
        · rw [upd_ne _ _ e]; exact h.lowin p (hrs p hpm)
      · intro u hu w hw hws p hpm hpu hmax
        show upd s.low a (min (s.low a) (s.low n)) p.1 ≤ s.ord w
        have hw : w ∈ proc E s.path u := by rw [← hprocr' u]; exact hw
        rcases Nat.lt_or_ge (s.ord u) (s.ord n) with hun | hun
        · refine Nat.le_trans (hle _) (h.bound u hu w hw hws p (hrs p hpm) hpu fun q hq hqu => ?_)
          rw [hp] at hq
          rcases List.mem_cons.1 hq with e | hq
          · rw [e] at hqu; simp only at hqu; omega
          · exact hmax q hq hqu
        · -- its greatest one was n, and is a
          have hpa : p.1 = a := by
            have h1 := hmax (a, g) (by simp) (by show s.ord a ≤ s.ord u; omega)
            have h1 : s.ord a ≤ s.ord p.1 := h1
            rcases List.mem_cons.1 hpm with e | hpm'
            · rw [e]
            · have := hra p hpm'; omega
          rw [hpa, upd_same]
          have := h.bound u hu w hw hws _ hn hun (fun q hq _ => by
            rw [hp] at hq
            rcases List.mem_cons.1 hq with e | hq
            · rw [e]; exact Nat.le_refl _
            · exact Nat.le_of_lt (htop q hq))
          simp only at this
          omega
      · exact h.part
      · exact h.vis

theorem Inv.round {N : Nat} {E : Nat → List Nat} {s : St} (h : Inv N E s) (hE : ∀ v, ∀ u ∈ E v, u < N) : Inv N E (s.round E) := by
  unfold St.round
  split
  · exact h
  · rename_i n g r hp
    split
    · rename_i hg
      subst hg
      exact h.pop hp
    · rename_i hg
      have hle := (h.sub (n, g) (by rw [hp]; simp)).2
      simp only at hle
      have hlt : g < (E n).length := by omega
      have hget : (E n).getD g 0 = (E n)[g] := by simp [List.getD, hlt]
      have hmem : (E n).getD g 0 ∈ E n := by rw [hget]; exact List.getElem_mem _
      simp only
      split
      · rename_i h0
        -- entered first, then counted
        have hpn : (n, g) ∈ s.path := by rw [hp]; simp
        have h1 := h.enter h0 (hE _ _ hmem) (fun p hpm => (h.g2s p hpm n (h.sub _ hpn).1 (by
          rw [hp] at hpm
          rcases List.mem_cons.1 hpm with e | hpm
          · rw [e]; exact Nat.le_refl _
          · exact Nat.le_of_lt (h.top hp p hpm))).trans (.one hmem))
        have hne : n ≠ (E n).getD g 0 := by
          intro e
          have := h.pos n (h.sub _ hpn).1
          rw [← e] at h0; omega
        have h2 := h1.bump (pre := [((E n).getD g 0, 0)]) (r := r) (n := n) (g := g) (by show (_ :: s.path) = _; rw [hp]; rfl) hlt
          (by show upd s.ord _ _ _ ≠ 0; rw [upd_same]; omega)
          (fun _ => by
            show upd s.low _ _ n ≤ upd s.ord _ _ _
            rw [upd_same, upd_ne _ _ hne]
            have := h.lowle _ hpn
            have := h.clk n
            simp only at *
            omega)
        exact h2
      · rename_i h0
        split
        · rename_i hin
          have hs := (h.inS _).1 hin
          have h1 := h.setLow hp hs hmem
          exact h1.bump (pre := []) (r := r) (n := n) (g := g) hp hlt h0 (fun _ => by
            show upd s.low n _ n ≤ _; rw [upd_same]; exact Nat.min_le_right _ _)
        · rename_i hin
          exact h.bump (pre := []) (r := r) (n := n) (g := g) hp hlt h0 (fun hs => absurd ((h.inS _).2 hs) hin)

end Go.Proofs.Ytkflhmpecfckfaa.Tj
