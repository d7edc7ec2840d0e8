/- plain law: the document's parts (lariatref13): as deep as it goes, then back, the last one left first -/
import Derived.Test.YtkflhmpecfckfaaT2
namespace Go.Proofs.Ytkflhmpecfckfaa.Tj

/-- a way: each stands behind one that leads there -/
def Chain (E : Nat → List Nat) : List (Nat × Nat) → Prop
  | [] => True
  | a :: r => (∀ b, r.head? = some b → a.1 ∈ E b.1) ∧ Chain E r
theorem Chain.reach {E : Nat → List Nat} : ∀ {way : List (Nat × Nat)} {k g : Nat} {r : List (Nat × Nat)}, way = (k, g) :: r → Chain E way → ∀ p ∈ way, Rch E p.1 k
  | _, k, g, [], rfl, _, p, hp => by
    obtain rfl := List.mem_singleton.1 hp
    exact .refl _
  | _, k, g, b :: r, rfl, h, p, hp => by
    rcases List.mem_cons.1 hp with rfl | hp
    · exact .refl _
    · have h1 := h.1 b rfl
      have h2 := Chain.reach (way := b :: r) (k := b.1) (g := b.2) (r := r) rfl h.2 p hp
      exact .step h2 h1
theorem Chain.bump {E : Nat → List Nat} {k g g' : Nat} {r : List (Nat × Nat)} (h : Chain E ((k, g) :: r)) : Chain E ((k, g') :: r) := ⟨h.1, h.2⟩

/-- the first phase: who was met, who was left (in order), the way (its top first; how many edges are gone) -/
structure K1 (N : Nat) (E : Nat → List Nat) (D : Nat → Nat → Nat → Prop) (met : Nat → Bool) (left : List Nat) (way : List (Nat × Nat)) : Prop where
  mt : ∀ v, met v = true ↔ v ∈ left ∨ v ∈ way.map Prod.fst
  lt : ∀ v, met v = true → v < N
  nd : (way.map Prod.fst ++ left).Nodup
  ch : Chain E way
  gone : ∀ p ∈ way, ∀ u, D p.1 p.2 u → met u = true
  fin : ∀ x ∈ left, ∀ v ∈ E x, met v = true
  pp : ∀ (i j x u v : Nat), left[i]? = some x → left[j]? = some u → i ≤ j → v ∈ E x → v ∉ left.take j → Rch E v u
section
variable {N : Nat} {E : Nat → List Nat} {D : Nat → Nat → Nat → Prop} {met : Nat → Bool} {left : List Nat} {way : List (Nat × Nat)}
/-- D k g u: u is one of k's first g edges that lead to nodes -/
structure Edg (N : Nat) (E : Nat → List Nat) (len : Nat → Nat) (D : Nat → Nat → Nat → Prop) : Prop where
  zero : ∀ k u, ¬ D k 0 u
  all : ∀ k u, u ∈ E k → D k (len k) u
  lt : ∀ k, ∀ u ∈ E k, u < N
theorem K1.start : K1 N E D (fun _ => false) [] [] := by
  refine ⟨fun v => by simp, fun v h => (by cases h), by simp, trivial, fun p hp => (by cases hp), fun x hx => (by cases hx), fun i j x u v hi => by simp at hi⟩
theorem K1.enter {len : Nat → Nat} (e : Edg N E len D) (h : K1 N E D met left way) {k : Nat} (hk : met k = false) (hN : k < N) (hc : ∀ b, way.head? = some b → k ∈ E b.1) : K1 N E D (upd met k true) left ((k, 0) :: way) := by
  have hm : ∀ v, upd met k true v = true ↔ v = k ∨ met v = true := fun v => by
    unfold upd
    by_cases he : v = k
    · simp [he]
    · simp [he]
  have hnk : k ∉ left ∧ k ∉ way.map Prod.fst := by
    constructor
    · intro hm2
      have := (h.mt k).2 (.inl hm2)
      rw [hk] at this; cases this
    · intro hm2
      have := (h.mt k).2 (.inr hm2)
      rw [hk] at this; cases this
  refine ⟨fun v => ?_, fun v hv => ?_, ?_, ⟨hc, h.ch⟩, fun p hp u hu => ?_, fun x hx v hv => (hm v).2 (.inr (h.fin x hx v hv)), h.pp⟩
  · rw [hm, h.mt]
    simp only [List.map_cons, List.mem_cons]
    constructor
    · rintro (h1 | h1 | h1)
      · exact .inr (.inl h1)
      · exact .inl h1
      · exact .inr (.inr h1)
    · rintro (h1 | h1 | h1)
      · exact .inr (.inl h1)
      · exact .inl h1
      · exact .inr (.inr h1)
  · rcases (hm v).1 hv with rfl | hv
    · exact hN
    · exact h.lt v hv
  · rw [List.map_cons, List.cons_append]
    refine List.nodup_cons.2 ⟨fun hm2 => ?_, h.nd⟩
    rcases List.mem_append.1 hm2 with hm2 | hm2
    · exact hnk.2 hm2
    · exact hnk.1 hm2
  · rcases List.mem_cons.1 hp with rfl | hp
    · exact absurd hu (e.zero _ _)
    · exact (hm u).2 (.inr (h.gone p hp u hu))
/-- one edge more is gone -/
theorem K1.bump {k g : Nat} {r : List (Nat × Nat)} (h : K1 N E D met left ((k, g) :: r)) (hu : ∀ u, D k (g + 1) u → D k g u ∨ met u = true) : K1 N E D met left ((k, g + 1) :: r) := by
  refine ⟨fun v => by rw [h.mt]; rfl, h.lt, h.nd, h.ch.bump, fun p hp u hd => ?_, h.fin, h.pp⟩
  rcases List.mem_cons.1 hp with rfl | hp
  · rcases hu u hd with h1 | h1
    · exact h.gone (k, g) List.mem_cons_self u h1
    · exact h1
  · exact h.gone p (List.mem_cons_of_mem _ hp) u hd
/-- the edge leads to a node that was not met: it is entered -/
theorem K1.into {len : Nat → Nat} (e : Edg N E len D) {k g t : Nat} {r : List (Nat × Nat)} (h : K1 N E D met left ((k, g) :: r)) (ht : met t = false) (hE : t ∈ E k) (hu : ∀ u, D k (g + 1) u → D k g u ∨ u = t) : K1 N E D (upd met t true) left ((t, 0) :: (k, g + 1) :: r) := by
  have h1 := h.enter e ht (e.lt k t hE) (fun b hb => by obtain rfl := Option.some.inj hb; exact hE)
  have hmt : upd met t true t = true := by simp [upd]
  refine ⟨fun v => by rw [h1.mt]; rfl, h1.lt, h1.nd, ⟨fun b hb => by obtain rfl := Option.some.inj hb; exact hE, h.ch.bump⟩, fun p hp u hd => ?_, h1.fin, h1.pp⟩
  rcases List.mem_cons.1 hp with rfl | hp
  · exact absurd hd (e.zero _ _)
  · rcases List.mem_cons.1 hp with rfl | hp
    · rcases hu u hd with h2 | rfl
      · exact h1.gone (k, g) (List.mem_cons_of_mem _ List.mem_cons_self) u h2
      · exact hmt
    · exact h1.gone p (List.mem_cons_of_mem _ (List.mem_cons_of_mem _ hp)) u hd
/-- a node is left -/
theorem K1.leave {len : Nat → Nat} (e : Edg N E len D) {k : Nat} {r : List (Nat × Nat)} (h : K1 N E D met left ((k, len k) :: r)) : K1 N E D met (left ++ [k]) r := by
  have hall : ∀ v ∈ E k, met v = true := fun v hv => h.gone (k, len k) List.mem_cons_self v (e.all k v hv)
  have hnd := h.nd
  rw [List.map_cons, List.cons_append] at hnd
  obtain ⟨n1, n2⟩ := List.nodup_cons.1 hnd
  refine ⟨fun v => ?_, h.lt, ?_, h.ch.2, fun p hp => h.gone p (List.mem_cons_of_mem _ hp), fun x hx v hv => ?_, fun i j x u v hi hj hij hv hn => ?_⟩
  · rw [h.mt, List.map_cons, List.mem_cons, List.mem_append, List.mem_singleton]
    constructor
    · rintro (h1 | h1 | h1)
      · exact .inl (.inl h1)
      · exact .inl (.inr h1)
      · exact .inr h1
    · rintro ((h1 | h1) | h1)
      · exact .inl h1
      · exact .inr (.inl h1)
      · exact .inr (.inr h1)
  · rw [← List.append_assoc]
    refine List.nodup_append.2 ⟨n2, by simp, fun a ha b hb => ?_⟩
    obtain rfl := List.mem_singleton.1 hb
    rintro rfl
    exact n1 ha
  · rcases List.mem_append.1 hx with hx | hx
    · exact h.fin x hx v hv
    · obtain rfl := List.mem_singleton.1 hx
      exact hall v hv
  · by_cases hjl : j < left.length
    · rw [List.getElem?_append_left hjl] at hj
      rw [List.getElem?_append_left (by omega)] at hi
      rw [List.take_append_of_le_length (by omega)] at hn
      exact h.pp i j x u v hi hj hij hv hn
    · have hj2 : j = left.length := by
        have := (List.getElem?_eq_some_iff.1 hj).1
        simp at this
        omega
      subst hj2
      rw [List.getElem?_append_right (Nat.le_refl _), Nat.sub_self] at hj
      obtain rfl : k = u := by simpa using hj
      rw [List.take_append_of_le_length (Nat.le_refl _), List.take_length] at hn
      have hx : x ∈ left ++ [k] := List.mem_of_getElem? hi
      have hmv : met v = true := by
        rcases List.mem_append.1 hx with hx | hx
        · exact h.fin x hx v hv
        · obtain rfl := List.mem_singleton.1 hx
          exact hall v hv
      rcases (h.mt v).1 hmv with hl | hw
      · exact absurd hl hn
      · obtain ⟨p, hp, rfl⟩ := List.mem_map.1 hw
        exact h.ch.reach rfl p hp
/-- it ends: all nodes, in an order in which -/
structure Left (N : Nat) (E : Nat → List Nat) (left : List Nat) : Prop where
  nd : left.Nodup
  mem : ∀ v, v ∈ left ↔ v < N
  pp : ∀ (i j x u v : Nat), left[i]? = some x → left[j]? = some u → i ≤ j → v ∈ E x → v ∉ left.take j → Rch E v u
theorem K1.done (h : K1 N E D met left []) (hall : ∀ v, v < N → met v = true) : Left N E left := by
  refine ⟨by simpa using h.nd, fun v => ?_, h.pp⟩
  have := h.mt v
  simp only [List.map_nil, List.not_mem_nil, or_false] at this
  constructor
  · intro hv; exact h.lt v (this.2 hv)
  · intro hv; exact this.1 (hall v hv)
theorem nodup_length {N : Nat} {l : List Nat} (nd : l.Nodup) (mem : ∀ v, v ∈ l ↔ v < N) : l.length = N := by
  have h1 : l.Perm (List.range N) := by
    refine (List.perm_ext_iff_of_nodup nd List.nodup_range).2 fun v => ?_
    rw [mem, List.mem_range]
  rw [h1.length_eq, List.length_range]
theorem Left.length (h : Left N E left) : left.length = N := nodup_length h.nd h.mem

/-- u leads to f by nodes of U alone -/
inductive Via (E : Nat → List Nat) (U : Nat → Prop) (f : Nat) : Nat → Prop
  | refl : U f → Via E U f f
  | step {u v : Nat} : U u → v ∈ E u → Via E U f v → Via E U f u
theorem Via.rch {U : Nat → Prop} {f u : Nat} (h : Via E U f u) : Rch E u f := by
  induction h with
  | refl _ => exact .refl _
  | step _ hv _ ih => exact (Rch.one hv).trans ih
theorem Via.u {U : Nat → Prop} {f u : Nat} (h : Via E U f u) : U u := by
  cases h with
  | refl h => exact h
  | step h _ _ => exact h
/-- the last one of some nodes leads to all of them that lead to it by these -/
theorem Left.back (L : Left N E left) (hN : ∀ k, ∀ u ∈ E k, u < N) {i f : Nat} (hf : left[i]? = some f) {U : Nat → Prop} (hU : ∀ v, U v → v < N) (hlast : ∀ j v, left[j]? = some v → U v → j ≤ i) {u : Nat} (h : Via E U f u) :
    ∀ jx jy y, left[jx]? = some u → left[jy]? = some y → jx ≤ jy → jy ≤ i → Rch E f y := by
  induction h with
  | refl _ =>
    intro jx jy y hx hy hxy hyi
    have e1 : jx = i := by
      have := L.nd
      exact (List.getElem?_inj (List.getElem?_eq_some_iff.1 hx).1 this).1 (by rw [hx, hf])
    have e2 : jy = i := by omega
    subst e2
    rw [hy] at hf
    obtain rfl := Option.some.inj hf
    exact .refl _
  | step hu hv hvia ih =>
    rename_i u v
    intro jx jy y hx hy hxy hyi
    have hvN := hN u v hv
    obtain ⟨jv, hjv⟩ := List.getElem?_of_mem ((L.mem v).2 hvN)
    have hvi := hlast jv v hjv hvia.u
    by_cases hc : jv ≤ jy
    · exact ih jv jy y hjv hy hc hyi
    · have h1 := ih jv jv v hjv hjv (Nat.le_refl _) hvi
      refine h1.trans (L.pp jx jy u y v hx hy hxy hv fun hm => ?_)
      obtain ⟨q, hq⟩ := List.getElem?_of_mem hm
      rw [List.getElem?_take] at hq
      split at hq
      · have e9 : left[q]? = left[jv]? := hq.trans hjv.symm
        have : q = jv := (List.getElem?_inj (List.getElem?_eq_some_iff.1 hq).1 L.nd).1 e9
        omega
      · cases hq
theorem Left.same (L : Left N E left) (hN : ∀ k, ∀ u ∈ E k, u < N) {i f : Nat} (hf : left[i]? = some f) {U : Nat → Prop} (hU : ∀ v, U v → v < N) (hlast : ∀ j v, left[j]? = some v → U v → j ≤ i) {u : Nat} (h : Via E U f u) : Rch E f u ∧ Rch E u f := by
  obtain ⟨ju, hju⟩ := List.getElem?_of_mem ((L.mem u).2 (hU u h.u))
  exact ⟨L.back hN hf hU hlast h ju ju u hju hju (Nat.le_refl _) (hlast ju u hju h.u), h.rch⟩
end

/-- each leads to the other -/
def Sc (E : Nat → List Nat) (a b : Nat) : Prop := Rch E a b ∧ Rch E b a
theorem Sc.symm {E : Nat → List Nat} {a b : Nat} (h : Sc E a b) : Sc E b a := ⟨h.2, h.1⟩
theorem Sc.trans {E : Nat → List Nat} {a b c : Nat} (h : Sc E a b) (k : Sc E b c) : Sc E a c := ⟨h.1.trans k.1, k.2.trans h.2⟩
/-- the least of a part -/
def IsMin (E : Nat → List Nat) (f m : Nat) : Prop := Sc E f m ∧ ∀ w, Sc E f w → m ≤ w
/-- the second phase: those that were left at place i and later have their part -/
structure K2 (N : Nat) (E : Nat → List Nat) (left : List Nat) (i : Nat) (part : Nat → Int) (ls : Nat → Nat) : Prop where
  o1 : ∀ v, v < N → part v ≠ -1 → ∃ f : Nat, part v = f ∧ f < N ∧ Sc E v f ∧ IsMin E f (ls f)
  o2 : ∀ v w, v < N → w < N → Sc E v w → part v = part w
  o3 : ∀ j v, i ≤ j → left[j]? = some v → part v ≠ -1
/-- while a part is gathered: f is its first node, td those that wait, cur the one at hand with the nodes that lead there and were looked at -/
structure K3 (N : Nat) (E : Nat → List Nat) (left : List Nat) (i f : Nat) (part0 : Nat → Int) (ls0 : Nat → Nat) (pt : Nat → Int) (ls : Nat → Nat) (td : List Nat) (cur : Option (Nat × List Nat)) : Prop where
  base : K2 N E left (i + 1) part0 ls0
  hf : left[i]? = some f
  free : part0 f = -1
  cs : ∀ v, v < N → pt v = part0 v ∨ (pt v = f ∧ part0 v = -1 ∧ Via E (fun u => u < N ∧ part0 u = -1) f v)
  self : pt f = f
  tw : ∀ v ∈ td, v < N ∧ pt v = f ∧ part0 v = -1
  dn : ∀ v, v < N → pt v = f → part0 v = -1 → v ∈ td ∨ (∃ P, cur = some (v, P)) ∨ ((∀ u, u < N → v ∈ E u → pt u ≠ -1) ∧ ls f ≤ v)
  cu : ∀ k P, cur = some (k, P) → (k < N ∧ pt k = f ∧ part0 k = -1) ∧ (∀ u ∈ P, pt u ≠ -1) ∧ ls f ≤ k
  lf : Sc E f (ls f)
  lo : ∀ x, x ≠ f → ls x = ls0 x
section
variable {N : Nat} {E : Nat → List Nat} {left : List Nat} {i f : Nat} {part0 : Nat → Int} {ls0 : Nat → Nat} {pt : Nat → Int} {ls : Nat → Nat} {td : List Nat} {cur : Option (Nat × List Nat)}
theorem K2.start (L : Left N E left) : K2 N E left N (fun _ => -1) ls := ⟨fun v _ h => absurd rfl h, fun _ _ _ _ _ => rfl, fun j v hj hv => by
  have := (List.getElem?_eq_some_iff.1 hv).1
  rw [L.length] at this
  omega⟩
theorem K2.skip (h : K2 N E left (i + 1) pt ls) (hf : left[i]? = some f) (hp : pt f ≠ -1) : K2 N E left i pt ls := ⟨h.o1, h.o2, fun j v hj hv => by
  by_cases e : j = i
  · subst e
    rw [hf] at hv
    obtain rfl := Option.some.inj hv
    exact hp
  · exact h.o3 j v (by omega) hv⟩
theorem K3.start (h : K2 N E left (i + 1) part0 ls0) (hf : left[i]? = some f) (hN : f < N) (hp : part0 f = -1) : K3 N E left i f part0 ls0 (upd part0 f (f : Int)) (upd ls0 f f) [f] none := by
  have e1 : upd part0 f (f : Int) f = f := by simp [upd]
  refine ⟨h, hf, hp, fun v hv => ?_, e1, fun v hv => ?_, fun v hv h1 h2 => ?_, fun k P h => (by cases h), by simp only [upd_same]; exact ⟨.refl _, .refl _⟩, fun x hx => upd_ne _ _ hx⟩
  · by_cases e : v = f
    · subst e
      exact .inr ⟨e1, hp, .refl ⟨hv, hp⟩⟩
    · exact .inl (upd_ne _ _ e)
  · obtain rfl := List.mem_singleton.1 hv
    exact ⟨hN, e1, hp⟩
  · by_cases e : v = f
    · subst e; exact .inl List.mem_cons_self
    · rw [upd_ne _ _ e, h2] at h1
      omega
/-- the one that waits last is taken -/
theorem K3.take {k : Nat} (L : Left N E left) (hE : ∀ k, ∀ u ∈ E k, u < N) (h : K3 N E left i f part0 ls0 pt ls (td ++ [k]) none) : K3 N E left i f part0 ls0 pt (upd ls f (min (ls f) k)) td (some (k, [])) := by
  have hk := h.tw k (List.mem_append_right _ (List.mem_singleton.2 rfl))
  have hV : ∀ v, v < N → pt v = f → part0 v = -1 → Via E (fun u => u < N ∧ part0 u = -1) f v := fun v hv h1 h2 => by
    rcases h.cs v hv with h3 | h3
    · rw [h1, h2] at h3; omega
    · exact h3.2.2
  have hsc : Sc E f k := L.same hE h.hf (fun v hv => hv.1) (fun j v hj hv => by
    refine Classical.byContradiction fun hc => ?_
    exact h.base.o3 j v (by omega) hj hv.2) (hV k hk.1 hk.2.1 hk.2.2)
  have em : upd ls f (min (ls f) k) f = min (ls f) k := upd_same _ _ _
  refine ⟨h.base, h.hf, h.free, h.cs, h.self, fun v hv => h.tw v (List.mem_append_left _ hv), fun v hv h1 h2 => ?_, fun k' P e => ?_, ?_, fun x hx => by rw [upd_ne _ _ hx]; exact h.lo x hx⟩
  · rcases h.dn v hv h1 h2 with h3 | ⟨P, h3⟩ | ⟨h3, h4⟩
    · rcases List.mem_append.1 h3 with h3 | h3
      · exact .inl h3
      · obtain rfl := List.mem_singleton.1 h3
        exact .inr (.inl ⟨[], rfl⟩)
    · cases h3
    · refine .inr (.inr ⟨h3, ?_⟩)
      rw [em]
      omega
  · cases e
    refine ⟨hk, fun u hu => (by cases hu), ?_⟩
    rw [em]
    omega
  · rw [em]
    rcases Nat.le_total (ls f) k with h1 | h1
    · rw [Nat.min_eq_left h1]; exact h.lf
    · rw [Nat.min_eq_right h1]; exact hsc
/-- a node that leads there has its part -/
theorem K3.had {k u : Nat} {P : List Nat} (h : K3 N E left i f part0 ls0 pt ls td (some (k, P))) (hu : pt u ≠ -1) : K3 N E left i f part0 ls0 pt ls td (some (k, P ++ [u])) := by
  obtain ⟨c1, c2, c3⟩ := h.cu k P rfl
  refine ⟨h.base, h.hf, h.free, h.cs, h.self, h.tw, fun v hv h1 h2 => ?_, fun k' P' e => ?_, h.lf, h.lo⟩
  · rcases h.dn v hv h1 h2 with h3 | ⟨P', h3⟩ | h3
    · exact .inl h3
    · cases h3
      exact .inr (.inl ⟨_, rfl⟩)
    · exact .inr (.inr h3)
  · cases e
    refine ⟨c1, fun x hx => ?_, c3⟩
    rcases List.mem_append.1 hx with hx | hx
    · exact c2 x hx
    · obtain rfl := List.mem_singleton.1 hx
      exact hu
/-- a node that leads there and has no part yet -/
theorem K3.got {k u : Nat} {P : List Nat} (h : K3 N E left i f part0 ls0 pt ls td (some (k, P))) (hu : pt u = -1) (hN : u < N) (hE : k ∈ E u) : K3 N E left i f part0 ls0 (upd pt u (f : Int)) ls (td ++ [u]) (some (k, P ++ [u])) := by
  obtain ⟨c1, c2, c3⟩ := h.cu k P rfl
  have hp0 : part0 u = -1 := by
    rcases h.cs u hN with h1 | h1
    · rw [← h1, hu]
    · exact h1.2.1
  have hmono : ∀ x, pt x ≠ -1 → upd pt u (f : Int) x = pt x := fun x hx => by
    by_cases e : x = u
    · subst e; exact absurd hu hx
    · exact upd_ne _ _ e
  have hne : ∀ x, pt x ≠ -1 → upd pt u (f : Int) x ≠ -1 := fun x hx => by rw [hmono x hx]; exact hx
  have huu : upd pt u (f : Int) u = f := upd_same _ _ _
  have hkv : Via E (fun u => u < N ∧ part0 u = -1) f k := by
    rcases h.cs k c1.1 with h3 | h3
    · rw [c1.2.1, c1.2.2] at h3; omega
    · exact h3.2.2
  refine ⟨h.base, h.hf, h.free, fun v hv => ?_, ?_, fun v hv => ?_, fun v hv h1 h2 => ?_, fun k' P' e => ?_, h.lf, h.lo⟩
  · by_cases e : v = u
    · subst e
      exact .inr ⟨huu, hp0, .step ⟨hN, hp0⟩ hE hkv⟩
    · rw [upd_ne _ _ e]; exact h.cs v hv
  · rw [hmono f (by rw [h.self]; omega)]; exact h.self
  · rcases List.mem_append.1 hv with hv | hv
    · obtain ⟨t1, t2, t3⟩ := h.tw v hv
      exact ⟨t1, by rw [hmono v (by rw [t2]; omega)]; exact t2, t3⟩
    · obtain rfl := List.mem_singleton.1 hv
      exact ⟨hN, huu, hp0⟩
  · by_cases e : v = u
    · subst e; exact .inl (List.mem_append_right _ (List.mem_singleton.2 rfl))
    · rw [upd_ne _ _ e] at h1
      rcases h.dn v hv h1 h2 with h3 | ⟨P', h3⟩ | ⟨h3, h4⟩
      · exact .inl (List.mem_append_left _ h3)
      · cases h3
        exact .inr (.inl ⟨_, rfl⟩)
      · exact .inr (.inr ⟨fun x hx hv2 => hne x (h3 x hx hv2), h4⟩)
  · cases e
    refine ⟨⟨c1.1, by rw [hmono k (by rw [c1.2.1]; omega)]; exact c1.2.1, c1.2.2⟩, fun x hx => ?_, c3⟩
    rcases List.mem_append.1 hx with hx | hx
    · exact hne x (c2 x hx)
    · obtain rfl := List.mem_singleton.1 hx
      rw [huu]; omega
/-- all that lead there were looked at -/
theorem K3.next {k : Nat} {P : List Nat} (h : K3 N E left i f part0 ls0 pt ls td (some (k, P))) (hP : ∀ u, u < N → k ∈ E u → u ∈ P) : K3 N E left i f part0 ls0 pt ls td none := by
  obtain ⟨c1, c2, c3⟩ := h.cu k P rfl
  refine ⟨h.base, h.hf, h.free, h.cs, h.self, h.tw, fun v hv h1 h2 => ?_, fun k' P' e => (by cases e), h.lf, h.lo⟩
  rcases h.dn v hv h1 h2 with h3 | ⟨P', h3⟩ | h3
  · exact .inl h3
  · cases h3
    exact .inr (.inr ⟨fun u hu hv2 => c2 u (hP u hu hv2), c3⟩)
  · exact .inr (.inr h3)
/-- the part is whole -/
theorem K3.done (L : Left N E left) (hE : ∀ k, ∀ u ∈ E k, u < N) (h : K3 N E left i f part0 ls0 pt ls [] none) : K2 N E left i pt ls := by
  have hfN : f < N := (L.mem f).1 (List.mem_of_getElem? h.hf)
  have dn : ∀ v, v < N → pt v = f → part0 v = -1 → (∀ u, u < N → v ∈ E u → pt u ≠ -1) ∧ ls f ≤ v := fun v hv h1 h2 => by
    rcases h.dn v hv h1 h2 with h3 | ⟨P, h3⟩ | h3
    · cases h3
    · cases h3
    · exact h3
  have inS : ∀ v, v < N → pt v = f → part0 v = -1 → Sc E v f := fun v hv h1 h2 => by
    rcases h.cs v hv with h3 | h3
    · rw [h1, h2] at h3; omega
    · exact (L.same hE h.hf (fun v hv => hv.1) (fun j v hj hv => by
        refine Classical.byContradiction fun hc => ?_
        exact h.base.o3 j v (by omega) hj hv.2) h3.2.2).symm
  have free : ∀ v, v < N → Sc E v f → part0 v = -1 := fun v hv hs => by rw [h.base.o2 v f hv hfN hs]; exact h.free
  have back : ∀ a b, Rch E a b → a < N → Rch E f a → (b < N ∧ pt b = f ∧ Sc E b f) → pt a = f := fun a b hab => by
    induction hab with
    | refl => intro _ _ h3; exact h3.2.1
    | step hab' hc ih =>
      rename_i b' c
      intro ha hfa ⟨hc1, hc2, hc3⟩
      have hb'N : b' < N := Rch.lt hE ha hab'
      have hs : Sc E b' f := ⟨(Rch.one hc).trans hc3.1, hfa.trans hab'⟩
      have h5 := (dn c hc1 hc2 (free c hc1 hc3)).1 b' hb'N hc
      have h6 : pt b' = f := by
        rcases h.cs b' hb'N with h7 | h7
        · rw [free b' hb'N hs] at h7; exact absurd h7 h5
        · exact h7.1
      exact ih ha hfa ⟨hb'N, h6, hs⟩
  have all : ∀ v, v < N → Sc E v f → pt v = f := fun v hv hs => back v f hs.1 hv hs.2 ⟨hfN, h.self, .refl _, .refl _⟩
  have els : ∀ v, v < N → ¬ Sc E v f → pt v = part0 v := fun v hv hs => by
    rcases h.cs v hv with h3 | h3
    · exact h3
    · exact absurd (inS v hv h3.1 h3.2.1) hs
  refine ⟨fun v hv hp => ?_, fun v w hv hw hs => ?_, fun j v hj hv => ?_⟩
  · by_cases hs : Sc E v f
    · refine ⟨f, all v hv hs, hfN, hs, h.lf, fun w hw => ?_⟩
      have hwN : w < N := Rch.lt hE hfN hw.1
      exact (dn w hwN (all w hwN hw.symm) (free w hwN hw.symm)).2
    · rw [els v hv hs] at hp ⊢
      obtain ⟨f', e1, e2, e3, e4⟩ := h.base.o1 v hv hp
      have hne : f' ≠ f := fun e => by subst e; exact hs e3
      exact ⟨f', e1, e2, e3, by rw [h.lo f' hne]; exact e4⟩
  · by_cases hvf : Sc E v f
    · rw [all v hv hvf, all w hw (hs.symm.trans hvf)]
    · rw [els v hv hvf, els w hw (fun hwf => hvf (hs.trans hwf))]
      exact h.base.o2 v w hv hw hs
  · by_cases e : j = i
    · subst e
      rw [h.hf] at hv
      obtain rfl := Option.some.inj hv
      rw [h.self]; omega
    · have h1 := h.base.o3 j v (by omega) hv
      have hvN : v < N := (L.mem v).1 (List.mem_of_getElem? hv)
      rcases h.cs v hvN with h2 | h2
      · rw [h2]; exact h1
      · exact absurd h2.2.1 h1
/-- the parts -/
theorem K2.parts (L : Left N E left) (h : K2 N E left 0 pt ls) : (∀ v, v < N → ∃ f : Nat, pt v = f ∧ f < N) ∧ IsPart N E (fun v => ls (pt v).toNat) := by
  have key : ∀ v, v < N → ∃ f : Nat, pt v = f ∧ f < N ∧ Sc E v f ∧ IsMin E f (ls f) := fun v hv => by
    obtain ⟨j, hj⟩ := List.getElem?_of_mem ((L.mem v).2 hv)
    exact h.o1 v hv (h.o3 j v (Nat.zero_le _) hj)
  refine ⟨fun v hv => ?_, fun v hv => ?_⟩
  · obtain ⟨f, e1, e2, -⟩ := key v hv
    exact ⟨f, e1, e2⟩
  · obtain ⟨f, e1, e2, e3, e4, e5⟩ := key v hv
    have e6 : (pt v).toNat = f := by rw [e1]; rfl
    show Rch E v (ls (pt v).toNat) ∧ Rch E (ls (pt v).toNat) v ∧ ∀ u, Rch E v u → Rch E u v → ls (pt v).toNat ≤ u
    rw [e6]
    have e7 := e3.trans e4
    exact ⟨e7.1, e7.2, fun u h1 h2 => e5 u (e3.symm.trans ⟨h1, h2⟩)⟩
end

end Go.Proofs.Ytkflhmpecfckfaa.Tj
