/- SccTurned: the edges the other way, and the walk -/
import Derived.Test.YtkflhmpecfckfaaPartP
open Go Go.RowKit
namespace Go.Proofs.Ytkflhmpecfckfaa
open Tj

def Rev (E E' : Nat → List Nat) : Prop := ∀ u v, v ∈ E' u ↔ u ∈ E v
theorem Rev.symm {E E' : Nat → List Nat} (h : Rev E E') : Rev E' E := fun u v => (h v u).symm
theorem Rch.rev {E E' : Nat → List Nat} (h : Rev E E') {a b : Nat} (hr : Rch E a b) : Rch E' b a := by
  induction hr with
  | refl => exact .refl _
  | step _ hc ih => exact (Rch.one ((h _ _).2 hc)).trans ih
theorem Lds.last {E : Nat → List Nat} {a c : Nat} (h : Lds E a c) : ∃ b, Rch E a b ∧ c ∈ E b := by
  obtain ⟨b, hb, hr⟩ := h
  cases hr with
  | refl => exact ⟨a, .refl _, hb⟩
  | step hr' hc => exact ⟨_, (Rch.one hb).trans hr', hc⟩
theorem Lds.rev {E E' : Nat → List Nat} (h : Rev E E') {i : Nat} (hl : Lds E i i) : Lds E' i i := by
  obtain ⟨b, hr, hb⟩ := Lds.last hl
  exact ⟨b, (h _ _).2 hb, Rch.rev h hr⟩
theorem IsPart.rev {n : Nat} {E E' : Nat → List Nat} {p : Nat → Nat} (h : Rev E E') (hp : IsPart n E p) : IsPart n E' p := by
  intro v hv
  obtain ⟨h1, h2, h3⟩ := hp v hv
  exact ⟨Rch.rev h h2, Rch.rev h h1, fun u hu hu' => h3 u (Rch.rev h.symm hu') (Rch.rev h.symm hu)⟩

/-- rows of one's own under headers of one's own -/
structure RV (w : World) (B : Nat) (vo : Value) (n : Nat) (hs : List Value) (RR : Nat → List Int) : Prop where
  outer : w.ownsRow B 29 1 vo n hs
  row : ∀ v, v < n → ∃ x, hs[v]? = some x ∧ w.ownsRow B 3 1 x (RR v).length (I8 (RR v))
  apart : ∀ u v x y b, u < n → v < n → u ≠ v → hs[u]? = some x → hs[v]? = some y → x.ownBlock = some b → y.ownBlock ≠ some b

theorem RV.below {w w' : World} {B : Nat} {vo : Value} {n : Nat} {hs : List Value} {RR : Nat → List Int} (h : RV w B vo n hs RR) (hb : Below w.heap.size w w') : RV w' B vo n hs RR :=
  ⟨Below.owns hb (Nat.le_refl _) h.outer, fun v hv => by obtain ⟨x, h1, h2⟩ := h.row v hv; exact ⟨x, h1, Below.owns hb (Nat.le_refl _) h2⟩, h.apart⟩
theorem RV.edges {w : World} {B n cap : Nat} {ao : Option Addr} {hs : List Value} {RR : Nat → List Int} (h : RV w B (.slice ao n cap) n hs RR) (hm : ∀ v, v < n → (RR v).length ≤ 1000000) : EdgesAt w ao n RR := by
  have hnn : 0 < n → ∃ g, ao = some ⟨g, 0, none⟩ := fun h0 => by
    obtain ⟨g, c, hv, _⟩ := owns_some h.outer h0
    cases hv
    exact ⟨g, rfl⟩
  refine ⟨fun h0 => by obtain ⟨g, rfl⟩ := hnn h0; rfl, fun v hv => ?_⟩
  obtain ⟨g, rfl⟩ := hnn (by omega)
  obtain ⟨x, h1, h2⟩ := h.row v hv
  obtain ⟨a, c, rfl, h3, h4, h5, h6, _, h7⟩ := row_of_owns h2
  refine ⟨a, _, c, ?_, ⟨h6, rfl, owns_cap h2, h4, h5⟩, hm v hv⟩
  show w.cell? ⟨g, 0 + v, none⟩ = _
  rw [Nat.zero_add, h.outer.cellAt v (by omega)]; exact h1

/-- one number more in row k -/
theorem RV.push {w w1 w2 : World} {B g cap n k gg cc : Nat} {hs : List Value} {RR : Nat → List Int} {x : Value} {z : Int} (h : RV w B (.slice (some ⟨g, 0, none⟩) n cap) n hs RR) (hk : k < n) (hx : hs[k]? = some x)
    (ho : w1.ownsRow B 3 1 (.slice (some ⟨gg, 0, none⟩) ((RR k).length + 1) cc) ((RR k).length + 1) (I8 (RR k) ++ [.int .i64 z])) (hg : Ext (fun q => x.ownBlock = some q) w w1)
    (hat : x.ownBlock = some gg ∨ w.heap.size ≤ gg)
    (hw2 : w1.setCell ⟨g, k, none⟩ (.slice (some ⟨gg, 0, none⟩) ((RR k).length + 1) cc) = w2) :
    RV w2 B (.slice (some ⟨g, 0, none⟩) n cap) n (hs.set k (.slice (some ⟨gg, 0, none⟩) ((RR k).length + 1) cc)) (upd RR k (RR k ++ [z])) := by
  obtain ⟨x', hx', hox⟩ := h.row k hk
  rw [hx] at hx'
  cases hx'
  have hlen : hs.length = n := by have := h.outer.1; omega
  have hne : ∀ q, (Value.slice (some ⟨g, 0, none⟩) n cap).ownBlock = some q → ¬ x.ownBlock = some q := fun q hq e => owns_ne2 hox h.outer (by decide) q hq e
  have ho1 := hg.owns2 hne h.outer
  have hst := ho1.stored k (.slice (some ⟨gg, 0, none⟩) ((RR k).length + 1) cc)
  rw [hw2] at hst
  refine ⟨hst.1, fun v hv => ?_, fun u v y1 y2 b hu hv huv h1 h2 h3 => ?_⟩
  · by_cases e : v = k
    · subst e
      refine ⟨_, List.getElem?_set_self (by omega), ?_⟩
      rw [upd_same]
      have : I8 (RR v ++ [z]) = I8 (RR v) ++ [.int .i64 z] := by simp [I8]
      rw [this, List.length_append, List.length_singleton]
      have hne2 : (some g : Option Nat) ≠ (Value.slice (some ⟨gg, 0, none⟩) ((RR v).length + 1) cc).ownBlock := fun e => owns_ne2 ho ho1 (by decide) g rfl e.symm
      exact (Ext.of_grown hst.2).owns2 (fun q hq e => hne2 (e.trans hq.symm)) ho
    · rw [List.getElem?_set_ne (fun h => e h.symm), upd_ne _ _ e]
      obtain ⟨y, hy1, hy2⟩ := h.row v hv
      refine ⟨y, hy1, ?_⟩
      have hap := fun b => h.apart v k y x b hv hk e hy1 hx
      have hy3 := hg.owns2 (fun q hq hq2 => hap q hq hq2) hy2
      exact (Ext.of_grown hst.2).owns2 (fun q hq e => owns_ne2 hy3 ho1 (by decide) g rfl (hq.trans e.symm)) hy3
  · by_cases eu : u = k
    · subst eu
      rw [List.getElem?_set_self (by omega)] at h1
      rw [List.getElem?_set_ne huv] at h2
      cases h1
      have h3 : some gg = some b := h3
      cases h3
      obtain ⟨y', hy1, hy2⟩ := h.row v hv
      rw [h2] at hy1
      cases hy1
      rcases hat with h4 | h4
      · exact h.apart u v x y2 gg hu hv huv hx h2 h4
      · intro e
        have := (hy2.lt _ e).2
        omega
    · rw [List.getElem?_set_ne (fun h => eu h.symm)] at h1
      by_cases ev : v = k
      · subst ev
        rw [List.getElem?_set_self (by omega)] at h2
        cases h2
        intro e
        have e : some gg = some b := e
        cases e
        obtain ⟨y', hy1, hy2⟩ := h.row u hu
        rw [h1] at hy1
        cases hy1
        rcases hat with h4 | h4
        · exact h.apart u v y1 x gg hu hv huv h1 hx h3 h4
        · have := (hy2.lt _ h3).2
          omega
      · rw [List.getElem?_set_ne (fun h => ev h.symm)] at h2
        exact h.apart u v y1 y2 b hu hv huv h1 h2 h3

/-- what is turned, i nodes gone and of the next one some edges -/
structure Turn (n : Nat) (L : Nat → List Int) (RR : Nat → List Int) (i : Nat) (l : List Int) : Prop where
  mem : ∀ v, v < n → ∀ z, z ∈ RR v ↔ ∃ u : Nat, z = (u : Int) ∧ ((u < i ∧ v ∈ edgeE n L u) ∨ (u = i ∧ ∃ y ∈ l, nodeB n y = true ∧ y.toNat = v))
  len : ∀ v, v < n → (RR v).length ≤ 4 * i + l.length
theorem Turn.start (n : Nat) (L : Nat → List Int) : Turn n L (fun _ => []) 0 [] := ⟨fun v hv z => by simp, fun v hv => by simp⟩
theorem Turn.next {n : Nat} {L RR : Nat → List Int} {i : Nat} (h : Turn n L RR i (L i)) (hi : i < n) (h4 : (L i).length ≤ 4) : Turn n L RR (i + 1) [] := by
  refine ⟨fun v hv z => ?_, fun v hv => ?_⟩
  · rw [h.mem v hv z]
    constructor
    · rintro ⟨u, e, h1 | h1⟩
      · exact ⟨u, e, .inl ⟨by omega, h1.2⟩⟩
      · obtain ⟨rfl, y, hy⟩ := h1
        exact ⟨u, e, .inl ⟨by omega, (mem_edgeE hi).2 ⟨y, hy⟩⟩⟩
    · rintro ⟨u, e, h1 | h1⟩
      · by_cases hu : u = i
        · subst hu
          exact ⟨u, e, .inr ⟨rfl, (mem_edgeE hi).1 h1.2⟩⟩
        · exact ⟨u, e, .inl ⟨by omega, h1.2⟩⟩
      · obtain ⟨_, y, hy, _⟩ := h1
        simp at hy
  · have := h.len v hv
    simp; omega
theorem Turn.skip {n : Nat} {L RR : Nat → List Int} {i : Nat} {l : List Int} (h : Turn n L RR i l) {y : Int} (hy : nodeB n y = false) : Turn n L RR i (l ++ [y]) := by
  refine ⟨fun v hv z => ?_, fun v hv => ?_⟩
  · rw [h.mem v hv z]
    constructor
    · rintro ⟨u, e, h1 | ⟨h1, x, hx, h2⟩⟩
      · exact ⟨u, e, .inl h1⟩
      · exact ⟨u, e, .inr ⟨h1, x, List.mem_append_left _ hx, h2⟩⟩
    · rintro ⟨u, e, h1 | ⟨h1, x, hx, h2⟩⟩
      · exact ⟨u, e, .inl h1⟩
      · rcases List.mem_append.1 hx with hx | hx
        · exact ⟨u, e, .inr ⟨h1, x, hx, h2⟩⟩
        · simp at hx; subst hx; rw [hy] at h2; cases h2.1
  · have := h.len v hv
    simp; omega
theorem Turn.push {n : Nat} {L RR : Nat → List Int} {i k : Nat} {l : List Int} (h : Turn n L RR i l) (hk : k < n) : Turn n L (upd RR k (RR k ++ [(i : Int)])) i (l ++ [(k : Int)]) := by
  have hnb : nodeB n (k : Int) = true := by simp [nodeB]; omega
  refine ⟨fun v hv z => ?_, fun v hv => ?_⟩
  · by_cases e : v = k
    · subst e
      rw [upd_same, List.mem_append, h.mem v hv z]
      constructor
      · rintro (⟨u, e, h1 | ⟨h1, x, hx, h2⟩⟩ | h1)
        · exact ⟨u, e, .inl h1⟩
        · exact ⟨u, e, .inr ⟨h1, x, List.mem_append_left _ hx, h2⟩⟩
        · exact ⟨i, by simpa using h1, .inr ⟨rfl, (v : Int), by simp, hnb, by simp⟩⟩
      · rintro ⟨u, e, h1 | ⟨h1, x, hx, h2⟩⟩
        · exact .inl ⟨u, e, .inl h1⟩
        · right; subst h1; simpa using e
    · rw [upd_ne _ _ e, h.mem v hv z]
      constructor
      · rintro ⟨u, e, h1 | ⟨h1, x, hx, h2⟩⟩
        · exact ⟨u, e, .inl h1⟩
        · exact ⟨u, e, .inr ⟨h1, x, List.mem_append_left _ hx, h2⟩⟩
      · rintro ⟨u, e', h1 | ⟨h1, x, hx, h2⟩⟩
        · exact ⟨u, e', .inl h1⟩
        · rcases List.mem_append.1 hx with hx | hx
          · exact ⟨u, e', .inr ⟨h1, x, hx, h2⟩⟩
          · exfalso
            have hxk : x = (k : Int) := by simpa using hx
            subst hxk
            have := h2.2
            simp at this
            exact e this.symm
  · have := h.len v hv
    have h2 := h.len k hk
    by_cases e : v = k
    · subst e; rw [upd_same]; simp; omega
    · rw [upd_ne _ _ e]; simp; omega
theorem Turn.rev {n : Nat} {L RR : Nat → List Int} (h : Turn n L RR n []) : Rev (edgeE n L) (edgeE n RR) := by
  intro u v
  by_cases hu : u < n
  · rw [mem_edgeE hu]
    constructor
    · rintro ⟨z, hz, hn, e⟩
      obtain ⟨y, e2, h1 | h1⟩ := (h.mem u hu z).1 hz
      · subst e2
        simp at e
        subst e
        exact h1.2
      · obtain ⟨_, y, hy, _⟩ := h1; simp at hy
    · intro hv
      have hvn : v < n := by
        apply Classical.byContradiction
        intro hc
        unfold edgeE at hv
        rw [if_neg hc] at hv
        simp at hv
      exact ⟨(v : Int), (h.mem u hu _).2 ⟨v, rfl, .inl ⟨hvn, hv⟩⟩, by simp [nodeB]; omega, by simp⟩
  · constructor
    · intro hv
      unfold edgeE at hv
      rw [if_neg hu] at hv
      simp at hv
    · intro hv
      have := edgeE_lt n L _ _ hv
      omega

theorem RV.start {w : World} {B n : Nat} {vo : Value} (h : w.ownsRow B 29 1 vo n (List.replicate n (.slice none 0 0))) : RV w B vo n (List.replicate n (.slice none 0 0)) (fun _ => []) := by
  refine ⟨h, fun v hv => ⟨_, by rw [List.getElem?_replicate, if_pos hv], World.ownsRow_nil _ _ _ _⟩, fun u v x y b hu hv huv h1 h2 h3 => ?_⟩
  rw [List.getElem?_replicate, if_pos hu] at h1
  cases h1
  cases h3

end Go.Proofs.Ytkflhmpecfckfaa
