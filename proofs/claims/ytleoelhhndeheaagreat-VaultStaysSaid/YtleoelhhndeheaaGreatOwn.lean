/- rows of one's own: more of them -/
import Derived.Test.YtleoelhhndeheaaGreatAppRow
open Go Go.RowKit
namespace Go.Proofs.YtleoelhhndeheaaGreat

theorem Ext.owns2 {F : Nat → Prop} {w w' : World} {base : Nat} {E : TypeId} {sz : Nat} {v : Value} {n : Nat} {vs : List Value} (hb : Ext F w w') (hF : ∀ g, v.ownBlock = some g → ¬ F g) (h : w.ownsRow base E sz v n vs) : w'.ownsRow base E sz v n vs := by
  obtain ⟨h1, h2⟩ := h
  refine ⟨h1, ?_⟩
  rcases h2 with h2 | ⟨g, cap, cur, hv, hg, hh, r⟩
  · exact .inl h2
  · subst hv
    exact .inr ⟨g, cap, cur, rfl, hg, hb.blk (hF g rfl) hh, r⟩
/-- rows of other elements lie in other blocks -/
theorem owns_ne2 {w : World} {b1 b2 : Nat} {E1 E2 : TypeId} {s1 s2 : Nat} {v1 v2 : Value} {n1 n2 : Nat} {x1 x2 : List Value} (h : w.ownsRow b1 E1 s1 v1 n1 x1) (k : w.ownsRow b2 E2 s2 v2 n2 x2) (hE : E2 ≠ E1) (g : Nat) (hg : v2.ownBlock = some g) : v1.ownBlock ≠ some g := by
  rcases k.2 with ⟨hv, _⟩ | ⟨g', cap, cur, hv, _, hh, _⟩
  · subst hv; cases hg
  · subst hv
    have e : g' = g := by simpa [Value.ownBlock] using hg
    subst e
    exact owns_ne h hh hE
theorem owns_slice {w : World} {base : Nat} {E : TypeId} {sz : Nat} {v : Value} {n : Nat} {vs : List Value} (h : w.ownsRow base E sz v n vs) : ∃ a cap, v = .slice a n cap := by
  rcases h.2 with ⟨hv, h0⟩ | ⟨g, cap, cur, hv, _⟩
  · subst h0; exact ⟨none, 0, hv⟩
  · exact ⟨_, _, hv⟩
theorem owns_some {w : World} {base : Nat} {E : TypeId} {sz : Nat} {v : Value} {n : Nat} {vs : List Value} (h : w.ownsRow base E sz v n vs) (hn : 0 < n) : ∃ g cap, v = .slice (some ⟨g, 0, none⟩) n cap ∧ n ≤ cap := by
  rcases h.2 with ⟨hv, h0⟩ | ⟨g, cap, cur, hv, _, _, h1, _⟩
  · omega
  · exact ⟨_, _, hv, h1⟩
theorem row_at (w : World) (c : Array Value) (t : TypeId) {b : Nat} (h : b = w.heap.size) : Row (w.alloc (.cells c t)) (some ⟨b, 0, none⟩) c.toList := by subst h; exact row_new w c t
theorem owns_mono2 {w : World} {B B' : Nat} {E : TypeId} {sz : Nat} {v : Value} {n : Nat} {vs : List Value} (h : w.ownsRow B E sz v n vs) (hB : B' ≤ B) : w.ownsRow B' E sz v n vs := by
  obtain ⟨h1, h2⟩ := h
  refine ⟨h1, ?_⟩
  rcases h2 with h2 | ⟨g, cap, cur, hv, hg, r⟩
  · exact .inl h2
  · exact .inr ⟨g, cap, cur, hv, by omega, r⟩
/-- the block of a row of one's own, whole -/
theorem owns_blk {w : World} {B : Nat} {E : TypeId} {sz : Nat} {g n c : Nat} {vs : List Value} (h : w.ownsRow B E sz (.slice (some ⟨g, 0, none⟩) n c) n vs) : ∃ cur, w.heap[g]? = some (.cells cur E (0, 0)) := by
  rcases h.2 with ⟨hv, _⟩ | ⟨g', cap, cur, hv, _, hh, _⟩
  · cases hv
  · cases hv; exact ⟨cur, hh⟩

def upd {β : Type} (f : Nat → β) (i : Nat) (x : β) : Nat → β := fun j => if j = i then x else f j
theorem upd_same {β : Type} (f : Nat → β) (i : Nat) (x : β) : upd f i x i = x := by simp [upd]
theorem upd_ne {β : Type} (f : Nat → β) {i j : Nat} (x : β) (h : j ≠ i) : upd f i x j = f j := by simp [upd, h]

/-- a drum's blocks: those that it may write; those that are others' (no track lies there) -/
structure Dom where
  M : Nat → Prop
  X : Nat → Prop
instance : CoeFun Dom (fun _ => Nat → Prop) := ⟨Dom.M⟩
instance : Coe Dom (Nat → Prop) := ⟨Dom.M⟩
abbrev Dom.add (D : Dom) (g : Nat) : Dom := ⟨fun q => D.M q ∨ q = g, D.X⟩
abbrev Dom.addX (D : Dom) (F : Nat → Prop) : Dom := ⟨D.M, fun q => D.X q ∨ F q⟩

/-- from one world to another one: what may be written lies in M, and then in M' -/
structure Step (M : Dom) (w : World) (M' : Dom) (w' : World) : Prop where
  ext : Ext M.M w w'
  new : ∀ q, M' q → M q ∨ w.heap.size ≤ q
  same : M'.X = M.X
theorem Step.refl (M : Dom) (w : World) : Step M w M w := ⟨Ext.refl _ _, fun _ h => .inl h, rfl⟩
theorem Step.trans {M M' M'' : Dom} {w w' w'' : World} (h : Step M w M' w') (k : Step M' w' M'' w'') : Step M w M'' w'' :=
  ⟨h.ext.trans k.ext (fun i hi h1 => (h.new i h1).elim id (fun h2 => by omega)), fun q hq => (k.new q hq).elim (fun h1 => h.new q h1) (fun h1 => .inr (Nat.le_trans h.ext.size h1)), k.same.trans h.same⟩
theorem Step.of_ext {M : Dom} {F : Nat → Prop} {w w' : World} (h : Ext F w w') (hF : ∀ q, F q → M q) : Step M w M w' := ⟨h.mono fun _ _ h => hF _ h, fun _ h => .inl h, rfl⟩
theorem Step.of_below {M : Dom} {w w' : World} (h : Below w.heap.size w w') : Step M w M w' := ⟨Ext.of_below h _, fun _ h => .inl h, rfl⟩
theorem Step.below {M M' : Dom} {w0 w w' : World} {B : Nat} (h : Below B w0 w) (k : Step M w M' w') (hM : ∀ q, M q → B ≤ q) (hB : B ≤ w.heap.size) : Below B w0 w' ∧ ∀ q, M' q → B ≤ q :=
  ⟨Below.ext h k.ext hM hB, fun q hq => (k.new q hq).elim (hM q) (fun h => by omega)⟩
theorem Step.drew {M : Dom} {w : World} : Step M w M w.drew := ⟨(Ext.refl _ _).drew, fun _ h => .inl h, rfl⟩

end Go.Proofs.YtleoelhhndeheaaGreat
