/- slices of one-cell elements that read as a list of values; rows that the call owns -/
import Derived.Test.YtkflhmpecfckfaaArgs
import Derived.OwnWalk
import Derived.Laws.AppendOwnNone
import Derived.Lib.LazyBuf
import Derived.Deep.AppendLies
open Go Go.RowKit
namespace Go.Proofs.Ytkflhmpecfckfaa

/-- a slice at address a reads as the values vs -/
structure Row (w : World) (a : Option Addr) (vs : List Value) : Prop where
  nn : 0 < vs.length → a = some ⟨sB a, sO a, none⟩
  cell : ∀ i v, vs[i]? = some v → w.cell? ⟨sB a, sO a + i, none⟩ = some v

theorem Row.lt {w : World} {a : Option Addr} {vs : List Value} (h : Row w a vs) (hl : 0 < vs.length) : sB a < w.heap.size := by
  have := h.cell 0 vs[0] (by simp [hl])
  exact lt_of_cell this
theorem Row.keep {w w' : World} {a : Option Addr} {vs : List Value} (h : Row w a vs) (hk : 0 < vs.length → w'.heap[sB a]? = w.heap[sB a]?) : Row w' a vs := by
  refine ⟨h.nn, fun i v hv => ?_⟩
  have hl : 0 < vs.length := by
    have := (List.getElem?_eq_some_iff.1 hv).1; omega
  rw [World.cell?_of_block (w := w) (a := ⟨sB a, sO a + i, none⟩) (hk hl)]
  exact h.cell i v hv
theorem Row.below {w w' : World} {a : Option Addr} {vs : List Value} (h : Row w a vs) {B : Nat} (hb : Below B w w') (hB : w.heap.size ≤ B) : Row w' a vs :=
  h.keep fun hl => hb.block _ (Nat.lt_of_lt_of_le (h.lt hl) hB)
theorem Row.ext {w w' : World} {a : Option Addr} {vs : List Value} (h : Row w a vs) {F : Nat → Prop} (hx : Ext F w w') (hF : 0 < vs.length → ¬ F (sB a)) : Row w' a vs :=
  h.keep fun hl => hx.block _ (h.lt hl) (hF hl)
theorem Row.alloc {w : World} {a : Option Addr} {vs : List Value} (h : Row w a vs) (o : Obj) : Row (w.alloc o) a vs :=
  h.keep fun hl => Below.heap_alloc _ _ _ (h.lt hl)
theorem Row.nil (w : World) (a : Option Addr) : Row w a [] := ⟨fun h => by simp at h, fun i v h => by simp at h⟩
theorem Row.news {w : World} {a : Addr} {vs : List Value} (h : Row w (some a) vs) : ∀ j u, vs[j]? = some u → w.cell? (a.add j) = some u := by
  intro j u hj
  have hl : 0 < vs.length := by have := (List.getElem?_eq_some_iff.1 hj).1; omega
  have := h.nn hl
  rw [Option.some.injEq] at this
  rw [this, add_eq]
  exact h.cell j u hj
/-- a part of it -/
theorem Row.drop {w : World} {b o : Nat} {vs : List Value} (h : Row w (some ⟨b, o, none⟩) vs) (k : Nat) : Row w (some ⟨b, o + k, none⟩) (vs.drop k) := by
  refine ⟨fun _ => rfl, fun i v hv => ?_⟩
  rw [List.getElem?_drop] at hv
  have := h.cell (k + i) v hv
  show w.cell? ⟨b, o + k + i, none⟩ = some v
  rw [Nat.add_assoc]; exact this
theorem Row.take {w : World} {a : Option Addr} {vs : List Value} (h : Row w a vs) (k : Nat) : Row w a (vs.take k) := by
  refine ⟨fun hl => h.nn (by simp at hl; omega), fun i v hv => ?_⟩
  rw [List.getElem?_take] at hv
  split at hv
  · exact h.cell i v hv
  · cases hv

theorem row_new (w : World) (c : Array Value) (t : TypeId) : Row (w.alloc (.cells c t)) (some ⟨w.heap.size, 0, none⟩) c.toList := by
  refine ⟨fun _ => rfl, fun i v hv => ?_⟩
  show (w.alloc (.cells c t)).cell? ⟨w.heap.size, 0 + i, none⟩ = some v
  rw [Nat.zero_add, World.cell?_alloc_new, ← Array.getElem?_toList]
  exact hv
theorem owns_mono {w : World} {B B' : Nat} {E : TypeId} {v : Value} {n : Nat} {vs : List Value} (h : w.ownsRow B E 1 v n vs) (hB : B' ≤ B) : w.ownsRow B' E 1 v n vs := by
  obtain ⟨h1, h2⟩ := h
  refine ⟨h1, ?_⟩
  rcases h2 with h2 | ⟨g, cap, cur, hv, hg, r⟩
  · exact .inl h2
  · exact .inr ⟨g, cap, cur, hv, by omega, r⟩
/-- what a call owns is a row, in a block of its own -/
theorem row_of_owns {w : World} {base : Nat} {E : TypeId} {v : Value} {n : Nat} {vs : List Value} (h : w.ownsRow base E 1 v n vs) :
    ∃ a cap, v = .slice a n cap ∧ vs.length = n ∧ n ≤ cap ∧ cap ≤ maxLen ∧ Row w a vs ∧ (0 < n → base ≤ sB a ∧ sB a < w.heap.size) ∧ (a = none → n = 0) := by
  obtain ⟨h1, h2⟩ := h
  rw [Nat.mul_one] at h1
  rcases h2 with ⟨rfl, rfl⟩ | ⟨g, cap, cur, rfl, hg, hh, hn, hcap, hsz, htake⟩
  · have : vs = [] := List.eq_nil_of_length_eq_zero h1
    subst this
    exact ⟨none, 0, rfl, rfl, Nat.le_refl _, by simp [maxLen], Row.nil _ _, fun h => by omega, fun _ => rfl⟩
  · refine ⟨some ⟨g, 0, none⟩, cap, rfl, h1, hn, hcap, ⟨fun _ => rfl, fun i u hu => ?_⟩, fun _ => ⟨hg, lt_of_blk hh⟩, fun h => by cases h⟩
    have hi : i < vs.length := (List.getElem?_eq_some_iff.1 hu).1
    rw [← htake, Nat.mul_one, List.getElem?_take, if_pos (by omega), Array.getElem?_toList] at hu
    show w.cell? ⟨g, 0 + i, none⟩ = some u
    rw [Nat.zero_add]
    exact blk_cell hh hu

theorem Below.owns {B : Nat} {w w' : World} {base : Nat} {E : TypeId} {v : Value} {n : Nat} {vs : List Value} (hb : Below B w w') (hB : w.heap.size ≤ B) (h : w.ownsRow base E 1 v n vs) : w'.ownsRow base E 1 v n vs := by
  obtain ⟨h1, h2⟩ := h
  refine ⟨h1, ?_⟩
  rcases h2 with h2 | ⟨g, cap, cur, hv, hg, hh, r⟩
  · exact .inl h2
  · exact .inr ⟨g, cap, cur, hv, hg, (hb.block g (Nat.lt_of_lt_of_le (lt_of_blk hh) hB)).trans hh, r⟩
theorem Ext.owns {F : Nat → Prop} {w w' : World} {base : Nat} {E : TypeId} {v : Value} {n : Nat} {vs : List Value} (hb : Ext F w w') (hF : ∀ g, v.ownBlock = some g → ¬ F g) (h : w.ownsRow base E 1 v n vs) : w'.ownsRow base E 1 v n vs := by
  obtain ⟨h1, h2⟩ := h
  refine ⟨h1, ?_⟩
  rcases h2 with h2 | ⟨g, cap, cur, hv, hg, hh, r⟩
  · exact .inl h2
  · subst hv
    exact .inr ⟨g, cap, cur, rfl, hg, hb.blk (hF g rfl) hh, r⟩

/-- bytes -/
abbrev B8 (zs : List Int) : List Value := zs.map (Value.int .u8)
theorem B8_length (zs : List Int) : (B8 zs).length = zs.length := by simp
theorem B8_one (zs : List Int) : ∀ u ∈ B8 zs, u.oneCell' = true := by
  intro u hu
  obtain ⟨z, _, rfl⟩ := List.mem_map.1 hu
  rfl
theorem Row.byte {w : World} {a : Option Addr} {zs : List Int} (h : Row w a (B8 zs)) {i : Nat} (hi : i < zs.length) : w.cell? ⟨sB a, sO a + i, none⟩ = some (.int .u8 (zs[i]?.getD 0)) := by
  refine h.cell i _ ?_
  simp [B8, List.getElem?_map, List.getElem?_eq_getElem hi]

def IsBytes (zs : List Int) : Prop := ∀ n ∈ zs, 0 ≤ n ∧ n ≤ 255
theorem IsBytes.get {zs : List Int} (h : IsBytes zs) (i : Nat) : 0 ≤ zs[i]?.getD 0 ∧ zs[i]?.getD 0 ≤ 255 := by
  cases hi : zs[i]? with
  | none => simp
  | some x => exact h x (List.mem_of_getElem? hi)
theorem IsBytes.append {a b : List Int} (h : IsBytes a) (k : IsBytes b) : IsBytes (a ++ b) := by
  intro n hn; rcases List.mem_append.1 hn with hn | hn
  · exact h n hn
  · exact k n hn
theorem IsBytes.take {a : List Int} (h : IsBytes a) (k : Nat) : IsBytes (a.take k) := fun n hn => h n (List.mem_of_mem_take hn)
theorem IsBytes.drop {a : List Int} (h : IsBytes a) (k : Nat) : IsBytes (a.drop k) := fun n hn => h n (List.mem_of_mem_drop hn)

/-- a []byte that came in -/
structure ByteArg (w : World) (a : Option Addr) (len cap : Nat) (zs : List Int) : Prop where
  hrow : Row w a (B8 zs)
  hlen : zs.length = len
  hbytes : IsBytes zs
  hnil : a = none → len = 0 ∧ cap = 0
  hcap : len ≤ cap
  hcapm : cap ≤ 9223372036854775807
  hreach : len ≤ 140737488355328

theorem bd_u8 {n : Int} (h : (Lit.int .u8 n).wf = true) : 0 ≤ n ∧ n ≤ 255 := by
  simp [Lit.wf, IntKind.min, IntKind.max, IntKind.signed, IntKind.bits] at h
  omega

theorem IsRow.byteArg {w : World} {a : Option Addr} {len cap : Nat} {zs : List Int} (h : IsRow .u8 w a len cap zs) (hb : cap ≤ 140737488355328) : ByteArg w a len cap (zs.take len) := by
  rcases h with ⟨rfl, rfl, rfl, rfl⟩ | ⟨x, rfl, h1, h2, h3, h4, h5⟩
  · exact ⟨Row.nil _ _, rfl, fun n hn => by simp at hn, fun _ => ⟨rfl, rfl⟩, Nat.le_refl _, by omega, by omega⟩
  · unfold maxLen at h2
    refine ⟨⟨fun hl => ?_, fun i v hv => ?_⟩, by simp; omega, fun n hn => bd_u8 (h5 n (List.mem_of_mem_take hn)), fun hn => (by cases hn), h1, by omega, by omega⟩
    · have : 0 < zs.length := by simp at hl; omega
      exact some_of_cell (h4 0 this)
    · rw [B8, List.getElem?_map, List.getElem?_take] at hv
      split at hv
      · obtain ⟨z, hz, rfl⟩ := Option.map_eq_some_iff.1 hv
        have hi : i < zs.length := (List.getElem?_eq_some_iff.1 hz).1
        have h6 := h4 i hi
        have h7 := some_of_cell (h4 0 (by omega))
        rw [Option.some.injEq] at h7
        rw [h7, add_eq, List.getD_eq_getElem?_getD, hz] at h6
        exact h6
      · simp at hv

end Go.Proofs.Ytkflhmpecfckfaa
