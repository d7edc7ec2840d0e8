import Derived.Test.YtleoelhhndeheaaGreatLedP
import Derived.Test.YtleoelhhndeheaaGreatOwn
import Derived.Test.YtleoelhhndeheaaGreatLedB
/- slices of entries, said plainly -/
open Go Go.RowKit
namespace Go.Proofs.YtleoelhhndeheaaGreat

/-- a slice of entries at a, of length n, that reads as l; nothing of it lies in N -/
structure EntsAt (w : World) (N : Nat → Prop) (a : Option Addr) (n : Nat) (l : List Ent) : Prop where
  len : l.length = n
  nn : 0 < n → a = some ⟨sB a, sO a, none⟩
  c0 : ∀ i x, l[i]? = some x → w.cell? ⟨sB a, sO a + i * 2, none⟩ = some (.int .i64 x.1)
  c1 : ∀ i x, l[i]? = some x → ∃ b c, w.cell? ⟨sB a, sO a + i * 2 + 1, none⟩ = some (.slice b x.2.length c) ∧ Row w b (B8 x.2) ∧ (b = none → x.2 = [] ∧ c = 0) ∧ IsBytes x.2 ∧ (0 < x.2.length → ¬ N (sB b))
  bd : ∀ x ∈ l, -9223372036854775808 ≤ x.1 ∧ x.1 ≤ 9223372036854775807 ∧ x.2.length ≤ 1000000
  hd : 0 < n → ¬ N (sB a)

theorem EntsAt.keep {w w' : World} {N : Nat → Prop} {a : Option Addr} {n : Nat} {l : List Ent} (h : EntsAt w N a n l) {F : Nat → Prop} (k : Ext F w w') (hF : ∀ q, F q → q < w.heap.size → N q) : EntsAt w' N a n l := by
  have hl : ∀ i x, l[i]? = some x → ¬ F (sB a) := fun i x hi hf => by
    have hi2 : i < l.length := (List.getElem?_eq_some_iff.1 hi).1
    exact h.hd (by have := h.len; omega) (hF _ hf (lt_of_cell (h.c0 i x hi)))
  refine ⟨h.len, h.nn, fun i x hi => k.cell (hl i x hi) (h.c0 i x hi), fun i x hi => ?_, h.bd, h.hd⟩
  obtain ⟨b, c, h1, h2, h3, h4, h5⟩ := h.c1 i x hi
  refine ⟨b, c, k.cell (hl i x hi) h1, h2.ext k (fun h0 hf => ?_), h3, h4, h5⟩
  rw [B8_length] at h0
  exact h5 h0 (hF _ hf (h2.lt (by rw [B8_length]; exact h0)))
theorem EntsAt.below {w w' : World} {N : Nat → Prop} {a : Option Addr} {n : Nat} {l : List Ent} (h : EntsAt w N a n l) {B : Nat} (k : Below B w w') (hB : w.heap.size ≤ B) : EntsAt w' N a n l := by
  refine h.keep (Ext.of_below (w := w) (w' := w') ?_ (fun _ => False)) (fun _ hf => hf.elim)
  exact k.mono hB
theorem EntsAt.to {w : World} {N N' : Nat → Prop} {a : Option Addr} {n : Nat} {l : List Ent} (h : EntsAt w N a n l) (hN : ∀ q, N' q → q < w.heap.size → N q) : EntsAt w N' a n l := by
  refine ⟨h.len, h.nn, h.c0, fun i x hi => ?_, h.bd, fun h0 hf => ?_⟩
  · obtain ⟨b, c, h1, h2, h3, h4, h5⟩ := h.c1 i x hi
    exact ⟨b, c, h1, h2, h3, h4, fun h0 hf => h5 h0 (hN _ hf (h2.lt (by rw [B8_length]; exact h0)))⟩
  · have hl := h.len
    have hi : l[0]? = some (l[0]'(by omega)) := List.getElem?_eq_getElem _
    exact h.hd h0 (hN _ hf (lt_of_cell (h.c0 0 _ hi)))
theorem EntsAt.nil (w : World) (N : Nat → Prop) : EntsAt w N none 0 [] :=
  ⟨rfl, fun h => by omega, (fun i x h => by simp at h), (fun i x h => by simp at h), (fun x h => by cases h), fun h => by omega⟩
theorem szEnt : (Tryz.prog.info? 100).map (·.size) = some 2 := by kernel_rfl
theorem EntsAt.idx {w : World} {N : Nat → Prop} {a : Option Addr} {n cap : Nat} {l : List Ent} (h : EntsAt w N a n l) {k : Nat} (hk : k < n) (w' : World) :
    (Instr.indexAt 77 (.slice a n cap) (.int .i64 k)).run Tryz.prog w' = .ok (.pointer (some ⟨sB a, sO a + k * 2, none⟩)) w' :=
  idx_at (P := Tryz.prog) Tryz.underlying77 szEnt h.nn hk w'

theorem take_succ_ent {l : List Ent} {k : Nat} {x : Ent} (h : l[k]? = some x) : l.take (k + 1) = l.take k ++ [x] := by
  rw [List.take_add_one, h]; rfl
theorem drop_ent {l : List Ent} {k : Nat} {x : Ent} (h : l[k]? = some x) : l.drop k = x :: l.drop (k + 1) := by
  obtain ⟨hk, rfl⟩ := List.getElem?_eq_some_iff.1 h
  exact List.drop_eq_getElem_cons hk

end Go.Proofs.YtleoelhhndeheaaGreat

/- slices of leaves (tracks), said plainly -/
open Go Go.RowKit
namespace Go.Proofs.YtleoelhhndeheaaGreat

/-- a slice of tracks at a, of length n, that reads as ls; nothing of it lies in N -/
structure LvRow (w : World) (N : Nat → Prop) (a : Option Addr) (n : Nat) (ls : List (List Int)) : Prop where
  len : ls.length = n
  nn : 0 < n → a = some ⟨sB a, sO a, none⟩
  hd : 0 < n → ¬ N (sB a)
  cell : ∀ i zs, ls[i]? = some zs → ∃ b c, w.cell? ⟨sB a, sO a + i, none⟩ = some (.slice (some b) 96 c) ∧ Row w (some b) (B8 zs) ∧ zs.length = 96 ∧ IsBytes zs ∧ 96 ≤ c ∧ ¬ N b.block
theorem LvRow.keep {w w' : World} {N : Nat → Prop} {a : Option Addr} {n : Nat} {ls : List (List Int)} (h : LvRow w N a n ls) {F : Nat → Prop} (k : Ext F w w') (hF : ∀ q, F q → q < w.heap.size → N q) : LvRow w' N a n ls := by
  refine ⟨h.len, h.nn, h.hd, fun i zs hi => ?_⟩
  obtain ⟨b, c, h1, h2, h3, h4, h5, h6⟩ := h.cell i zs hi
  have hi2 : i < ls.length := (List.getElem?_eq_some_iff.1 hi).1
  have h0 := h.hd (by have := h.len; omega)
  exact ⟨b, c, k.cell (fun hf => h0 (hF _ hf (lt_of_cell h1))) h1, h2.ext k (fun hl hf => h6 (hF _ hf (h2.lt hl))), h3, h4, h5, h6⟩
theorem LvRow.below {w w' : World} {N : Nat → Prop} {a : Option Addr} {n : Nat} {ls : List (List Int)} (h : LvRow w N a n ls) {B : Nat} (k : Below B w w') (hB : w.heap.size ≤ B) : LvRow w' N a n ls :=
  h.keep (Ext.of_below (k.mono hB) (fun _ => False)) (fun _ hf => hf.elim)
theorem LvRow.to {w : World} {N N' : Nat → Prop} {a : Option Addr} {n : Nat} {ls : List (List Int)} (h : LvRow w N a n ls) (hN : ∀ q, N' q → q < w.heap.size → N q) : LvRow w N' a n ls := by
  refine ⟨h.len, h.nn, fun h0 hf => ?_, fun i zs hi => ?_⟩
  · have hl := h.len
    have hi : ls[0]? = some (ls[0]'(by omega)) := List.getElem?_eq_getElem _
    obtain ⟨b, c, h1, -⟩ := h.cell 0 _ hi
    exact h.hd h0 (hN _ hf (lt_of_cell h1))
  · obtain ⟨b, c, h1, h2, h3, h4, h5, h6⟩ := h.cell i zs hi
    exact ⟨b, c, h1, h2, h3, h4, h5, fun hf => h6 (hN _ hf (h2.lt (by rw [B8_length]; omega)))⟩
theorem LvRow.drop {w : World} {N : Nat → Prop} {b o n : Nat} {ls : List (List Int)} (h : LvRow w N (some ⟨b, o, none⟩) n ls) (k : Nat) : LvRow w N (some ⟨b, o + k, none⟩) (n - k) (ls.drop k) := by
  refine ⟨by rw [List.length_drop, h.len], fun _ => rfl, fun h0 => h.hd (by omega), fun i zs hi => ?_⟩
  rw [List.getElem?_drop] at hi
  obtain ⟨b', c, h1, r⟩ := h.cell (k + i) zs hi
  refine ⟨b', c, ?_, r⟩
  show w.cell? ⟨b, o + k + i, none⟩ = _
  rw [Nat.add_assoc]; exact h1
theorem LvRow.take {w : World} {N : Nat → Prop} {a : Option Addr} {n : Nat} {ls : List (List Int)} (h : LvRow w N a n ls) (k : Nat) (hk : k ≤ n) : LvRow w N a k (ls.take k) := by
  refine ⟨by rw [List.length_take, h.len]; omega, fun h0 => h.nn (by omega), fun h0 => h.hd (by omega), fun i zs hi => ?_⟩
  rw [List.getElem?_take] at hi
  split at hi
  · exact h.cell i zs hi
  · cases hi
theorem LvRow.nil (w : World) (N : Nat → Prop) : LvRow w N none 0 [] := ⟨rfl, (fun h => by omega), (fun h => by omega), fun i zs h => by simp at h⟩
theorem szP1 : (Tryz.prog.info? 27).map (·.size) = some 1 := by kernel_rfl
theorem LvRow.idx {w : World} {N : Nat → Prop} {a : Option Addr} {n cap : Nat} {ls : List (List Int)} (h : LvRow w N a n ls) {k : Nat} (hk : k < n) (w' : World) :
    (Instr.indexAt 46 (.slice a n cap) (.int .i64 k)).run Tryz.prog w' = .ok (.pointer (some ⟨sB a, sO a + k, none⟩)) w' :=
  idx_at1 (P := Tryz.prog) Tryz.underlying46 szP1 h.nn hk w'

/-- a slice of tracks of one's own, all in blocks from lo on -/
structure LvsAt (w : World) (lo : Nat) (v : Value) (ls : List (List Int)) : Prop where
  row : ∃ hs, w.ownsRow lo 27 1 v ls.length hs ∧ ∀ (i : Nat) (zs : List Int), ls[i]? = some zs → ∃ u, hs[i]? = some u ∧ w.ownsRow lo 5 1 u 96 (B8 zs) ∧ IsBytes zs
theorem LvsAt.nil (w : World) (lo : Nat) : LvsAt w lo (.slice none 0 0) [] := ⟨[], World.ownsRow_nil _ _ _ _, fun i zs h => by simp at h⟩
theorem LvsAt.below {w w' : World} {lo : Nat} {v : Value} {ls : List (List Int)} (h : LvsAt w lo v ls) {B : Nat} (k : Below B w w') (hB : w.heap.size ≤ B) : LvsAt w' lo v ls := by
  obtain ⟨hs, h1, h2⟩ := h.row
  refine ⟨hs, Below.owns k hB h1, fun i zs hi => ?_⟩
  obtain ⟨u, h3, h4, r⟩ := h2 i zs hi
  exact ⟨u, h3, Below.owns k hB h4, r⟩
theorem LvsAt.alloc {w : World} {lo : Nat} {v : Value} {ls : List (List Int)} (h : LvsAt w lo v ls) (o : Obj) : LvsAt (w.alloc o) lo v ls :=
  h.below ((Below.refl _ _).alloc (Nat.le_refl _) o) (Nat.le_refl _)
theorem LvsAt.mono {w : World} {lo lo' : Nat} {v : Value} {ls : List (List Int)} (h : LvsAt w lo v ls) (hl : lo' ≤ lo) : LvsAt w lo' v ls := by
  obtain ⟨hs, h1, h2⟩ := h.row
  refine ⟨hs, owns_mono h1 hl, fun i zs hi => ?_⟩
  obtain ⟨u, h3, h4, h5⟩ := h2 i zs hi
  exact ⟨u, h3, owns_mono h4 hl, h5⟩
theorem LvsAt.keep {w w' : World} {lo : Nat} {v : Value} {ls : List (List Int)} (h : LvsAt w lo v ls) {F : Nat → Prop} (k : Ext F w w') (hF : ∀ q, F q → q < w.heap.size → q < lo) : LvsAt w' lo v ls := by
  obtain ⟨hs, h1, h2⟩ := h.row
  have far : ∀ {E : TypeId} {v : Value} {n : Nat} {xs : List Value}, w.ownsRow lo E 1 v n xs → w'.ownsRow lo E 1 v n xs := fun ho => Ext.owns k (fun g hg hf => by have h3 := ho.lt g hg; have := hF g hf h3.2; omega) ho
  refine ⟨hs, far h1, fun i zs hi => ?_⟩
  obtain ⟨u, h3, h4, h5⟩ := h2 i zs hi
  exact ⟨u, h3, far h4, h5⟩
theorem own96 {w : World} {lo : Nat} {u : Value} {zs : List Int} (h : w.ownsRow lo 5 1 u 96 (B8 zs)) : ∃ b c, u = .slice (some b) 96 c ∧ Row w (some b) (B8 zs) ∧ zs.length = 96 ∧ 96 ≤ c ∧ lo ≤ b.block := by
  obtain ⟨a, c, rfl, h3, h4, h5, h6, h7, h8⟩ := row_of_owns h
  rw [B8_length] at h3
  cases a with
  | none => exact absurd (h8 rfl) (by decide)
  | some b => exact ⟨b, c, rfl, h6, h3, h4, (h7 (by decide)).1⟩
theorem LvsAt.out {w : World} {lo : Nat} {v : Value} {ls : List (List Int)} (h : LvsAt w lo v ls) {N : Nat → Prop} (hN : ∀ q, N q → q < w.heap.size → q < lo) : ∃ a c, v = .slice a ls.length c ∧ LvRow w N a ls.length ls ∧ (a = none → ls.length = 0) ∧ ls.length ≤ c ∧ c ≤ maxLen ∧ (0 < ls.length → a = some ⟨sB a, 0, none⟩) := by
  obtain ⟨hs, h1, h2⟩ := h.row
  obtain ⟨a, c, rfl, h3, h4, h5, h6, h7, h8⟩ := row_of_owns h1
  refine ⟨a, c, rfl, ⟨rfl, fun h0 => h6.nn (by omega), fun h0 hf => ?_, fun i zs hi => ?_⟩, h8, h4, h5, fun h0 => ?_⟩
  · have h9 := h7 h0
    have := hN _ hf h9.2; omega
  · obtain ⟨u, k1, k2, k3⟩ := h2 i zs hi
    obtain ⟨b, d, rfl, m1, m2, m3, m4⟩ := own96 k2
    have m5 := m1.lt (by rw [B8_length]; omega)
    exact ⟨b, d, h6.cell i _ k1, m1, m2, k3, m3, fun hf => by have := hN _ hf m5; omega⟩
  · obtain ⟨g, c', e, -⟩ := owns_some h1 h0
    cases e
    rfl
/-- one more track -/
theorem LvsAt.push {w w' : World} {lo : Nat} {v v' : Value} {ls : List (List Int)} {hs : List Value} (h1 : w.ownsRow lo 27 1 v ls.length hs) (h2 : ∀ (i : Nat) (zs : List Int), ls[i]? = some zs → ∃ u, hs[i]? = some u ∧ w.ownsRow lo 5 1 u 96 (B8 zs) ∧ IsBytes zs)
    {u : Value} {zs : List Int} (hu : w.ownsRow lo 5 1 u 96 (B8 zs)) (hz : IsBytes zs)
    (ho : w'.ownsRow lo 27 1 v' (ls.length + 1) (hs ++ [u])) (hg : w.grownBy w' v.ownBlock) : LvsAt w' lo v' (ls ++ [zs]) := by
  have far : ∀ (u : Value) (ys : List Int), w.ownsRow lo 5 1 u 96 (B8 ys) → w'.ownsRow lo 5 1 u 96 (B8 ys) := fun u ys hu =>
    (Ext.of_grown hg).owns (fun g hgu hf => owns_ne2 h1 hu (by decide) g hgu hf) hu
  have hl : hs.length = ls.length := by have := h1.1; omega
  refine ⟨hs ++ [u], by rw [List.length_append]; exact ho, fun i ys hi => ?_⟩
  by_cases e : i < ls.length
  · rw [List.getElem?_append_left e] at hi
    obtain ⟨x, k1, k2, k3⟩ := h2 i ys hi
    exact ⟨x, by rw [List.getElem?_append_left (by omega)]; exact k1, far x ys k2, k3⟩
  · have e2 : i = ls.length := by
      have := (List.getElem?_eq_some_iff.1 hi).1
      simp at this
      omega
    subst e2
    simp at hi
    subst hi
    exact ⟨u, by rw [List.getElem?_append_right (by omega), hl]; simp, far u _ hu, hz⟩

end Go.Proofs.YtleoelhhndeheaaGreat
