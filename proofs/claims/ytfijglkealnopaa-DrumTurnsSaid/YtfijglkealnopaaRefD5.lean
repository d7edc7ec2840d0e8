/- lariatref3's drum: New -/
import Derived.Test.YtfijglkealnopaaRefD4
import Derived.Lib.MinMax
import Derived.Deep.LoopGhost
open Go Go.RowKit
namespace Go.Proofs.Ytfijglkealnopaa

theorem rzeros_any (w : World) : Calls Try.prog 35 #[.int .i64 96] w fun e w' => ∃ g, e = .returned (.slice (some ⟨g, 0, none⟩) 96 96) ∧ w'.heap[g]? = some (.cells (B8 zeros96).toArray 5 (0, 0)) ∧ w.heap.size ≤ g ∧ Below w.heap.size w w' := by
  have m2 := fun W => mkU (n := 96) (by omega) W
  simp only [show ((96 : Nat) : Int) = 96 from rfl] at m2
  have hmx : max (0 : Int) 96 = 96 := by decide
  go_enter Try.func35, Try.ntmps35
  go_wp2_with fail
  go_ret
  exact ⟨w.heap.size, rfl, blk_new _ _, Nat.le_refl _, (Below.refl _ _).alloc (Nat.le_refl _) _⟩

def RS.new (n : Nat) : RS := ⟨n, fun _ => zeros96, [], -1, false, 0⟩
theorem strK_succ (K : Nat → List Int) (n : Nat) : strK K (n + 1) = strK K n ++ [.string (strOfNums (K n))] := by simp [strK, List.range_succ]

set_option maxRecDepth 100000 in
theorem rnew_any (n : Nat) (w : World) (hn0 : 0 < n) (hn : n ≤ 1000) :
    Calls Try.prog 18 #[.int .i64 (n : Int)] w fun e w' => ∃ r R, e = .returned (.pointer (some ⟨r, 0, none⟩)) ∧ RefAt w' R r (RS.new n) ∧ (∀ q, R q → w.heap.size ≤ q) ∧ Below w.heap.size w w' := by
  obtain ⟨i0, hi0, hz0, hz1, hz2⟩ := info_parts iS
  obtain ⟨W, hW⟩ : ∃ W, w.alloc (.cells #[.slice none 0 0, .slice none 0 0, .int .i64 (-1), .bool false, .int .i64 0] 49) = W := ⟨_, rfl⟩
  have b0 : W.heap[w.heap.size]? = some (.cells #[.slice none 0 0, .slice none 0 0, .int .i64 (-1), .bool false, .int .i64 0] 49 (0, 0)) := hW ▸ blk_new _ _
  have BW : Below w.heap.size w W := hW ▸ (Below.refl _ _).alloc (Nat.le_refl _) _
  go_enter Try.func18, Try.ntmps18
  go_wp2_with fail
  clear hW
  obtain ⟨r, hr⟩ : ∃ r, w.heap.size = r := ⟨_, rfl⟩
  rw [hr] at b0 ⊢
  have HR := hid hr
  clear hr
  go_loopg [] n (fun q wr => ∃ (k : Nat) (oa : Option Addr) (oc : Nat), Hid (n - k = q) ∧ k ≤ n ∧ wr.heap[r]? = some (.cells #[.slice oa k oc, .slice none 0 0, .int .i64 (-1), .bool false, .int .i64 0] 49 (0, 0)) ∧
    wr.ownsRow W.heap.size 9 1 (.slice oa k oc) k (strK (fun _ => zeros96) k) ∧ Ext (fun q => q = r ∨ W.heap.size ≤ q) W wr)
  case atStart => exact ⟨0, none, 0, hid rfl, Nat.zero_le _, b0, World.ownsRow_nil _ _ _ _, Ext.refl _ _⟩
  case round =>
    obtain ⟨k, oa, oc, hq, hk, OB, OW, X⟩ := hrel
    have hdW : r < W.heap.size := lt_of_blk b0
    have hdw : r < wr.heap.size := lt_of_blk OB
    have hsz := X.size
    have c0 : wr.cell? ⟨r, 0, none⟩ = some (.slice oa k oc) := blk_cell OB rfl
    by_cases hkN : k < n
    · have hne : (Value.slice oa k oc).ownBlock ≠ some r := fun e => by have := (OW.lt r e).1; omega
      have hm1 : k + 1 ≤ maxLen := by simp only [maxLen]; omega
      have hm2 : (k + 1) * 16 ≤ 140737488355328 := by omega
      have ZA := rzeros_any wr.drew
      have OBd : wr.drew.heap[r]? = some (.cells #[.slice oa k oc, .slice none 0 0, .int .i64 (-1), .bool false, .int .i64 0] 49 (0, 0)) := OB
      have c0d : wr.drew.cell? ⟨r, 0, none⟩ = some (.slice oa k oc) := c0
      go_wp2_with fail
      go_region_law (first
        | (go_simp; go_at_call 35; refine ZA.mono ?_; rintro e w5 ⟨g5, rfl, hb5, hg5, B5⟩; have o5 := (B5.block r hdw).trans OBd; have S5 : w5.cell? ⟨r, 0, none⟩ = some (.slice oa k oc) := blk_cell o5 rfl; have f5 : w5.frozen? ⟨r, 0, none⟩ = false := blk_free o5; have hdw5 : r < w5.heap.size := lt_of_blk o5; have kc : (convert 29 9 (.slice (some ⟨g5, 0, none⟩) 96 96)).run Try.prog w5 = .ok (.string (strOfNums zeros96)) w5 := conv_row Try.underlying29 Try.underlying5 Try.underlying9 96 (row_blk hb5) zeros96_len; have S5a : ∀ o, (w5.alloc o).cell? ⟨r, 0, none⟩ = some (.slice oa k oc) := (fun o => cell_alloc o S5); have f5a : ∀ o, (w5.alloc o).frozen? ⟨r, 0, none⟩ = false := (fun o => free_alloc o hdw5 f5); have O5 := Below.owns B5 (Nat.le_refl _) OW.drew; have s5 : wr.heap.size ≤ w5.heap.size := B5.size; have hbs : W.heap.size ≤ (w5.alloc (.cells #[.string (strOfNums zeros96)] 9)).heap.size := (by simp; omega))
        | (refine step_append_lies _ (by rfl) _ _ _ (by rfl) W.heap.size 9 i0 (.string ⟨#[]⟩) 1 16 Try.underlying46 hi0 hz0 hz1 hz2 (by rfl) (by decide) (.slice oa k oc) k (strK (fun _ => zeros96) k) (by rfl) (O5.alloc _) ⟨w5.heap.size, 0, none⟩ 1 1 [.string (strOfNums zeros96)] (by rfl) (by rfl) (row_new w5 #[.string (strOfNums zeros96)] 9).news (fun u hu => by simp at hu; subst hu; rfl) (by decide) hm1 hm2 hbs (w5.heap.size + 1) (by simp) ?_; intro gg cap w6 O6 G6 hat hlt; have S6 : w6.cell? ⟨r, 0, none⟩ = some (.slice oa k oc) := (G6.cell_far ⟨r, 0, none⟩ (lt_of_cell (S5a _)) (Ne.symm hne)).trans (S5a _); have f6 : w6.frozen? ⟨r, 0, none⟩ = false := (G6.frozen_far ⟨r, 0, none⟩ (lt_of_cell (S5a _)) (Ne.symm hne)).trans (f5a _)))
      all_goals
        go_wp2_with fail
        go_roundg (n - (k + 1))
        case measure => have := hq.out; omega
        case rel =>
          have hx : Ext (fun q => q = r ∨ (Value.slice oa k oc).ownBlock = some q) wr w6 := (((Ext.refl (fun q => q = r ∨ (Value.slice oa k oc).ownBlock = some q) wr).drew.trans (Ext.of_below B5 (fun q => q = r ∨ (Value.slice oa k oc).ownBlock = some q)) (fun _ _ h => h)).alloc _).trans (Ext.of_grown G6) (fun _ _ h => .inr h)
          have hd6 : w6.heap[r]? = _ := (G6.block r (by simp; omega) (Ne.symm hne)).trans (blk_old _ o5)
          refine ⟨k + 1, some ⟨gg, 0, none⟩, cap, hid rfl, by omega, blk_setCell hd6 _, ?_, X.trans (hx.trans Ext.set (fun q _ hq => .inl hq)) (fun q _ hq => hq.imp id (fun h => (OW.lt q h).1))⟩
          rw [strK_succ]
          exact Ext.set.owns2 (fun q hq e => by
            have hq : some gg = some q := hq
            cases hq
            have := (O6.lt gg rfl).1
            have e : gg = r := e
            omega) O6
    · obtain rfl : n = k := by omega
      obtain ⟨tb, tc, e1, -⟩ := owns_some OW hn0
      obtain ⟨rfl, rfl⟩ : oa = some ⟨tb, 0, none⟩ ∧ oc = tc := by cases e1; exact ⟨rfl, rfl⟩
      have htb := OW.lt tb rfl
      have ba := BW.size
      clear e1
      go_wp2_with fail
      go_ret
      have hr2 := HR.out
      refine ⟨r, ⟨fun q => q = r ∨ q = tb, fun _ => False⟩, rfl, ⟨⟨r, tb, oc, .slice none 0 0⟩, rfl, ?_⟩, fun q hq => by omega, Below.ext BW X (fun q hq => by omega) ba⟩
      exact ⟨OB, .inl rfl, .inr rfl, fun q hq => (by cases hq), owns_mono OW (Nat.zero_le _), World.ownsRow_nil _ _ _ _, fun q hq => (by rcases hq with rfl | rfl <;> omega), hn0, (by show n ≤ _; omega), Nat.zero_le _, fun k _ => ⟨zeros96_len, zeros96_bytes⟩, fun p hp => (by cases hp), Int.le_refl _, (by show (-1 : Int) ≤ _; omega), Int.le_refl _, (by show (0 : Int) ≤ _; omega)⟩

end Go.Proofs.Ytfijglkealnopaa
