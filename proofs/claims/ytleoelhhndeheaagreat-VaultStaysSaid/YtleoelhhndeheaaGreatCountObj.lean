/- package count, said of whole blocks: an object is one block; a call turns that block alone -/
import Derived.Test.YtleoelhhndeheaaGreatCount
open Go Go.RowKit
namespace Go.Proofs.YtleoelhhndeheaaGreat

abbrev isInt (w : World) (b : Nat) (t : TypeId) (x : Int) : Prop := w.heap[b]? = some (.cells #[.int .i64 x] t (0, 0))

abbrev isFlag (w : World) (b : Nat) (t : TypeId) (r : Bool) : Prop := w.heap[b]? = some (.cells #[.int .u32 (up r)] t (0, 0))

abbrev isBud (w : World) (b : Nat) (t : TypeId) (all left : Int) : Prop := w.heap[b]? = some (.cells #[.int .i64 all, .int .i64 left] t (0, 0))

theorem add_o {w : World} {b : Nat} {t : TypeId} {x : Int} (h : isInt w b t x) (h0 : 0 ≤ x) (h1 : x ≤ 4611686018427387904) (n : Int) :
    Calls Tryz.prog 82 #[.pointer (some ⟨b, 0, none⟩), .int .i64 n] w fun e w' =>
      e = .returned (.int .i64 (more x n)) ∧ isInt w' b t (more x n) ∧ Ext (· = b) w w' :=
  (add_any b 0 x n w (blk_cell h (by simp)) (blk_free h) h0 h1).mono fun _ _ ⟨he, hb⟩ => ⟨he, by simpa using blk_of_set hb h, Ext.of_set hb⟩

theorem cload_o {w : World} {b : Nat} {t : TypeId} {x : Int} (h : isInt w b t x) :
    Calls Tryz.prog 60 #[.pointer (some ⟨b, 0, none⟩)] w fun e w' => e = .returned (.int .i64 x) ∧ w = w' :=
  cload_any b 0 x w (blk_cell h (by simp))

theorem raised_o {w : World} {b : Nat} {t : TypeId} {r : Bool} (h : isFlag w b t r) :
    Calls Tryz.prog 64 #[.pointer (some ⟨b, 0, none⟩)] w fun e w' => e = .returned (.bool r) ∧ w = w' :=
  raised_any b 0 r w (blk_cell h (by simp))

theorem raise_o {w : World} {b : Nat} {t : TypeId} {r : Bool} (h : isFlag w b t r) :
    Calls Tryz.prog 81 #[.pointer (some ⟨b, 0, none⟩)] w fun e w' => e = .returned (.bool (!r)) ∧ isFlag w' b t true ∧ Ext (· = b) w w' :=
  (raise_any b 0 r w (blk_cell h (by simp)) (blk_free h)).mono fun _ _ ⟨he, hb⟩ => ⟨he, by have := blk_of_set hb h; simp at this; exact this, Ext.of_set hb⟩

/-- what a Take leaves, of whatever number -/
def left (was n : Int) : Int := if 0 ≤ n ∧ n ≤ was then was - n else was

theorem take_o {w : World} {b : Nat} {t : TypeId} {all x : Int} (h : isBud w b t all x) (h0 : 0 ≤ x) (h1 : x ≤ 4611686018427387904) (n : Int) :
    Calls Tryz.prog 80 #[.pointer (some ⟨b, 0, none⟩), .int .i64 n] w fun e w' =>
      e = .returned (.bool (decide (0 ≤ n ∧ n ≤ x))) ∧ isBud w' b t all (left x n) ∧ Ext (· = b) w w' := by
  by_cases hn : 0 ≤ n
  · refine (take_any b 0 x n w (blk_cell h (by simp)) (blk_free h) h0 h1 hn).mono fun _ _ ⟨he, hb⟩ => ⟨?_, ?_, Ext.of_set hb⟩
    · rw [he]; exact ret_bool (by simp [hn])
    · have e : left x n = taken x n := by unfold left taken; split <;> split <;> omega
      rw [e]
      simpa using blk_of_set hb h
  · refine (take_neg b 0 n w (by omega)).mono fun _ _ ⟨he, hb⟩ => ⟨?_, ?_, Ext.of_below hb _⟩
    · rw [he]; exact ret_bool (by simp [hn])
    · have e : left x n = x := by unfold left; rw [if_neg (by omega)]
      rw [e]
      exact (hb.block b (lt_of_blk h)).trans h

/-- what a Give leaves -/
def given (all was n : Int) : Int := was + min (max 0 (min n 4611686018427387904)) (all - was)

/-- a number within 0 and the end -/
def clip (n : Int) : Int := max 0 (min n 4611686018427387904)

theorem newBudget_o (n : Int) (w : World) :
    Calls Tryz.prog 63 #[.int .i64 n] w fun e w' =>
      e = .returned (.pointer (some ⟨w.heap.size, 0, none⟩)) ∧ isBud w' w.heap.size 136 (clip n) (clip n) ∧ Ext (fun _ => False) w w' :=
  (newBudget_any n w).mono fun _ _ ⟨he, k, hk⟩ => ⟨he, by subst hk; exact blk_new _ _, by subst hk; exact ((Ext.refl _ _).alloc _).drewN k⟩

end Go.Proofs.YtleoelhhndeheaaGreat
