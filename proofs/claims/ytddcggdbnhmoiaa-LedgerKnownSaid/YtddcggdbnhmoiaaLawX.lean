/- a ledger and a drum beside other blocks -/
import Derived.Test.YtddcggdbnhmoiaaLawL2
open Go Go.RowKit
namespace Go.Proofs.Ytddcggdbnhmoiaa

theorem LedP.addX {w w' : World} {M : Dom} {B F : Nat → Prop} {d l mb : Nat} {L : LS} (h : LedP w M B d l mb L) (k : Below w.heap.size w w') (hF : ∀ q, F q → w.heap.size ≤ q ∧ q < w'.heap.size) : LedP w' (M.addX F) B d l mb L := by
  have kx := Ext.of_below k (fun _ => False)
  exact ⟨kx.blk id h.obj, h.tkn.step kx (fun _ hf => hf.elim) id (fun q hq => hq.elim (fun h => .inl (.inl h)) (fun h => h.elim (fun h => .inl (.inr h)) (fun h => .inr (hF q h).1))), h.bl, h.bm, fun q hq => ⟨.inl (h.bx q hq).1, (h.bx q hq).2⟩, fun q hq => Nat.lt_of_lt_of_le (h.bs q hq) k.size⟩
theorem Sys.addX {w w' : World} {M : Dom} {B F : Nat → Prop} {d l mb : Nat} {s : DS} {L : LS} (h : Sys w M B d l mb s L) (k : Below w.heap.size w w') (hF : ∀ q, F q → w.heap.size ≤ q ∧ q < w'.heap.size) : Sys w' (M.addX F) B d l mb s L :=
  ⟨h.drum.addX k hF, h.led.addX k hF⟩
theorem Sys.wrote {w w' : World} {M : Dom} {B F : Nat → Prop} {d l mb : Nat} {s : DS} {L : LS} (h : Sys w M B d l mb s L) (k : Ext F w w') (hX : ∀ q, F q → M.X q) (hN : ∀ q, F q → ¬ M q ∧ ¬ B q) : Sys w' M B d l mb s L :=
  ⟨h.drum.other k hX (fun q hq => (hN q hq).1), ⟨k.blk (fun hf => (hN _ hf).2 h.led.bl) h.led.obj, h.led.tkn.step k (fun q hq => .inr (hX q hq)) (fun hf => (hN _ hf).2 h.led.bm) (fun q hq => .inl hq), h.led.bl, h.led.bm, h.led.bx, fun q hq => Nat.lt_of_lt_of_le (h.led.bs q hq) k.size⟩⟩
theorem Live.addX {w w' : World} {M : Dom} {B F : Nat → Prop} {d l mb n : Nat} {lv : Int} {N : Nat} {V : Nat → List Int} {s : DS} {L : LS} (h : Live w M B d l mb n lv N V s L) (k : Below w.heap.size w w') (hF : ∀ q, F q → w.heap.size ≤ q ∧ q < w'.heap.size) : Live w' (M.addX F) B d l mb n lv N V s L :=
  ⟨h.sys.addX k hF, h.full, h.n, h.leaves, h.up, h.round, h.last, h.v⟩
theorem Live.wrote {w w' : World} {M : Dom} {B F : Nat → Prop} {d l mb n : Nat} {lv : Int} {N : Nat} {V : Nat → List Int} {s : DS} {L : LS} (h : Live w M B d l mb n lv N V s L) (k : Ext F w w') (hX : ∀ q, F q → M.X q) (hN : ∀ q, F q → ¬ M q ∧ ¬ B q) : Live w' M B d l mb n lv N V s L :=
  ⟨h.sys.wrote k hX hN, h.full, h.n, h.leaves, h.up, h.round, h.last, h.v⟩

theorem mayFrom_keys {H : Int} : ∀ {l : List Ent} {seen : List Int}, mayFrom H l seen = true → ∀ x ∈ l, 0 ≤ x.1 ∧ x.1 < H
  | [], _, _, _, hx => by cases hx
  | y :: r, seen, h, x, hx => by
    unfold mayFrom at h
    simp only [Bool.and_eq_true, decide_eq_true_eq] at h
    rcases List.mem_cons.1 hx with rfl | hx
    · exact ⟨h.1.1, h.1.2.1⟩
    · exact mayFrom_keys h.2 x hx
theorem mayE_keys {l : List Ent} {H : Int} (h : mayE l H = true) : ∀ x ∈ l, 0 ≤ x.1 ∧ x.1 < H := by
  unfold mayE at h
  simp only [Bool.and_eq_true] at h
  exact mayFrom_keys h.1
theorem over_snoc (el : List Ent) (x : Ent) (j : Nat) (y : List Int) : over (el ++ [x]) j y = if (j : Int) = x.1 then x.2 else over el j y := by
  have e : putL (fun _ => none) (el ++ [x]) = putE (putL (fun _ => none) el) x := by unfold putL; rw [List.foldl_append]; rfl
  unfold over
  rw [e]
  unfold putE
  by_cases h : (j : Int) = x.1
  · rw [if_pos h, if_pos h]
  · rw [if_neg h, if_neg h]
theorem over_nil (j : Nat) (y : List Int) : over [] j y = y := rfl

end Go.Proofs.Ytddcggdbnhmoiaa
