/- the contracts of package count, each function once -/
import Derived.Test.YtleoelhhndeheaaGreatProg
import Derived.Test.YtleoelhhndeheaaGreatBase
open Go Go.RowKit
namespace Go.Proofs.YtleoelhhndeheaaGreat

theorem load64_any (a : Addr) (x : Int) (w : World) (hc : w.cell? a = some (.int .i64 x)) :
    Calls Tryz.prog 88 #[.pointer (some a)] w fun e w' => e = .returned (.int .i64 x) ∧ w = w' := by
  have hl := run_call_load (P := Tryz.prog) Tryz.func110 (by kernel_rfl) (by kernel_rfl) (by kernel_rfl) .i64 (by kernel_rfl) hc
  go_enter Tryz.func88, Tryz.ntmps88
  go_wp2
  go_ret
  exact ⟨rfl, rfl⟩

theorem cas64_any (a : Addr) (x y : Int) (w : World) (hc : w.cell? a = some (.int .i64 x)) (hf : w.frozen? a = false) :
    Calls Tryz.prog 119 #[.pointer (some a), .int .i64 x, .int .i64 y] w fun e w' => e = .returned (.bool true) ∧ w.setCell a (.int .i64 y) = w' := by
  have hl := run_call_cas_hit (P := Tryz.prog) Tryz.func133 (by kernel_rfl) (by kernel_rfl) (by kernel_rfl) .i64 (by kernel_rfl) (y := y) hc hf
  go_enter Tryz.func119, Tryz.ntmps119
  go_wp2
  go_ret
  exact ⟨rfl, rfl⟩

theorem store64_any (a : Addr) (y : Int) (u : Value) (w : World) (hc : w.cell? a = some u) (hf : w.frozen? a = false) :
    Calls Tryz.prog 94 #[.pointer (some a), .int .i64 y] w fun e w' => e = .returned (.tuple #[]) ∧ w.setCell a (.int .i64 y) = w' := by
  have hl := run_call_store (P := Tryz.prog) Tryz.func111 (by kernel_rfl) (by kernel_rfl) (by kernel_rfl) (by kernel_rfl) (k := .i64) (y := y) hc hf
  go_enter Tryz.func94, Tryz.ntmps94
  go_wp2
  go_end0
  exact ⟨rfl, rfl⟩

set_option maxRecDepth 100000 in
theorem turn_any (a : Addr) (x y : Int) (f : Nat) (cap args : Array Value) (w : World) (ha : args = #[.int .i64 x] ++ cap) (hc : w.cell? a = some (.int .i64 x)) (hf : w.frozen? a = false)
    (hcall : ∀ w1, (callFunc f args).run Tryz.prog w1 = .ok (.enter f args) w1)
    (hn : Calls Tryz.prog f args w fun e w' => e = .returned (.int .i64 y) ∧ ∃ n, w' = w.drewN n) :
    Calls Tryz.prog 103 #[.pointer (some a), .func (.func f) #[] cap] w fun e w' => e = .returned (.tuple #[.int .i64 x, .int .i64 y]) ∧ ∃ n, w' = (w.setCell a (.int .i64 y)).drewN n := by
  subst ha
  go_enter Tryz.func103, Tryz.ntmps103
  go_wp2_with fail
  refine wp_loop_rounds 1 ?_
  rw [rounds_succ]
  go_wp2_with (first | (go_at_call 88; refine (load64_any a x _ hc).mono ?_; rintro e w' ⟨rfl, rfl⟩) | (go_at_call 119; refine (cas64_any a x y _ (by exact hc) (by exact hf)).mono ?_; rintro e w' ⟨rfl, rfl⟩) | (refine hn.mono ?_; rintro e w' ⟨rfl, n, rfl⟩))
  go_ret2
  exact ⟨rfl, _, rfl⟩

theorem within_any (n : Int) (w : World) :
    Calls Tryz.prog 93 #[.int .i64 n] w fun e w' => e = .returned (.int .i64 (max 0 (min n 4611686018427387904))) ∧ w = w' := by
  go_enter Tryz.func93, Tryz.ntmps93
  go_wp2
  all_goals (go_ret; exact ⟨ret_int (by omega), rfl⟩)

theorem add1_any (was n : Int) (a : Addr) (w : World) (hc : w.cell? a = some (.int .i64 n)) (h0 : 0 ≤ was) (h1 : was ≤ 4611686018427387904) :
    Calls Tryz.prog 106 #[.int .i64 was, .pointer (some a)] w fun e w' => e = .returned (.int .i64 (was + min (max 0 (min n 4611686018427387904)) (4611686018427387904 - was))) ∧ w = w' := by
  go_enter Tryz.func106, Tryz.ntmps106
  go_wp2_with (go_at_call 93; (with_reducible refine (within_any n _).mono ?_); rintro e w' ⟨rfl, rfl⟩)
  all_goals (go_ret; exact ⟨ret_int (by omega), rfl⟩)

theorem take1_any (was n : Int) (a : Addr) (w : World) (hc : w.cell? a = some (.int .i64 n)) (h0 : 0 ≤ was) (hn : 0 ≤ n) (h1 : was ≤ 4611686018427387904) :
    Calls Tryz.prog 104 #[.int .i64 was, .pointer (some a)] w fun e w' => e = .returned (.int .i64 (if was < n then was else was - n)) ∧ w = w' := by
  go_enter Tryz.func104, Tryz.ntmps104
  go_wp2
  all_goals (go_ret; exact ⟨ret_int (by first | rfl | (split <;> omega)), rfl⟩)

theorem callFunc_add1 (args : Array Value) (w : World) : (callFunc 106 args).run Tryz.prog w = .ok (.enter 106 args) w := by go_simp

theorem mf (fn : Fn) (first cap : Array Value) (w : World) : (Instr.makeFunc fn first cap).run Tryz.prog w = .ok (.func fn first cap) w := rfl

theorem callFunc_take1 (args : Array Value) (w : World) : (callFunc 104 args).run Tryz.prog w = .ok (.enter 104 args) w := by go_simp

/-- what is added to a counter -/
def more (was n : Int) : Int := was + min (max 0 (min n 4611686018427387904)) (4611686018427387904 - was)

set_option maxRecDepth 100000 in
theorem add_any (b o : Nat) (was n : Int) (w : World) (hc : w.cell? ⟨b, o, none⟩ = some (.int .i64 was)) (hf : w.frozen? ⟨b, o, none⟩ = false) (h0 : 0 ≤ was) (h1 : was ≤ 4611686018427387904) :
    Calls Tryz.prog 82 #[.pointer (some ⟨b, o, none⟩), .int .i64 n] w fun e w' =>
      e = .returned (.int .i64 (more was n)) ∧ Below w.heap.size (w.setCell ⟨b, o, none⟩ (.int .i64 (more was n))) w' := by
  have hlt : b < w.heap.size := lt_of_cell hc
  have hmf := mf
  go_enter Tryz.func82, Tryz.ntmps82
  go_wp2_with fail
  refine (turn_any ⟨b, o, none⟩ was (more was n) 106 _ _ _ (by simp) (cell_alloc _ hc) (free_alloc _ hlt hf) (fun w1 => callFunc_add1 _ w1)
    ((add1_any was n ⟨w.heap.size, 0, none⟩ _ (World.cell?_alloc_new w _ _ 0) h0 h1).mono fun _ _ h => ⟨h.1, 0, h.2.symm⟩)).mono ?_
  rintro e w' ⟨rfl, k, rfl⟩
  go_wp2_with fail
  go_ret
  refine ⟨rfl, ?_⟩
  exact Below.drewN ((Below.refl _ _).alloc (by simp) _) k

/-- the three loads -/
theorem cload_any (b o : Nat) (x : Int) (w : World) (hc : w.cell? ⟨b, o, none⟩ = some (.int .i64 x)) :
    Calls Tryz.prog 60 #[.pointer (some ⟨b, o, none⟩)] w fun e w' => e = .returned (.int .i64 x) ∧ w = w' := by
  go_enter Tryz.func60, Tryz.ntmps60
  go_wp2_with fail
  refine (load64_any ⟨b, o, none⟩ x _ hc).mono ?_
  rintro e w' ⟨rfl, rfl⟩
  go_wp2_with fail
  go_ret
  exact ⟨rfl, rfl⟩

/-- what is left of a budget -/
def taken (was n : Int) : Int := if was < n then was else was - n

set_option maxRecDepth 100000 in
theorem take_any (b o : Nat) (was n : Int) (w : World) (hc : w.cell? ⟨b, o + 1, none⟩ = some (.int .i64 was)) (hf : w.frozen? ⟨b, o + 1, none⟩ = false) (h0 : 0 ≤ was) (h1 : was ≤ 4611686018427387904) (hn : 0 ≤ n) :
    Calls Tryz.prog 80 #[.pointer (some ⟨b, o, none⟩), .int .i64 n] w fun e w' =>
      e = .returned (.bool (decide (n ≤ was))) ∧ Below w.heap.size (w.setCell ⟨b, o + 1, none⟩ (.int .i64 (taken was n))) w' := by
  have hlt : b < w.heap.size := lt_of_cell hc
  have hmf := mf
  go_enter Tryz.func80, Tryz.ntmps80
  go_wp2_with fail
  refine (turn_any ⟨b, o + 1, none⟩ was (taken was n) 104 _ _ _ (by simp) (cell_alloc _ hc) (free_alloc _ hlt hf) (fun w1 => callFunc_take1 _ w1)
    ((take1_any was n ⟨w.heap.size, 0, none⟩ _ (World.cell?_alloc_new w _ _ 0) h0 hn h1).mono fun _ _ h => ⟨h.1, 0, h.2.symm⟩)).mono ?_
  rintro e w' ⟨rfl, k, rfl⟩
  go_wp2_with fail
  go_ret
  refine ⟨ret_bool (by first | rfl | simp only [decide_eq_decide]), ?_⟩
  exact Below.drewN ((Below.refl _ _).alloc (by simp) _) k

set_option maxRecDepth 100000 in
theorem take_neg (b o : Nat) (n : Int) (w : World) (hn : n < 0) :
    Calls Tryz.prog 80 #[.pointer (some ⟨b, o, none⟩), .int .i64 n] w fun e w' =>
      e = .returned (.bool false) ∧ Below w.heap.size w w' := by
  have hd : decide (n < 0) = true := by simpa using hn
  go_enter Tryz.func80, Tryz.ntmps80
  go_wp2_with fail
  go_ret
  exact ⟨rfl, (Below.refl _ _).alloc (by simp) _⟩

theorem newBudget_any (n : Int) (w : World) :
    Calls Tryz.prog 63 #[.int .i64 n] w fun e w' =>
      e = .returned (.pointer (some ⟨w.heap.size, 0, none⟩)) ∧ ∃ k, w' = (w.alloc (.cells #[.int .i64 (max 0 (min n 4611686018427387904)), .int .i64 (max 0 (min n 4611686018427387904))] 136)).drewN k := by
  go_enter Tryz.func63, Tryz.ntmps63
  go_wp2_with (go_at_call 93; (with_reducible refine (within_any n _).mono ?_); rintro e w' ⟨rfl, rfl⟩)
  go_region_with (go_at_call 94; refine (store64_any _ _ (.int .i64 0) _ (by go_simp) (by go_simp)).mono ?_; rintro e w' ⟨rfl, rfl⟩)
  all_goals go_wp2_with fail
  all_goals go_ret
  all_goals exact ⟨rfl, 1, rfl⟩

theorem b32_any (x : Bool) (w : World) : Calls Tryz.prog 121 #[.bool x] w fun e w' => e = .returned (.int .u32 (if x = true then 1 else 0)) ∧ w = w' := by
  cases x <;>
  · go_enter Tryz.func121, Tryz.ntmps121
    go_wp2
    go_ret
    exact ⟨rfl, rfl⟩

/-- a flag's number -/
def up (r : Bool) : Int := if r then 1 else 0

theorem casb_no (b o : Nat) (w : World) (hc : w.cell? ⟨b, o, none⟩ = some (.int .u32 0)) (hf : w.frozen? ⟨b, o, none⟩ = false) :
    Calls Tryz.prog 105 #[.pointer (some ⟨b, o, none⟩), .bool false, .bool true] w fun e w' => e = .returned (.bool true) ∧ ∃ k, w' = (w.setCell ⟨b, o, none⟩ (.int .u32 1)).drewN k := by
  have hl1 := run_call_cas_hit (P := Tryz.prog) (w := w.drew) (a := ⟨b, o, none⟩) Tryz.func120 (by kernel_rfl) (by kernel_rfl) (by kernel_rfl) .u32 (by kernel_rfl) (x := 0) (y := 1) hc hf
  go_enter Tryz.func105, Tryz.ntmps105
  go_wp2_with fail
  go_region_with (go_at_call 121; refine (b32_any _ _).mono ?_; rintro e w' ⟨rfl, rfl⟩)
  all_goals go_wp2_with fail
  all_goals go_ret
  all_goals exact ⟨rfl, 1, rfl⟩

theorem casb_yes (b o : Nat) (w : World) (hc : w.cell? ⟨b, o, none⟩ = some (.int .u32 1)) (hf : w.frozen? ⟨b, o, none⟩ = false) :
    Calls Tryz.prog 105 #[.pointer (some ⟨b, o, none⟩), .bool false, .bool true] w fun e w' => e = .returned (.bool false) ∧ ∃ k, w' = w.drewN k := by
  have hl1 := run_call_cas_miss (P := Tryz.prog) (w := w.drew) (a := ⟨b, o, none⟩) Tryz.func120 (by kernel_rfl) (by kernel_rfl) (by kernel_rfl) .u32 (by kernel_rfl) (x := 1) (o := 0) (y := 1) hc hf (by omega)
  go_enter Tryz.func105, Tryz.ntmps105
  go_wp2_with fail
  go_region_with (go_at_call 121; refine (b32_any _ _).mono ?_; rintro e w' ⟨rfl, rfl⟩)
  all_goals go_wp2_with fail
  all_goals go_ret
  all_goals exact ⟨rfl, 1, rfl⟩

theorem raise_any (b o : Nat) (r : Bool) (w : World) (hc : w.cell? ⟨b, o, none⟩ = some (.int .u32 (up r))) (hf : w.frozen? ⟨b, o, none⟩ = false) :
    Calls Tryz.prog 81 #[.pointer (some ⟨b, o, none⟩)] w fun e w' => e = .returned (.bool (!r)) ∧ Below w.heap.size (w.setCell ⟨b, o, none⟩ (.int .u32 1)) w' := by
  cases r
  · go_enter Tryz.func81, Tryz.ntmps81
    go_wp2_with fail
    refine (casb_no b o w hc hf).mono ?_
    rintro e w' ⟨rfl, k, rfl⟩
    go_wp2_with fail
    go_ret
    exact ⟨rfl, Below.drewN (Below.refl _ _) k⟩
  · go_enter Tryz.func81, Tryz.ntmps81
    go_wp2_with fail
    refine (casb_yes b o w hc hf).mono ?_
    rintro e w' ⟨rfl, k, rfl⟩
    go_wp2_with fail
    go_ret
    refine ⟨rfl, ?_⟩
    rw [show w.setCell ⟨b, o, none⟩ (.int .u32 1) = w from setCell_self hc]
    exact Below.drewN (Below.refl _ _) k

theorem raised_any (b o : Nat) (r : Bool) (w : World) (hc : w.cell? ⟨b, o, none⟩ = some (.int .u32 (up r))) :
    Calls Tryz.prog 64 #[.pointer (some ⟨b, o, none⟩)] w fun e w' => e = .returned (.bool r) ∧ w = w' := by
  have hl := run_call_load (P := Tryz.prog) Tryz.func112 (by kernel_rfl) (by kernel_rfl) (by kernel_rfl) .u32 (by kernel_rfl) hc
  cases r <;>
  · go_enter Tryz.func64, Tryz.ntmps64
    go_wp2
    go_ret
    exact ⟨rfl, rfl⟩

end Go.Proofs.YtleoelhhndeheaaGreat
