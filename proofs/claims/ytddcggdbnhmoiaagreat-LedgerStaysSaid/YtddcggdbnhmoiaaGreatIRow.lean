/- rows of ints: []int of one's own -/
import Derived.Test.YtddcggdbnhmoiaaGreatProg
import Derived.Test.YtddcggdbnhmoiaaGreatAppRow
import Derived.Test.YtddcggdbnhmoiaaGreatArgs
import Derived.Lib.SliceRun
open Go Go.RowKit
namespace Go.Proofs.YtddcggdbnhmoiaaGreat

theorem iI : (Tryz.prog.info? 3).map (fun i => (i.zero, i.size, i.bytes)) = some (some (.int .i64 0), 1, 8) := by kernel_rfl
theorem szI : (Tryz.prog.info? 3).map (·.size) = some 1 := by kernel_rfl

abbrev I8 (zs : List Int) : List Value := zs.map (Value.int .i64)
theorem I8_length (zs : List Int) : (I8 zs).length = zs.length := by simp
theorem I8_one (zs : List Int) : ∀ u ∈ I8 zs, u.oneCell' = true := by
  intro u hu
  obtain ⟨z, _, rfl⟩ := List.mem_map.1 hu
  rfl
theorem Row.num {w : World} {a : Option Addr} {zs : List Int} (h : Row w a (I8 zs)) {i : Nat} (hi : i < zs.length) : w.cell? ⟨sB a, sO a + i, none⟩ = some (.int .i64 (zs[i]?.getD 0)) := by
  refine h.cell i _ ?_
  simp [I8, List.getElem?_map, List.getElem?_eq_getElem hi]
theorem I8_get {zs : List Int} {i : Nat} (hi : i < zs.length) : (I8 zs)[i]? = some (.int .i64 (zs[i]?.getD 0)) := by
  simp [I8, List.getElem?_map, List.getElem?_eq_getElem hi]
theorem I8_set (zs : List Int) (i : Nat) (x : Int) : (I8 zs).set i (.int .i64 x) = I8 (zs.set i x) := by rw [I8, I8, List.map_set]
theorem I8_append (xs ys : List Int) : I8 xs ++ I8 ys = I8 (xs ++ ys) := by rw [I8, I8, I8, List.map_append]

/-- a list of numbers of 64 bits -/
def IsNums (zs : List Int) : Prop := ∀ n ∈ zs, -9223372036854775808 ≤ n ∧ n ≤ 9223372036854775807
theorem IsNums.get {zs : List Int} (h : IsNums zs) (i : Nat) : -9223372036854775808 ≤ zs[i]?.getD 0 ∧ zs[i]?.getD 0 ≤ 9223372036854775807 := by
  cases hi : zs[i]? with
  | none => simp
  | some x => exact h x (List.mem_of_getElem? hi)

end Go.Proofs.YtddcggdbnhmoiaaGreat
