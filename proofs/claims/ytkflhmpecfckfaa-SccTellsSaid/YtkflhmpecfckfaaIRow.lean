/- rows of ints: []int of one's own -/
import Derived.Test.YtkflhmpecfckfaaProg
import Derived.Test.YtkflhmpecfckfaaAppRow
import Derived.Test.YtkflhmpecfckfaaArgs
import Derived.Lib.SliceRun
open Go Go.RowKit
namespace Go.Proofs.Ytkflhmpecfckfaa

theorem iI : (Try.prog.info? 3).map (fun i => (i.zero, i.size, i.bytes)) = some (some (.int .i64 0), 1, 8) := by kernel_rfl
theorem szI : (Try.prog.info? 3).map (·.size) = some 1 := by kernel_rfl

abbrev I8 (zs : List Int) : List Value := zs.map (Value.int .i64)
theorem I8_length (zs : List Int) : (I8 zs).length = zs.length := by simp
theorem I8_one (zs : List Int) : ∀ u ∈ I8 zs, u.oneCell' = true := by
  intro u hu
  obtain ⟨z, _, rfl⟩ := List.mem_map.1 hu
  rfl
theorem Row.num {w : World} {a : Option Addr} {zs : List Int} (h : Row w a (I8 zs)) {i : Nat} (hi : i < zs.length) : w.cell? ⟨sB a, sO a + i, none⟩ = some (.int .i64 (zs[i]?.getD 0)) := by
  refine h.cell i _ ?_
  simp [I8, List.getElem?_map, List.getElem?_eq_getElem hi]
theorem I8_get {zs : List Int} {i : Nat} (hi : i < zs.length) : (I8 zs)[i]? = some (.int .i64 (zs[i]?.getD 0)) := by
  simp [I8, List.getElem?_map, List.getElem?_eq_getElem hi]
theorem I8_set (zs : List Int) (i : Nat) (x : Int) : (I8 zs).set i (.int .i64 x) = I8 (zs.set i x) := by rw [I8, I8, List.map_set]
theorem I8_append (xs ys : List Int) : I8 xs ++ I8 ys = I8 (xs ++ ys) := by rw [I8, I8, I8, List.map_append]

/-- a list of numbers of 64 bits -/
def IsNums (zs : List Int) : Prop := ∀ n ∈ zs, -9223372036854775808 ≤ n ∧ n ≤ 9223372036854775807
theorem IsNums.get {zs : List Int} (h : IsNums zs) (i : Nat) : -9223372036854775808 ≤ zs[i]?.getD 0 ∧ zs[i]?.getD 0 ≤ 9223372036854775807 := by
  cases hi : zs[i]? with
  | none => simp
  | some x => exact h x (List.mem_of_getElem? hi)

theorem cloneI_any (a : Option Addr) (len cap : Nat) (zs : List Int) (w : World) (h : Row w a (I8 zs)) (hl : zs.length = len) (hn : a = none → len = 0 ∧ cap = 0) (hb : len ≤ 1000000) :
    Calls Try.prog 22 #[.slice a len cap] w fun e w' => ∃ v, e = .returned v ∧ w'.ownsRow w.heap.size 3 1 v len (I8 zs) ∧ Below w.heap.size w w' := by
  have heq := fun w1 => Lib.run_eql_slice_nil (P := Try.prog) w1 29 3 a len cap 0 0 Try.underlying29
  cases a with
  | none =>
    obtain ⟨rfl, rfl⟩ := hn rfl
    have : zs = [] := List.eq_nil_of_length_eq_zero hl
    subst this
    go_enter Try.func22, Try.ntmps22
    go_wp2_with fail
    go_ret
    exact ⟨_, rfl, World.ownsRow_nil _ _ _ _, Below.refl _ _⟩
  | some x =>
    obtain ⟨i0, hi, hz0, hz1, hz2⟩ := info_parts iI
    have HL := hid hl
    have hlen : (I8 zs).length = len := by simp [hl]
    have hown : (w.alloc (.cells #[] 3)).ownsRow w.heap.size 3 1 (.slice (some ⟨w.heap.size, 0, none⟩) 0 0) 0 [] := World.ownsRow_lit w #[] 0 (Nat.le_refl _) (by simp [maxLen]) rfl
    clear hl
    go_enter Try.func22, Try.ntmps22
    go_wp2_with (at_builtin; refine wpList_append_row rfl _ _ 29 rfl w.heap.size 3 i0 (.int .i64 0) Try.underlying29 hi hz0 hz1 (by omega) rfl _ 0 [] rfl hown (some x) len cap (I8 zs) rfl (h.alloc _) hlen (fun h => by cases h) (I8_one _) ?c4 ?c5 ?_)
    case c4 => omega
    case c5 => simp
    intro v' w1 ho hg _
    have hB : Below w.heap.size w w1 := ((Below.refl _ _).alloc (Nat.le_refl _) _).trans hg
    clear hg
    go_wp2_with fail
    go_ret
    exact ⟨_, rfl, by simpa using ho, hB⟩

end Go.Proofs.Ytkflhmpecfckfaa
