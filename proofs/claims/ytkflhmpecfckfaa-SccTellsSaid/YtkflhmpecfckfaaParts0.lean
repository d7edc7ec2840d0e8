/- scc.Parts: the finder is made -/
import Derived.Test.YtkflhmpecfckfaaFin
import Derived.Deep.DeepCutAuto
open Go Go.RowKit
namespace Go.Proofs.Ytkflhmpecfckfaa

theorem iB : (Try.prog.info? 4).map (fun i => (i.zero, i.size, i.bytes)) = some (some (.bool false), 1, 1) := by kernel_rfl
theorem madeI (n : Nat) : (madeCells #[Value.int .i64 0] n) = (tab n fun _ => 0).toArray := by
  apply Array.toList_inj.1
  rw [toList_madeCells_one]
  apply List.ext_getElem (by simp [tab])
  intro i h1 h2
  simp [tab]
theorem madeB (n : Nat) : (madeCells #[Value.bool false] n) = (tabB n fun _ => false).toArray := by
  apply Array.toList_inj.1
  rw [toList_madeCells_one]
  apply List.ext_getElem (by simp [tabB])
  intro i h1 h2
  simp [tabB]
theorem mkI {n : Nat} (hn : n ≤ 1000000) (W : World) : (Instr.makeSlice 29 (.int .i64 (n : Int)) (.int .i64 (n : Int))).run Try.prog W = .ok (.slice (some ⟨W.heap.size, 0, none⟩) n n) (W.alloc (.cells (tab n fun _ => 0).toArray 3)) := by
  obtain ⟨i, hi, hz, hs, hb⟩ := info_parts iI
  have hr := run_make (P := Try.prog) W 29 3 i (.int .i64 0) Try.underlying29 hi hz .i64 .i64 n n (by omega) (Int.le_refl _) (by rw [hb]; omega) (by omega)
  rw [hs] at hr
  simp only [Int.toNat_natCast, Nat.mul_one] at hr
  rw [hr]
  rw [← madeI]; rfl
theorem mkB {n : Nat} (hn : n ≤ 1000000) (W : World) : (Instr.makeSlice 23 (.int .i64 (n : Int)) (.int .i64 (n : Int))).run Try.prog W = .ok (.slice (some ⟨W.heap.size, 0, none⟩) n n) (W.alloc (.cells (tabB n fun _ => false).toArray 4)) := by
  obtain ⟨i, hi, hz, hs, hb⟩ := info_parts iB
  have hr := run_make (P := Try.prog) W 23 4 i (.bool false) Try.underlying23 hi hz .i64 .i64 n n (by omega) (Int.le_refl _) (by rw [hb]; omega) (by omega)
  rw [hs] at hr
  simp only [Int.toNat_natCast, Nat.mul_one] at hr
  rw [hr]
  rw [← madeB]; rfl

end Go.Proofs.Ytkflhmpecfckfaa
