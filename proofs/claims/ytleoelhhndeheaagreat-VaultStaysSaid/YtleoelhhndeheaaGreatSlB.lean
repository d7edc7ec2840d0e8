/- package slices at []byte: Clone, Equal -/
import Derived.Test.YtleoelhhndeheaaGreatProg
import Derived.Test.YtleoelhhndeheaaGreatRow
import Derived.Lib.AppendZeros
open Go Go.RowKit
namespace Go.Proofs.YtleoelhhndeheaaGreat

theorem iB : (Tryz.prog.info? 5).map (fun i => (i.zero, i.size, i.bytes)) = some (some (.int .u8 0), 1, 1) := by kernel_rfl
theorem szB : (Tryz.prog.info? 5).map (·.size) = some 1 := by kernel_rfl

theorem cloneB_any (a : Option Addr) (len cap : Nat) (zs : List Int) (w : World) (h : Row w a (B8 zs)) (hl : zs.length = len) (hn : a = none → len = 0) (hb : len ≤ 140737488355328) :
    Calls Tryz.prog 43 #[.slice a len cap] w fun e w' => ∃ v, e = .returned v ∧ w'.ownsRow w.heap.size 5 1 v len (B8 zs) ∧ Below w.heap.size w w' := by
  have heq := fun w1 => Lib.run_eql_slice_nil (P := Tryz.prog) w1 27 5 a len cap 0 0 Tryz.underlying27
  cases a with
  | none =>
    obtain rfl := hn rfl
    have : zs = [] := List.eq_nil_of_length_eq_zero hl
    subst this
    go_enter Tryz.func43, Tryz.ntmps43
    go_wp2_with fail
    go_ret
    exact ⟨_, rfl, World.ownsRow_nil _ _ _ _, Below.refl _ _⟩
  | some x =>
    obtain ⟨i0, hi, hz0, hz1, hz2⟩ := info_parts iB
    have hnews := fun o => (h.alloc o).news
    have HL := hid hl
    have hlen : (B8 zs).length = len * 1 := by simp [hl]
    have hown : (w.alloc (.cells #[] 5)).ownsRow w.heap.size 5 1 (.slice (some ⟨w.heap.size, 0, none⟩) 0 0) 0 [] := World.ownsRow_lit w #[] 0 (Nat.le_refl _) (by simp [maxLen]) rfl
    clear hl
    go_enter Tryz.func43, Tryz.ntmps43
    go_wp2_with (at_builtin; refine wpList_append_own _ rfl _ _ 27 rfl w.heap.size 5 i0 (.int .u8 0) 1 1 Tryz.underlying27 hi hz0 hz1 hz2 rfl (by decide) _ 0 [] rfl hown x len cap (B8 zs) rfl hlen (hnews _) (B8_one _) ?c3 ?c4 ?c5 ?_)
    case c3 => simp only [maxLen]; omega
    case c4 => omega
    case c5 => simp
    intro v' w1 ho hg _
    have hB : Below w.heap.size w w1 := ((Below.refl _ _).alloc (Nat.le_refl _) _).grown hg (by simp) (by rintro k hk; cases hk; exact Nat.le_refl _)
    clear hg
    go_wp2_with fail
    go_ret
    exact ⟨_, rfl, ho, hB⟩

set_option maxRecDepth 100000 in
theorem growB_nil (n : Nat) (w : World) (hn : n ≤ 140737488355328) :
    Calls Tryz.prog 97 #[.slice none 0 0, .int .i64 n] w fun e w' => ∃ v, e = .returned v ∧ w'.ownsRow w.heap.size 5 1 v 0 [] ∧ Below w.heap.size w w' := by
  obtain ⟨i0, hi, hz0, hz1, hz2⟩ := info_parts iB
  by_cases h0 : 0 < n
  · have hr := fun ty => Lib.run_append_nil_zeros (P := Tryz.prog) w 27 3 ty 5 i0 (.int .u8 0) .i64 .i64 Tryz.underlying27 Tryz.underlying3 hi hz0 n h0 (by rw [hz1]; decide) (by omega) (by rw [hz2]; omega)
    have hcap := grownCap_ge w n 0 5
    have hcm := grownCap_le_maxLen w n 0 5 (by simp only [maxLen]; omega)
    generalize grownCap w n 0 5 = cap at *
    have hown : (w.drew.alloc (.cells (Builtin.zeroCells (Value.int IntKind.u8 0).cells n ++ Builtin.zeroCells (Value.int IntKind.u8 0).cells (cap - n)) 5)).ownsRow w.heap.size 5 1 (.slice (some ⟨w.heap.size, 0, none⟩) 0 cap) 0 [] := by
      have := World.ownsRow_made (base := w.heap.size) (e := 5) (size := 1) w.drew (Builtin.zeroCells (Value.int IntKind.u8 0).cells n ++ Builtin.zeroCells (Value.int IntKind.u8 0).cells (cap - n)) cap (Nat.le_refl _) hcm (by rw [Array.size_append, size_zeroCells, size_zeroCells, show (Value.int IntKind.u8 0).cells.size = 1 from rfl]; omega)
      exact this
    go_enter Tryz.func97, Tryz.ntmps97
    go_wp2_with (at_builtin; refine Lib.wpList_append_run _ rfl _ _ 27 3 rfl _ _ rfl rfl _ _ (hr _) ?_)
    go_ret
    exact ⟨_, rfl, hown, ((Below.refl _ _).drew).alloc (Nat.le_refl _) _⟩
  · have : n = 0 := by omega
    subst this
    go_enter Tryz.func97, Tryz.ntmps97
    go_wp2_with fail
    go_ret
    exact ⟨_, rfl, World.ownsRow_nil _ _ _ _, Below.refl _ _⟩

set_option maxHeartbeats 1000000 in
/-- Equal: of one length, byte by byte -/
theorem equalB_any (a b : Option Addr) (la lb ca cb : Nat) (xs ys : List Int) (w : World) (ha : Row w a (B8 xs)) (hb : Row w b (B8 ys)) (hla : xs.length = la) (hlb : ys.length = lb) (hm : la ≤ 140737488355328) (bx : IsBytes xs) (by' : IsBytes ys) :
    Calls Tryz.prog 40 #[.slice a la ca, .slice b lb cb] w fun e w' => e = .returned (.bool (decide (xs = ys))) ∧ ∃ n, w' = w.drewN n := by
  have hixa := fun k (hk : k < la) => idx_at1 (P := Tryz.prog) (T := 27) Tryz.underlying27 szB (cap := ca) (fun h => ha.nn (by simp; omega)) hk
  have hixb := fun k (hk : k < lb) => idx_at1 (P := Tryz.prog) (T := 27) Tryz.underlying27 szB (cap := cb) (fun h => hb.nn (by simp; omega)) hk
  by_cases hl : la = lb
  · subst hl
    have HX := hid hla
    have HY := hid hlb
    clear hla hlb
    go_enter Tryz.func40, Tryz.ntmps40
    go_wp2_with fail
    go_loopw [13] (fun i wr => ∃ k : Nat, k ≤ la ∧ i = .int .i64 k ∧ Hid (xs.take k = ys.take k) ∧ Drw w wr) (fun i _ => la - (intOf i).toNat)
    case atStart => exact ⟨0, by omega, rfl, rfl, Drw.refl _⟩
    case round =>
      obtain ⟨k, hk, rfl, hE, q, rfl⟩ := hrel
      by_cases hlt : k < la
      · have hixa := hixa k hlt
        have hixb := hixb k hlt
        have hca := ha.byte (i := k) (by rw [HX.out]; exact hlt)
        have hcb := hb.byte (i := k) (by rw [HY.out]; exact hlt)
        have tx : xs.take (k + 1) = xs.take k ++ [xs[k]?.getD 0] := by
          rw [List.take_add_one, List.getElem?_eq_getElem (by rw [HX.out]; exact hlt)]; rfl
        have ty : ys.take (k + 1) = ys.take k ++ [ys[k]?.getD 0] := by
          rw [List.take_add_one, List.getElem?_eq_getElem (by rw [HY.out]; exact hlt)]; rfl
        have TX := hid tx
        have TY := hid ty
        clear tx ty
        go_wp2_with fail
        go_quiet (fail)
        by_cases hc : xs[k]?.getD 0 = ys[k]?.getD 0
        · have hd : (xs[k]?.getD 0 != ys[k]?.getD 0) = false := by simp [hc]
          have HC := hid hc
          clear hc
          go_wp2_with fail
          go_roundw
          case rel => exact ⟨k + 1, by omega, by go_num, by show xs.take (k+1) = ys.take (k+1); rw [TX.out, TY.out, hE.out, HC.out], _, rfl⟩
          case measure => simp [intOf]; omega
        · have hd : (xs[k]?.getD 0 != ys[k]?.getD 0) = true := by simp [hc]
          have HC := hid hc
          clear hc
          go_wp2_with fail
          go_ret
          refine ⟨ret_bool ?_, _, World.drewN_drewN _ _ _⟩
          rw [eq_comm, decide_eq_false_iff_not]
          intro h; exact HC.out (by rw [h])
      · obtain rfl : k = la := by omega
        go_wp2_with fail
        go_ret
        refine ⟨ret_bool ?_, _, rfl⟩
        rw [eq_comm, decide_eq_true_iff]
        have := hE.out
        rwa [List.take_of_length_le (by rw [HX.out]; exact Nat.le_refl _), List.take_of_length_le (by rw [HY.out]; exact Nat.le_refl _)] at this
  · go_enter Tryz.func40, Tryz.ntmps40
    go_wp2_with fail
    go_ret
    refine ⟨ret_bool ?_, 0, rfl⟩
    rw [eq_comm, decide_eq_false_iff_not]
    intro h; apply hl; rw [← hla, ← hlb, h]

end Go.Proofs.YtleoelhhndeheaaGreat
