import Derived.Test.YtleoelhhndeheaaGreatRow
import Derived.Laws.BytesArg
import Derived.Lib.SlBytesConst
import Derived.Test.YtleoelhhndeheaaGreatProg
import Derived.Test.YtleoelhhndeheaaGreatBase
import Derived.Test.YtleoelhhndeheaaGreatAppRow
import Derived.Deep.AppendLies
import Derived.Deep.RegionHeldLaw
/- bytes as text -/
open Go Go.RowKit
namespace Go.Proofs.YtleoelhhndeheaaGreat

theorem conv_row {P : Program} {w : World} {src e dst : TypeId} (hs : P.underlying src = some (.slice e)) (he : P.underlying e = some (.int .u8)) (hd : P.underlying dst = some .string) {a : Option Addr} {len : Nat} (cap : Nat) {zs : List Int} (h : Row w a (B8 zs)) (hl : zs.length = len) :
    (convert src dst (.slice a len cap)).run P w = .ok (.string (strOfNums zs)) w := by
  cases a with
  | none =>
    have : zs = [] := by
      rcases Nat.eq_zero_or_pos zs.length with h0 | h0
      · exact List.eq_nil_of_length_eq_zero h0
      · have := h.nn (by simpa using h0); cases this
    subst this
    subst hl
    rw [run_convert_bytes_nil (P := P) w src e hs he _ _ dst hd]
    rfl
  | some x =>
    rcases Nat.eq_zero_or_pos zs.length with h0 | h0
    · have : zs = [] := List.eq_nil_of_length_eq_zero h0
      subst this
      subst hl
      rw [run_convert_bytes_string w src dst e _ _ cap hs he hd, run_bytesToString w x _ cap [] (by rfl)]
      rfl
    · have hx := h.nn (by simpa using h0)
      rw [hx]
      refine run_convert_bytes_arg w src e hs he (sB (some x)) (sO (some x)) len cap zs hl (fun i hi => ?_) dst hd
      rw [h.byte (by omega), List.getD_eq_getElem?_getD]

theorem str_eq {xs ys : List Int} (hx : IsBytes xs) (hy : IsBytes ys) : ((strOfNums xs).toList == (strOfNums ys).toList) = decide (xs = ys) := by
  rw [Bool.eq_iff_iff, beq_iff_eq, decide_eq_true_iff]
  constructor
  · intro h
    have h1 : (strOfNums xs).data.toList = (strOfNums ys).data.toList := by rw [← Lib.toList_data, ← Lib.toList_data, h]
    rw [strOfNums_data, strOfNums_data] at h1
    have hl : xs.length = ys.length := by simpa using congrArg List.length h1
    apply List.ext_getElem hl
    intro i hi1 hi2
    have h2 := congrArg (fun l => l[i]?) h1
    simp only [List.getElem?_map, List.getElem?_eq_getElem hi1, List.getElem?_eq_getElem hi2, Option.map_some, Option.some.injEq] at h2
    have b1 := hx _ (List.getElem_mem hi1)
    have b2 := hy _ (List.getElem_mem hi2)
    have h3 := congrArg UInt8.toNat h2
    rw [UInt8.toNat_ofNat', UInt8.toNat_ofNat'] at h3
    omega
  · rintro rfl; rfl

theorem row_new_mark (w : World) (c : Array Value) (t : TypeId) (f : Nat × Nat) : Row (w.alloc (.cells c t f)) (some ⟨w.heap.size, 0, none⟩) c.toList := by
  refine ⟨fun _ => rfl, fun i v hv => ?_⟩
  rw [Array.getElem?_toList] at hv
  show (w.alloc (.cells c t f)).cell? ⟨w.heap.size, 0 + i, none⟩ = some v
  rw [Nat.zero_add]
  exact blk_cell (blk_new w _) hv

end Go.Proofs.YtleoelhhndeheaaGreat

/- lariathand.Pick and other small functions of the statements -/
open Go Go.RowKit
namespace Go.Proofs.YtleoelhhndeheaaGreat

theorem pick_emod (n m : Int) (hm : 0 < m) : (if n.tmod m < 0 then n.tmod m + m else n.tmod m) = n % m := by
  rcases Int.le_total 0 n with h | h
  · rw [Int.tmod_eq_emod_of_nonneg h, if_neg (by have := Int.emod_nonneg n (by omega : m ≠ 0); omega)]
  · have h1 := Int.tmod_eq_emod (a := n) (b := m)
    have h2 := Int.emod_nonneg n (by omega : m ≠ 0)
    have h3 := Int.emod_lt_of_pos n hm
    rw [h1]
    have e : ((m.natAbs : Int)) = m := by omega
    split <;> split <;> omega

set_option maxRecDepth 100000 in
theorem pick_any (n m : Int) (w : World) (hn : -9223372036854775808 ≤ n ∧ n ≤ 9223372036854775807) (hm : 0 < m) (hm2 : m ≤ 1000000000) :
    Calls Tryz.prog 12 #[.int .i64 n, .int .i64 m] w fun e w' => e = .returned (.int .i64 (n % m)) ∧ w = w' := by
  have b1 : -m < n.tmod m ∧ n.tmod m < m := by
    have h1 := Int.tmod_lt_of_pos n hm
    have h2 := Int.lt_tmod_of_pos n hm
    omega
  have hp := hid (pick_emod n m hm)
  have hm0 : (m == 0) = false := by simp; omega
  by_cases h : n.tmod m < 0
  · go_enter Tryz.func12, Tryz.ntmps12
    go_wp2_with fail
    go_ret
    exact ⟨ret_int (by rw [← hp.out, if_pos h]), rfl⟩
  · go_enter Tryz.func12, Tryz.ntmps12
    go_wp2_with fail
    go_ret
    exact ⟨ret_int (by rw [← hp.out, if_neg (Int.not_lt.2 h)]), rfl⟩

end Go.Proofs.YtleoelhhndeheaaGreat

/- append of a row, nil too, at a step of a region that draws -/
open Go Go.RowKit
namespace Go.Proofs.YtleoelhhndeheaaGreat

theorem step_append_row {P : Program} {ops : Array Oper} {o : Oper} {act : Act} {w : World} {K : Act → World → Prop} {Q : Exit → Act → World → Prop} {E : Prop} (hgd : o.guard = none) (s x : Operand) (t : TypeId)
    (ho : o.op = .call { callee := .builtin .append, args := #[s, x], argTypes := #[t, t] })
    (base : Nat) (e : TypeId) (i : TypeInfo) (z : Value) (ht : P.underlying t = some (.slice e)) (hi : P.info? e = some i) (hz : i.zero = some z)
    (hsize : i.size = 1) (hby : i.bytes ≤ 24) (hzs : z.cells.size = 1)
    (v : Value) (n : Nat) (xs : List Value) (hs : act.eval s = v) (hown : w.ownsRow base e 1 v n xs)
    (a : Option Addr) (m c : Nat) (news : List Value) (hx : act.eval x = .slice a m c) (hr : Row w a news) (hl : news.length = m) (hn : a = none → m = 0 ∧ c = 0) (h1 : ∀ u ∈ news, u.oneCell' = true)
    (h63 : n + m ≤ maxLen) (hbytes : (n + m) * i.bytes ≤ 140737488355328) (hbase : base ≤ w.heap.size)
    (h : ∀ v' w', w'.ownsRow base e 1 v' (n + m) (xs ++ news) → w.grownBy w' v.ownBlock → K (act.put o.dst v') w') :
    if Region.wanted o (yielded ops act.tmps) = true then Oper.wp P o act w K Q else E := by
  have hw : Region.wanted o (yielded ops act.tmps) = true := by simp [Region.wanted, hgd]
  rw [if_pos hw]
  cases a with
  | none =>
    obtain ⟨rfl, rfl⟩ := hn rfl
    have : news = [] := List.eq_nil_of_length_eq_zero hl
    subst this
    have hrun := run_append_owned_none (P := P) (w := w) base t o.type e i 1 ht hi v n xs hown
    unfold Oper.wp
    simp [execOp, ho, resolve, invoke, builtin, hs, hx, hrun, Result.andThen]
    exact h v w (by simpa using hown) (World.grownBy.refl _ _)
  | some ad =>
    exact wp_append_own w s x t ho base e i z 1 i.bytes ht hi hz hsize rfl hzs (by decide) v n xs hs hown ad m c news hx (by omega) hr.news h1 h63 hbytes hbase (fun v' w' h2 h3 _ => h v' w' h2 h3)

theorem own_base {w : World} {base : Nat} {E : TypeId} {sz : Nat} {v : Value} {n : Nat} {xs : List Value} (h : w.ownsRow base E sz v n xs) : ∀ k, v.ownBlock = some k → base ≤ k := by
  intro k hk
  rcases h.2 with ⟨h2, _⟩ | ⟨g, cap, cur, hv, hg, _⟩
  · subst h2; cases hk
  · subst hv; cases hk; exact hg
/-- the same, and what lies below the base stays -/
theorem step_append_rowB {P : Program} {ops : Array Oper} {o : Oper} {act : Act} {w : World} {K : Act → World → Prop} {Q : Exit → Act → World → Prop} {E : Prop} (hgd : o.guard = none) (s x : Operand) (t : TypeId)
    (ho : o.op = .call { callee := .builtin .append, args := #[s, x], argTypes := #[t, t] })
    (base : Nat) (e : TypeId) (i : TypeInfo) (z : Value) (ht : P.underlying t = some (.slice e)) (hi : P.info? e = some i) (hz : i.zero = some z)
    (hsize : i.size = 1) (hby : i.bytes ≤ 24) (hzs : z.cells.size = 1)
    (v : Value) (n : Nat) (xs : List Value) (hs : act.eval s = v) (hown : w.ownsRow base e 1 v n xs)
    (a : Option Addr) (m c : Nat) (news : List Value) (hx : act.eval x = .slice a m c) (hr : Row w a news) (hl : news.length = m) (hn : a = none → m = 0 ∧ c = 0) (h1 : ∀ u ∈ news, u.oneCell' = true)
    (h63 : n + m ≤ maxLen) (hbytes : (n + m) * i.bytes ≤ 140737488355328) (hbase : base ≤ w.heap.size)
    (h : ∀ v' w', w'.ownsRow base e 1 v' (n + m) (xs ++ news) → Below base w w' → w.grownBy w' v.ownBlock → K (act.put o.dst v') w') :
    if Region.wanted o (yielded ops act.tmps) = true then Oper.wp P o act w K Q else E :=
  step_append_row hgd s x t ho base e i z ht hi hz hsize hby hzs v n xs hs hown a m c news hx hr hl hn h1 h63 hbytes hbase fun v' w' h2 h3 => h v' w' h2 ((Below.refl _ _).grown h3 hbase (own_base hown)) h3

theorem Row.grownE {w w' : World} {a : Option Addr} {vs : List Value} {row : Option Nat} (h : Row w a vs) (hg : w.grownBy w' row) (hne : row ≠ some (sB a)) : Row w' a vs :=
  h.keep fun hl => hg.block _ (h.lt hl) (fun e => hne e.symm)
theorem own_some {w : World} {base : Nat} {E : TypeId} {v : Value} {n m : Nat} {xs : List Value} (h : w.ownsRow base E 1 v n xs) (hn : n = m ∧ 0 < m) : ∃ g c, v = .slice (some ⟨g, 0, none⟩) m c := by
  obtain ⟨rfl, h0⟩ := hn
  rcases h.2 with ⟨h2, h3⟩ | ⟨g, cap, cur, hv, _⟩
  · subst h3
    have := h.1
    simp at this
    omega
  · exact ⟨g, cap, hv⟩

end Go.Proofs.YtleoelhhndeheaaGreat
