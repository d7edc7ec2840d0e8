/- append of a row, nil too, at a step of a region that draws -/
import Derived.Test.YtleoelhhndeheaaGreatAppRow
import Derived.Deep.AppendLies
import Derived.Deep.RegionHeldLaw
open Go Go.RowKit
namespace Go.Proofs.YtleoelhhndeheaaGreat

theorem step_append_row {P : Program} {ops : Array Oper} {o : Oper} {act : Act} {w : World} {K : Act → World → Prop} {Q : Exit → Act → World → Prop} {E : Prop} (hgd : o.guard = none) (s x : Operand) (t : TypeId)
    (ho : o.op = .call { callee := .builtin .append, args := #[s, x], argTypes := #[t, t] })
    (base : Nat) (e : TypeId) (i : TypeInfo) (z : Value) (ht : P.underlying t = some (.slice e)) (hi : P.info? e = some i) (hz : i.zero = some z)
    (hsize : i.size = 1) (hby : i.bytes ≤ 24) (hzs : z.cells.size = 1)
    (v : Value) (n : Nat) (xs : List Value) (hs : act.eval s = v) (hown : w.ownsRow base e 1 v n xs)
    (a : Option Addr) (m c : Nat) (news : List Value) (hx : act.eval x = .slice a m c) (hr : Row w a news) (hl : news.length = m) (hn : a = none → m = 0 ∧ c = 0) (h1 : ∀ u ∈ news, u.oneCell' = true)
    (h63 : n + m ≤ maxLen) (hbytes : (n + m) * i.bytes ≤ 140737488355328) (hbase : base ≤ w.heap.size)
    (h : ∀ v' w', w'.ownsRow base e 1 v' (n + m) (xs ++ news) → w.grownBy w' v.ownBlock → K (act.put o.dst v') w') :
    if Region.wanted o (yielded ops act.tmps) = true then Oper.wp P o act w K Q else E := by
  have hw : Region.wanted o (yielded ops act.tmps) = true := by simp [Region.wanted, hgd]
  rw [if_pos hw]
  cases a with
  | none =>
    obtain ⟨rfl, rfl⟩ := hn rfl
    have : news = [] := List.eq_nil_of_length_eq_zero hl
    subst this
    have hrun := run_append_owned_none (P := P) (w := w) base t o.type e i 1 ht hi v n xs hown
    unfold Oper.wp
    simp [execOp, ho, resolve, invoke, builtin, hs, hx, hrun, Result.andThen]
    exact h v w (by simpa using hown) (World.grownBy.refl _ _)
  | some ad =>
    exact wp_append_own w s x t ho base e i z 1 i.bytes ht hi hz hsize rfl hzs (by decide) v n xs hs hown ad m c news hx (by omega) hr.news h1 h63 hbytes hbase (fun v' w' h2 h3 _ => h v' w' h2 h3)

theorem own_base {w : World} {base : Nat} {E : TypeId} {sz : Nat} {v : Value} {n : Nat} {xs : List Value} (h : w.ownsRow base E sz v n xs) : ∀ k, v.ownBlock = some k → base ≤ k := by
  intro k hk
  rcases h.2 with ⟨h2, _⟩ | ⟨g, cap, cur, hv, hg, _⟩
  · subst h2; cases hk
  · subst hv; cases hk; exact hg
/-- the same, and what lies below the base stays -/
theorem step_append_rowB {P : Program} {ops : Array Oper} {o : Oper} {act : Act} {w : World} {K : Act → World → Prop} {Q : Exit → Act → World → Prop} {E : Prop} (hgd : o.guard = none) (s x : Operand) (t : TypeId)
    (ho : o.op = .call { callee := .builtin .append, args := #[s, x], argTypes := #[t, t] })
    (base : Nat) (e : TypeId) (i : TypeInfo) (z : Value) (ht : P.underlying t = some (.slice e)) (hi : P.info? e = some i) (hz : i.zero = some z)
    (hsize : i.size = 1) (hby : i.bytes ≤ 24) (hzs : z.cells.size = 1)
    (v : Value) (n : Nat) (xs : List Value) (hs : act.eval s = v) (hown : w.ownsRow base e 1 v n xs)
    (a : Option Addr) (m c : Nat) (news : List Value) (hx : act.eval x = .slice a m c) (hr : Row w a news) (hl : news.length = m) (hn : a = none → m = 0 ∧ c = 0) (h1 : ∀ u ∈ news, u.oneCell' = true)
    (h63 : n + m ≤ maxLen) (hbytes : (n + m) * i.bytes ≤ 140737488355328) (hbase : base ≤ w.heap.size)
    (h : ∀ v' w', w'.ownsRow base e 1 v' (n + m) (xs ++ news) → Below base w w' → w.grownBy w' v.ownBlock → K (act.put o.dst v') w') :
    if Region.wanted o (yielded ops act.tmps) = true then Oper.wp P o act w K Q else E :=
  step_append_row hgd s x t ho base e i z ht hi hz hsize hby hzs v n xs hs hown a m c news hx hr hl hn h1 h63 hbytes hbase fun v' w' h2 h3 => h v' w' h2 ((Below.refl _ _).grown h3 hbase (own_base hown)) h3

theorem Row.grownE {w w' : World} {a : Option Addr} {vs : List Value} {row : Option Nat} (h : Row w a vs) (hg : w.grownBy w' row) (hne : row ≠ some (sB a)) : Row w' a vs :=
  h.keep fun hl => hg.block _ (h.lt hl) (fun e => hne e.symm)
theorem own_some {w : World} {base : Nat} {E : TypeId} {v : Value} {n m : Nat} {xs : List Value} (h : w.ownsRow base E 1 v n xs) (hn : n = m ∧ 0 < m) : ∃ g c, v = .slice (some ⟨g, 0, none⟩) m c := by
  obtain ⟨rfl, h0⟩ := hn
  rcases h.2 with ⟨h2, h3⟩ | ⟨g, cap, cur, hv, _⟩
  · subst h3
    have := h.1
    simp at this
    omega
  · exact ⟨g, cap, hv⟩

end Go.Proofs.YtleoelhhndeheaaGreat
