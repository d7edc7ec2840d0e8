/- append of any slice of one-cell elements to a row that is one's own: the argument may be nil -/
import Derived.Test.YtkflhmpecfckfaaRow
import Derived.Laws.AppendOwn
import Derived.Laws.AppendOwnNone
open Go Go.RowKit
namespace Go.Proofs.Ytkflhmpecfckfaa

theorem wpList_append_row {P : Program} {w : World} {ops : Array Oper} {rest : List Oper} {o : Oper} {act : Act} {Q : Exit → Act → World → Prop} (hgd : o.guard = none) (s x : Operand) (t : TypeId)
    (ho : o.op = .call { callee := .builtin .append, args := #[s, x], argTypes := #[t, t] })
    (base : Nat) (e : TypeId) (i : TypeInfo) (z : Value) (ht : P.underlying t = some (.slice e)) (hi : P.info? e = some i) (hz : i.zero = some z)
    (hsize : i.size = 1) (hby : i.bytes ≤ 8) (hzs : z.cells.size = 1)
    (v : Value) (n : Nat) (xs : List Value) (hs : act.eval s = v) (hown : w.ownsRow base e 1 v n xs)
    (a : Option Addr) (m c : Nat) (news : List Value) (hx : act.eval x = .slice a m c) (hr : Row w a news) (hl : news.length = m) (hn : a = none → m = 0 ∧ c = 0) (h1 : ∀ u ∈ news, u.oneCell' = true)
    (hbytes : (n + m) * 8 ≤ 140737488355328) (hbase : base ≤ w.heap.size)
    (h : ∀ v' w', w'.ownsRow base e 1 v' (n + m) (xs ++ news) → Below base w w' → (v' = .slice none 0 0 → v = .slice none 0 0) → wpList P ops Q rest (act.put o.dst v') w') : wpList P ops Q (o :: rest) act w := by
  have hk : ∀ k, v.ownBlock = some k → base ≤ k := by
    intro k hk
    rcases hown.2 with ⟨h2, _⟩ | ⟨g, cap, cur, hv, hg, _⟩
    · subst h2; cases hk
    · subst hv; cases hk; exact hg
  cases a with
  | none =>
    obtain ⟨rfl, rfl⟩ := hn rfl
    have : news = [] := List.eq_nil_of_length_eq_zero hl
    subst this
    refine wpList_append_own_none hgd s x t ho base e i 1 ht hi v n xs hs hown hx (h v w (by simpa using hown) (Below.refl _ _) id)
  | some ad =>
    refine wpList_append_own w hgd s x t ho base e i z 1 i.bytes ht hi hz hsize rfl hzs (by decide) v n xs hs hown ad m c news hx (by omega) hr.news h1 (by simp only [maxLen]; omega) ?_ hbase ?_
    · have := Nat.mul_le_mul_left (n + m) hby
      omega
    · intro v' w' h2 h3 h4
      exact h v' w' h2 ((Below.refl _ _).grown h3 hbase hk) (fun h => (h4.1 h).1)

/-- the same, and only its own block may have turned -/
theorem wpList_append_rowG {P : Program} {w : World} {ops : Array Oper} {rest : List Oper} {o : Oper} {act : Act} {Q : Exit → Act → World → Prop} (hgd : o.guard = none) (s x : Operand) (t : TypeId)
    (ho : o.op = .call { callee := .builtin .append, args := #[s, x], argTypes := #[t, t] })
    (base : Nat) (e : TypeId) (i : TypeInfo) (z : Value) (ht : P.underlying t = some (.slice e)) (hi : P.info? e = some i) (hz : i.zero = some z)
    (hsize : i.size = 1) (hby : i.bytes ≤ 8) (hzs : z.cells.size = 1)
    (v : Value) (n : Nat) (xs : List Value) (hs : act.eval s = v) (hown : w.ownsRow base e 1 v n xs)
    (a : Option Addr) (m c : Nat) (news : List Value) (hx : act.eval x = .slice a m c) (hr : Row w a news) (hl : news.length = m) (hn : a = none → m = 0 ∧ c = 0) (h1 : ∀ u ∈ news, u.oneCell' = true)
    (hbytes : (n + m) * 8 ≤ 140737488355328) (hbase : base ≤ w.heap.size)
    (h : ∀ v' w', w'.ownsRow base e 1 v' (n + m) (xs ++ news) → w.grownBy w' v.ownBlock → wpList P ops Q rest (act.put o.dst v') w') : wpList P ops Q (o :: rest) act w := by
  cases a with
  | none =>
    obtain ⟨rfl, rfl⟩ := hn rfl
    have : news = [] := List.eq_nil_of_length_eq_zero hl
    subst this
    refine wpList_append_own_none hgd s x t ho base e i 1 ht hi v n xs hs hown hx (h v w (by simpa using hown) (World.grownBy.refl _ _))
  | some ad =>
    refine wpList_append_own w hgd s x t ho base e i z 1 i.bytes ht hi hz hsize rfl hzs (by decide) v n xs hs hown ad m c news hx (by omega) hr.news h1 (by simp only [maxLen]; omega) ?_ hbase ?_
    · have := Nat.mul_le_mul_left (n + m) hby
      omega
    · intro v' w' h2 h3 h4
      exact h v' w' h2 h3

theorem Ext.of_grown {w w' : World} {row : Option Nat} (h : w.grownBy w' row) : Ext (fun k => row = some k) w w' :=
  ⟨h.os, h.tape, h.output, h.size, fun k hk hF => h.block k hk (fun e => hF e.symm)⟩
/-- a block of other elements is not the row's -/
theorem owns_ne {w : World} {base : Nat} {E : TypeId} {sz : Nat} {v : Value} {n : Nat} {xs : List Value} (h : w.ownsRow base E sz v n xs) {k : Nat} {c : Array Value} {t : TypeId} {f : Nat × Nat} (hk : w.heap[k]? = some (.cells c t f)) (ht : t ≠ E) : v.ownBlock ≠ some k := by
  rcases h.2 with ⟨hv, _⟩ | ⟨g, cap, cur, hv, hg, hh, _⟩
  · subst hv; intro e; cases e
  · subst hv
    intro e
    have e : g = k := by simpa [Value.ownBlock] using e
    subst e
    rw [hk] at hh
    cases hh
    exact ht rfl

theorem owns_cap {w : World} {base : Nat} {E : TypeId} {a : Option Addr} {m c n : Nat} {vs : List Value} (h : w.ownsRow base E 1 (.slice a m c) n vs) : a = none → m = 0 ∧ c = 0 := by
  rintro rfl
  rcases h.2 with ⟨h2, _⟩ | ⟨g, cap, cur, hv, _⟩
  · cases h2; exact ⟨rfl, rfl⟩
  · cases hv

end Go.Proofs.Ytkflhmpecfckfaa
