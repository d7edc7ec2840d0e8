/- scc.finder.from: all that a node leads to -/
import Derived.Test.YtkflhmpecfckfaaFinC
open Go Go.RowKit
namespace Go.Proofs.Ytkflhmpecfckfaa
open Tj

/-- the path as it lies: the top last, two cells a visit -/
def P2 (path : List (Nat × Nat)) : List Value := path.reverse.flatMap fun p => [.int .i64 (p.1 : Int), .int .i64 (p.2 : Int)]
theorem P2_cons (n g : Nat) (r : List (Nat × Nat)) : P2 ((n, g) :: r) = P2 r ++ [.int .i64 (n : Int), .int .i64 (g : Int)] := by simp [P2]
theorem P2_length : ∀ (p : List (Nat × Nat)), (P2 p).length = p.length * 2
  | [] => rfl
  | (n, g) :: r => by rw [P2_cons, List.length_append, P2_length r]; simp; omega
theorem P2_node (n g : Nat) (r : List (Nat × Nat)) : (P2 ((n, g) :: r))[r.length * 2]? = some (.int .i64 (n : Int)) := by
  rw [P2_cons, List.getElem?_append_right (by rw [P2_length]; omega), P2_length, Nat.sub_self]; rfl
theorem P2_gone (n g : Nat) (r : List (Nat × Nat)) : (P2 ((n, g) :: r))[r.length * 2 + 1]? = some (.int .i64 (g : Int)) := by
  rw [P2_cons, List.getElem?_append_right (by rw [P2_length]; omega), P2_length, Nat.add_sub_cancel_left]; rfl
theorem P2_bump (n g : Nat) (r : List (Nat × Nat)) (x : Int) (hx : x = ((g + 1 : Nat) : Int)) : (P2 ((n, g) :: r)).set (r.length * 2 + 1) (.int .i64 x) = P2 ((n, g + 1) :: r) := by
  subst hx
  rw [P2_cons, P2_cons, List.set_append_right _ _ (by rw [P2_length]; omega), P2_length, Nat.add_sub_cancel_left]; rfl
theorem P2_pop (n g : Nat) (r : List (Nat × Nat)) : (P2 ((n, g) :: r)).take (r.length * 2) = P2 r := by
  rw [P2_cons, ← P2_length, List.take_left]

theorem owns_take2 {w : World} {base : Nat} {E : TypeId} {g n cap sz : Nat} {vs : List Value} (h : w.ownsRow base E sz (.slice (some ⟨g, 0, none⟩) n cap) n vs) {r : Nat} (hr : r ≤ n) : w.ownsRow base E sz (.slice (some ⟨g, 0, none⟩) r cap) r (vs.take (r * sz)) := by
  obtain ⟨h1, h2⟩ := h
  have hm : r * sz ≤ n * sz := Nat.mul_le_mul_right _ hr
  refine ⟨by simp; omega, ?_⟩
  rcases h2 with ⟨hv, _⟩ | ⟨g', cap', cur, hv, hg, hh, hn, hc, hs, ht⟩
  · cases hv
  · cases hv
    refine .inr ⟨g, cap, cur, rfl, hg, hh, by omega, hc, hs, ?_⟩
    rw [← ht, List.take_take, Nat.min_eq_left hm]
theorem Ext.owns2 {F : Nat → Prop} {w w' : World} {base : Nat} {E : TypeId} {sz : Nat} {v : Value} {n : Nat} {vs : List Value} (hb : Ext F w w') (hF : ∀ g, v.ownBlock = some g → ¬ F g) (h : w.ownsRow base E sz v n vs) : w'.ownsRow base E sz v n vs := by
  obtain ⟨h1, h2⟩ := h
  refine ⟨h1, ?_⟩
  rcases h2 with h2 | ⟨g, cap, cur, hv, hg, hh, r⟩
  · exact .inl h2
  · subst hv
    exact .inr ⟨g, cap, cur, rfl, hg, hb.blk (hF g rfl) hh, r⟩
/-- rows of other elements lie in other blocks -/
theorem owns_ne2 {w : World} {b1 b2 : Nat} {E1 E2 : TypeId} {s1 s2 : Nat} {v1 v2 : Value} {n1 n2 : Nat} {x1 x2 : List Value} (h : w.ownsRow b1 E1 s1 v1 n1 x1) (k : w.ownsRow b2 E2 s2 v2 n2 x2) (hE : E2 ≠ E1) (g : Nat) (hg : v2.ownBlock = some g) : v1.ownBlock ≠ some g := by
  rcases k.2 with ⟨hv, _⟩ | ⟨g', cap, cur, hv, _, hh, _⟩
  · subst hv; cases hg
  · subst hv
    have e : g' = g := by simpa [Value.ownBlock] using hg
    subst e
    exact owns_ne h hh hE

/-- the finder is not touched -/
theorem Fin.ext {w w' : World} {b : FB} {ev stv : Value} {N : Nat} {s : St} (h : Fin w b ev stv N s) {F : Nat → Prop} (hx : Ext F w w') (hF : ∀ k, k < b.base → ¬ F k) (hb : b.Ok) (hs : ∀ g, stv.ownBlock = some g → ¬ F g) : Fin w' b ev stv N s :=
  ⟨hx.blk (hF _ hb.l1) h.obj, hx.blk (hF _ hb.l2) h.ord, hx.blk (hF _ hb.l3) h.low, hx.blk (hF _ hb.l4) h.inS, hx.blk (hF _ hb.l5) h.part, hx.owns hs h.stk, h.small, h.clk, Nat.le_trans h.base hx.size⟩
theorem Fin.withPath {w : World} {b : FB} {ev stv : Value} {N : Nat} {s : St} (h : Fin w b ev stv N s) (p : List (Nat × Nat)) : Fin w b ev stv N { s with path := p } :=
  ⟨h.obj, h.ord, h.low, h.inS, h.part, h.stk, h.small, h.clk, h.base⟩

/-- the edges as they lie -/
structure Eds (w : World) (b : FB) (ge ce N : Nat) (E : Nat → List Nat) : Prop where
  out : ge < b.base ∧ ge ≠ b.f ∧ ge ≠ b.go ∧ ge ≠ b.gl ∧ ge ≠ b.gi ∧ ge ≠ b.gp
  row : ∀ v, v < N → ∃ a c, w.cell? ⟨ge, v, none⟩ = some (.slice a (E v).length c) ∧ IntsAt w a (E v).length c ((E v).map Int.ofNat) ∧ (0 < (E v).length → sB a < b.base ∧ sB a ≠ b.f ∧ sB a ≠ b.go ∧ sB a ≠ b.gl ∧ sB a ≠ b.gi ∧ sB a ≠ b.gp)
theorem IntsAt.ext {w w' : World} {a : Option Addr} {m c : Nat} {zs : List Int} (h : IntsAt w a m c zs) {F : Nat → Prop} (hx : Ext F w w') (hF : 0 < m → ¬ F (sB a)) : IntsAt w' a m c zs :=
  ⟨h.row.ext hx (fun hl => hF (by have := h.len; simp at hl; omega)), h.len, h.nil, h.cap, h.capm⟩
theorem Eds.ext {w w' : World} {b : FB} {ge ce N : Nat} {E : Nat → List Nat} (h : Eds w b ge ce N E) {F : Nat → Prop} (hx : Ext F w w') (hF : ∀ k, k < b.base → k ≠ b.f → k ≠ b.go → k ≠ b.gl → k ≠ b.gi → k ≠ b.gp → ¬ F k) : Eds w' b ge ce N E := by
  refine ⟨h.out, fun v hv => ?_⟩
  obtain ⟨a, c, h1, h2, h3⟩ := h.row v hv
  obtain ⟨o1, o2, o3, o4, o5, o6⟩ := h.out
  refine ⟨a, c, hx.cell (hF _ o1 o2 o3 o4 o5 o6) h1, h2.ext hx (fun ha => ?_), h3⟩
  obtain ⟨p1, p2, p3, p4, p5, p6⟩ := h3 ha
  exact hF _ p1 p2 p3 p4 p5 p6

/-- how many nodes were met -/
def met (N : Nat) (f : Nat → Nat) : Nat := ((List.range N).map fun v => if f v = 0 then 0 else 1).sum
theorem sum_le_length {l : List Nat} {g : Nat → Nat} (h : ∀ v, g v ≤ 1) : (l.map g).sum ≤ l.length := by
  induction l with
  | nil => simp
  | cons x l ih => simp only [List.map_cons, List.sum_cons, List.length_cons]; have := h x; omega
theorem met_le (N : Nat) (f : Nat → Nat) : met N f ≤ N := by
  have := sum_le_length (l := List.range N) (g := fun v => if f v = 0 then 0 else 1) (fun v => by split <;> omega)
  simpa [met] using this
theorem met_upd {N : Nat} {f : Nat → Nat} {k c : Nat} (hk : k < N) (h0 : f k = 0) (hc : c ≠ 0) : met N (upd f k c) = met N f + 1 := by
  have := sum_upd (List.range N) List.nodup_range (fun v => if f v = 0 then 0 else 1) (fun v => if upd f k c v = 0 then 0 else 1) k (List.mem_range.2 hk) (fun v hv => by simp only [upd_ne f c hv])
  simp only [h0, if_true, upd_same, hc, if_false] at this
  unfold met
  omega
/-- the clock counts them -/
def Cnt (N : Nat) (s : St) : Prop := s.clk = met N s.ord
theorem Cnt.enter {N : Nat} {s : St} (h : Cnt N s) {k : Nat} (hk : k < N) (h0 : s.ord k = 0) : Cnt N (s.enter k) := by
  show s.clk + 1 = met N (upd s.ord k (s.clk + 1))
  rw [met_upd hk h0 (by omega), h]
theorem close_clk (s : St) (k : Nat) : (s.close k).clk = s.clk := by unfold St.close; split <;> rfl
theorem pop_clk (s : St) (n : Nat) (r : List (Nat × Nat)) : (s.pop n r).clk = s.clk := by cases r <;> rfl
theorem Cnt.round {N : Nat} {E : Nat → List Nat} {s : St} (h : Cnt N s) (hI : Inv N E s) (hE : ∀ v, ∀ u ∈ E v, u < N) : Cnt N (s.round E) := by
  unfold St.round
  split
  · exact h
  · rename_i n g r hp
    split
    · show ((s.close n).pop n r).clk = met N ((s.close n).pop n r).ord
      rw [pop_clk, pop_ord, close_clk, close_ord]; exact h
    · rename_i hg
      have hle := (hI.sub (n, g) (by rw [hp]; simp)).2
      simp only at hle
      have hmem : (E n).getD g 0 ∈ E n := by
        have hlt : g < (E n).length := by omega
        have : (E n).getD g 0 = (E n)[g] := by simp [List.getD, hlt]
        rw [this]; exact List.getElem_mem _
      simp only
      split
      · rename_i h0
        exact Cnt.enter (s := { s with path := (n, g + 1) :: r }) h (hE _ _ hmem) h0
      · split <;> exact h
theorem Cnt.le {N : Nat} {s : St} (h : Cnt N s) : s.clk ≤ N := by rw [h]; exact met_le _ _
theorem desc_length {f : Nat → Nat} : ∀ {l : List Nat}, l.Pairwise (fun a b => f b < f a) → (∀ v ∈ l, 0 < f v) → ∀ c, (∀ v ∈ l, f v ≤ c) → l.length ≤ c
  | [], _, _, c, _ => Nat.zero_le _
  | x :: l, hs, hp, c, hc => by
    rw [List.pairwise_cons] at hs
    have h1 := hc x (by simp)
    have h2 := hp x (by simp)
    have := desc_length hs.2 (fun v hv => hp v (List.mem_cons_of_mem _ hv)) (c - 1) (fun v hv => by have := hs.1 v hv; omega)
    simp; omega
theorem Inv.stk_le {N : Nat} {E : Nat → List Nat} {s : St} (h : Inv N E s) : s.stk.length ≤ s.clk :=
  desc_length h.sorted h.pos _ (fun v _ => h.clk v)
theorem Inv.path_le {N : Nat} {E : Nat → List Nat} {s : St} (h : Inv N E s) : s.path.length ≤ s.clk := by
  have := desc_length (f := s.ord) (l := s.path.map (·.1)) (by rw [List.pairwise_map]; exact h.psorted) (fun v hv => by
    obtain ⟨p, hp, rfl⟩ := List.mem_map.1 hv
    exact h.pos _ (h.sub p hp).1) s.clk (fun v _ => h.clk v)
  simpa using this

theorem round_close {E : Nat → List Nat} {s : St} {n g : Nat} {r : List (Nat × Nat)} (hp : s.path = (n, g) :: r) (hg : g = (E n).length) : s.round E = (s.close n).pop n r := by
  unfold St.round; rw [hp]; simp only; rw [if_pos hg]
theorem round_enter {E : Nat → List Nat} {s : St} {n g : Nat} {r : List (Nat × Nat)} (hp : s.path = (n, g) :: r) (hg : g ≠ (E n).length) (h0 : s.ord ((E n).getD g 0) = 0) : s.round E = St.enter { s with path := (n, g + 1) :: r } ((E n).getD g 0) := by
  unfold St.round; rw [hp]; simp only; rw [if_neg hg, if_pos h0]
theorem round_low {E : Nat → List Nat} {s : St} {n g : Nat} {r : List (Nat × Nat)} (hp : s.path = (n, g) :: r) (hg : g ≠ (E n).length) (h0 : s.ord ((E n).getD g 0) ≠ 0) (h1 : s.inS ((E n).getD g 0) = true) : s.round E = { s with path := (n, g + 1) :: r, low := upd s.low n (min (s.low n) (s.ord ((E n).getD g 0))) } := by
  unfold St.round; rw [hp]; simp only; rw [if_neg hg, if_neg h0, if_pos h1]
theorem round_skip {E : Nat → List Nat} {s : St} {n g : Nat} {r : List (Nat × Nat)} (hp : s.path = (n, g) :: r) (hg : g ≠ (E n).length) (h0 : s.ord ((E n).getD g 0) ≠ 0) (h1 : s.inS ((E n).getD g 0) = false) : s.round E = { s with path := (n, g + 1) :: r } := by
  unfold St.round; rw [hp]; simp only; rw [if_neg hg, if_neg h0, if_neg (by rw [h1]; decide)]

theorem iV : (Try.prog.info? 46).map (fun i => (i.zero, i.size, i.bytes)) = some (some (.agg #[.int .i64 0, .int .i64 0]), 2, 16) := by kernel_rfl
theorem szV : (Try.prog.info? 46).map (·.size) = some 2 := by kernel_rfl

end Go.Proofs.Ytkflhmpecfckfaa
